/- Views, forests, ways in them; what any core tells. -/
import Derived.Test.YtfeepbajipdfaaaTAtF
namespace Go.Proofs.Ytfeepbajipdfaaa.T.V
open Go.Vm Go.Tm
set_option linter.unusedVariables false
set_option linter.unusedSimpArgs false
abbrev K:=Int × Int × Int × Int × Bool
abbrev Vw:=List Int × List K
def cmpI (a b:Int):Int:=if a<b then -1 else if b<a then 1 else 0
theorem compare_r (a b:Int):cmp_Compare_int_r a b=(true,cmpI a b):=by
 unfold cmp_Compare_int_r cmp_isNaN_int_r cmpI
 by_cases h1:a<b<;>by_cases h2:b<a<;>simp [h1,h2]
theorem or_r (a b:Int):cmp_Or_int_r [a,b]=(true,if a=0 then b else a):=by
 have key:∃ x e,loopD 0 [.int .i64] [.bool,.int .i64,.bool] (cmp_Or_int_l0 [a,b]) ((0:Int),())=(true,x,(if a=0 then b else a),e,())∧(e=true→(if a=0 then b else a)=0):=by
  by_cases ha:a=0
  ·have h0:RGo (cmp_Or_int_l0 [a,b] ((0:Int),())) ((1:Int),()):=by
    unfold cmp_Or_int_l0 RGo; simp [ha,wrap_i64]<;>rfl
   have e0:=h0.go (d:=HL.dflt [.bool,.int .i64,.bool])
   by_cases hb:b=0
   ·have h1:RGo (cmp_Or_int_l0 [a,b] ((1:Int),())) ((2:Int),()):=by
     unfold cmp_Or_int_l0 RGo; simp [hb,wrap_i64]<;>rfl
    have e1:=h1.go (d:=HL.dflt [.bool,.int .i64,.bool])
    have h2:REnd (cmp_Or_int_l0 [a,b] ((2:Int),())) (false,(0:Int),true,()):=by
     unfold cmp_Or_int_l0 REnd; simp<;>rfl
    refine ⟨false,true,?_,fun _=>by simp [ha,hb]⟩
    rw [if_pos ha]
    conv=>rhs; rw [hb]
    exact ((e0.trans e1).trans (h2.end (d:=HL.dflt [.bool,.int .i64,.bool]))).trans rfl
   ·have h1:REnd (cmp_Or_int_l0 [a,b] ((1:Int),())) (true,b,false,()):=by
     unfold cmp_Or_int_l0 REnd; simp [hb,bneI hb]<;>rfl
    refine ⟨true,false,?_,fun h=>by cases h⟩
    rw [if_pos ha]
    exact e0.trans (h1.end (d:=HL.dflt [.bool,.int .i64,.bool]))
  ·have h0:REnd (cmp_Or_int_l0 [a,b] ((0:Int),())) (true,a,false,()):=by
    unfold cmp_Or_int_l0 REnd; simp [ha,bneI ha]<;>rfl
   refine ⟨true,false,?_,fun h=>by cases h⟩
   rw [if_neg ha]
   exact h0.end (d:=HL.dflt [.bool,.int .i64,.bool])
 obtain ⟨x,e,key,he⟩:=key
 unfold cmp_Or_int_r
 rw [key]
 cases e with
 | true=>simp [he rfl]
 | false=>rfl
def ordK (a b:K):Int:=if cmpI a.1 b.1=0 then cmpI a.2.1 b.2.1 else cmpI a.1 b.1
def aheadB (a b:K):Bool:=decide (a.1<b.1) || (decide (a.1=b.1) && decide (a.2.1<b.2.1))
theorem cmpI_cases (a b:Int):(cmpI a b= -1∧a<b)∨(cmpI a b=0∧a=b)∨(cmpI a b=1∧b<a):=by
 unfold cmpI
 rcases Int.lt_trichotomy a b with h | h | h
 ·simp [h]
 ·simp [h]
 ·have:¬ a<b:=by omega
  simp [h,this]
theorem order_r (a b:K):view_order_r a b=(true,ordK a b):=by
 unfold view_order_r ordK
 simp only [compare_r,or_r]
 simp
theorem ordK_lt (a b:K):(ordK a b<0↔aheadB a b=true)∧(ordK a b=0↔a.1=b.1∧a.2.1=b.2.1):=by
 unfold ordK aheadB
 rcases cmpI_cases a.1 b.1 with ⟨h,h'⟩ | ⟨h,h'⟩ | ⟨h,h'⟩<;>rcases cmpI_cases a.2.1 b.2.1 with ⟨k,k'⟩ | ⟨k,k'⟩ | ⟨k,k'⟩<;>rw [h]<;>simp [k,h']<;>omega
def nodeB (n:Int):Bool:=decide (1≤n∧n≤64)
theorem node_r (n:Int):edge_Node_r n=(true,nodeB n):=by
 unfold edge_Node_r nodeB
 by_cases h1:1≤n<;>by_cases h2:n≤64<;>simp [h1,h2]
theorem refNode_r (n:Int):withyref05_Node_r n=(true,nodeB n):=by
 unfold withyref05_Node_r nodeB
 by_cases h1:1≤n<;>by_cases h2:n≤64<;>simp [h1,h2]
theorem getD_at {α:Type} {l:List α} {i:Nat} (d:α) (h:i<l.length):(l[i]?).getD d=l[i]:=by simp [h]
theorem contains_r (l:List Int) (x:Int) (hl:l.length≤1000):slices_Contains_int_r l x=(true,decide (x∈l)):=by
 unfold slices_Contains_int_r slices_Index_int_r
 rcases loop_find (d:=HL.dflt [.bool,.int .i64,.bool]) (step:=slices_Index_int_l0 l x) l.length (fun i=>(l[i]?).getD 0=x) (fun i=>(true,(i:Int),false,())) (false,(l.length:Int),true,()) (fun i hi=>by
   unfold slices_Index_int_l0 RGo REnd
   constructor
   ·intro h; simp [hi] at h ⊢; simp [h]<;>rfl
   ·intro h
    simp [hi] at h ⊢
    have:¬ x=l[i]:=fun e=>h e.symm
    simp [this,beqI this,wrap_i64 (x:=(i:Int)+1) (by omega) (by omega)]<;>rfl) (by unfold slices_Index_int_l0 REnd; simp<;>rfl) with ⟨i,hi,h1,h2,h3⟩ | ⟨h1,h3⟩
 ·rw [show loopD 0 [.int .i64] [.bool,.int .i64,.bool] (slices_Index_int_l0 l x) ((0:Int),())=(true,true,(i:Int),false,()) from h3]
  have:x∈l:=by rw [getD_at 0 hi] at h1; rw [← h1]; exact List.getElem_mem hi
  simp [this]
 ·rw [show loopD 0 [.int .i64] [.bool,.int .i64,.bool] (slices_Index_int_l0 l x) ((0:Int),())=(true,false,(l.length:Int),true,()) from h3]
  have:x ∉ l:=fun hx=>by
   obtain ⟨i,hi,he⟩:=List.getElem_of_mem hx
   exact h1 i hi (by rw [getD_at 0 hi]; exact he)
  simp [this]
theorem in_r (l:List Int) (x:Int) (hl:l.length≤1000):withyref09_in_r l x=(true,decide (x∈l)):=by
 unfold withyref09_in_r
 rcases loop_find (d:=HL.dflt [.bool,.bool,.bool]) (step:=withyref09_in_l0 l x) l.length (fun i=>(l[i]?).getD 0=x) (fun i=>(true,true,false,())) (false,true,true,()) (fun i hi=>by
   unfold withyref09_in_l0 RGo REnd
   constructor
   ·intro h; simp [hi] at h ⊢; simp [h]<;>rfl
   ·intro h
    simp [hi] at h ⊢
    simp [h,beqI h,wrap_i64 (x:=(i:Int)+1) (by omega) (by omega)]<;>rfl) (by unfold withyref09_in_l0 REnd; simp<;>rfl) with ⟨i,hi,h1,h2,h3⟩ | ⟨h1,h3⟩
 ·rw [show loopD 0 [.int .i64] [.bool,.bool,.bool] (withyref09_in_l0 l x) ((0:Int),())=(true,true,true,false,()) from h3]
  have:x∈l:=by rw [getD_at 0 hi] at h1; rw [← h1]; exact List.getElem_mem hi
  simp [this]
 ·rw [show loopD 0 [.int .i64] [.bool,.bool,.bool] (withyref09_in_l0 l x) ((0:Int),())=(true,false,true,true,()) from h3]
  have:x ∉ l:=fun hx=>by
   obtain ⟨i,hi,he⟩:=List.getElem_of_mem hx
   exact h1 i hi (by rw [getD_at 0 hi]; exact he)
  simp [this]
theorem cond_ct (c x:Bool):(cond c (c && x) true)=(!c || x):=by cases c<;>rfl
theorem cond_tc (c x:Bool):(cond c true x)=(c || x):=by cases c<;>rfl
theorem cond_cf (c x:Bool):(cond c x false)=(c && x):=by cases c<;>rfl
theorem cond_ft (c x:Bool):(cond c x true)=(!c || x):=by cases c<;>rfl
abbrev kd:K:=(0,0,0,0,false)
def nodeOk (l:List Int) (i:Nat):Prop:=nodeB ((l[i]?).getD 0)=true∧(0<i→(l[i - 1]?).getD 0<(l[i]?).getD 0)
def plainOk (ns:List Int) (k:K):Prop:=k.1∈ns∧nodeB k.2.1=true∧¬ k.2.1=k.1∧0≤k.2.2.1∧k.2.2.1≤2147483647∧1≤k.2.2.2.1∧k.2.2.2.1≤2147483647
def linkOk (v:Vw) (i:Nat):Prop:=plainOk v.1 ((v.2[i]?).getD kd)∧(0<i→aheadB ((v.2[i - 1]?).getD kd) ((v.2[i]?).getD kd)=true)
theorem wrap_pred {i:Nat} (h:0<i) (hi:i≤1000):IntKind.i64.wrap ((i:Int) - 1)=((i - 1:Nat):Int):=by
 rw [wrap_i64 (by omega) (by omega)]; omega
theorem check0 (v:Vw) (h1:v.1.length≤70) (i:Nat) (hi:i<v.1.length):(¬ nodeOk v.1 i→REnd (view_Check_l0 v ((i:Int),())) (true,(1:Int),false,()))∧(nodeOk v.1 i→RGo (view_Check_l0 v ((i:Int),())) (((i+1:Nat):Int),())):=by
 unfold view_Check_l0 REnd RGo nodeOk
 simp only [node_r]
 rcases Nat.eq_zero_or_pos i with rfl | hp
 ·cases a:nodeB ((v.1[0]?).getD 0)<;>simp [hi,wrap_i64,a] at a ⊢<;>simp [a]
 ·have e1:=wrap_pred hp (by omega)
  have e2:i - 1<v.1.length:=by omega
  have e3:=wrap_i64 (x:=(i:Int)+1) (by omega) (by omega)
  cases a:nodeB ((v.1[i]?).getD 0)
  ·simp [hi,hp,e1,e2,e3] at a ⊢; simp [a]
  ·by_cases b:(v.1[i - 1]?).getD 0<(v.1[i]?).getD 0
   ·simp [hi,hp,e1,e2,e3] at a b ⊢; simp [a,b]
   ·simp [hi,hp,e1,e2,e3] at a b ⊢; simp [a,b]
theorem may0 (v:Vw) (h1:v.1.length≤70) (i:Nat) (hi:i<v.1.length):(¬ nodeOk v.1 i→REnd (withyref09_May_l0 v ((i:Int),())) (true,false,false,()))∧(nodeOk v.1 i→RGo (withyref09_May_l0 v ((i:Int),())) (((i+1:Nat):Int),())):=by
 unfold withyref09_May_l0 REnd RGo nodeOk
 simp only [refNode_r]
 rcases Nat.eq_zero_or_pos i with rfl | hp
 ·cases a:nodeB ((v.1[0]?).getD 0)<;>simp [hi,wrap_i64,a] at a ⊢<;>simp [a]
 ·have e1:=wrap_pred hp (by omega)
  have e2:i - 1<v.1.length:=by omega
  have e3:=wrap_i64 (x:=(i:Int)+1) (by omega) (by omega)
  cases a:nodeB ((v.1[i]?).getD 0)
  ·simp [hi,hp,e1,e2,e3] at a ⊢; simp [a]
  ·by_cases b:(v.1[i - 1]?).getD 0<(v.1[i]?).getD 0
   ·simp [hi,hp,e1,e2,e3] at a b ⊢; simp [a,b]
   ·simp [hi,hp,e1,e2,e3] at a b ⊢; simp [a,b]
theorem aheadR (a b:K):withyref09_ahead_r a b=(true,aheadB a b):=by
 unfold withyref09_ahead_r aheadB
 by_cases h1:a.1<b.1<;>by_cases h2:a.1=b.1<;>by_cases h3:a.2.1<b.2.1<;>simp [h1,h2,h3,beqI]
theorem check1 (v:Vw) (h1:v.1.length≤70) (h2:v.2.length≤200) (i:Nat) (hi:i<v.2.length):(¬ linkOk v i→REnd (view_Check_l1 v ((i:Int),())) (true,(1:Int),false,()))∧(linkOk v i→RGo (view_Check_l1 v ((i:Int),())) (((i+1:Nat):Int),())):=by
 unfold view_Check_l1 REnd RGo linkOk plainOk
 simp only [node_r,contains_r v.1 _ (by omega:v.1.length≤1000),order_r]
 have hw:=wrap_i64 (x:=(i:Int)+1) (by omega) (by omega)
 rcases Nat.eq_zero_or_pos i with rfl | hp
 ·generalize hk:(v.2[0]?).getD kd=k
  have hk':(v.2[0]?).getD ((0:Int),((0:Int),((0:Int),((0:Int),false))))=k:=hk
  simp only [Int.ofNat_zero,Int.toNat_natCast,Int.toNat_zero,hk']
  by_cases c0:nodeB k.2.1=true
  rotate_left
  ·simp [hi,hw,wrap_i64,c0]
  by_cases c1:¬ k.2.1=k.1
  rotate_left
  ·have c1':=Classical.not_not.1 c1
   simp [hi,hw,wrap_i64,c0,c1']
  by_cases c2:0≤k.2.2.1
  rotate_left
  ·simp [hi,hw,wrap_i64,c0,c1,beqI c1,beqI (fun e=>c1 e.symm),(fun e=>c1 e.symm:¬ k.1=k.2.1),c2,Int.not_le.1 c2]
  by_cases c3:k.2.2.1≤2147483647
  rotate_left
  ·simp [hi,hw,wrap_i64,c0,c1,c2,beqI c1,beqI (fun e=>c1 e.symm),(fun e=>c1 e.symm:¬ k.1=k.2.1),(Int.not_lt.2 c2),c3,Int.not_le.1 c3]
  by_cases c4:1≤k.2.2.2.1
  rotate_left
  ·simp [hi,hw,wrap_i64,c0,c1,c2,c3,beqI c1,beqI (fun e=>c1 e.symm),(fun e=>c1 e.symm:¬ k.1=k.2.1),(Int.not_lt.2 c2),(Int.not_lt.2 c3),c4,Int.not_le.1 c4]
  by_cases c5:k.2.2.2.1≤2147483647
  rotate_left
  ·simp [hi,hw,wrap_i64,c0,c1,c2,c3,c4,beqI c1,beqI (fun e=>c1 e.symm),(fun e=>c1 e.symm:¬ k.1=k.2.1),(Int.not_lt.2 c2),(Int.not_lt.2 c3),(Int.not_lt.2 c4),c5,Int.not_le.1 c5]
  by_cases c6:k.1∈v.1
  rotate_left
  ·simp [hi,hw,wrap_i64,c0,c1,c2,c3,c4,c5,beqI c1,beqI (fun e=>c1 e.symm),(fun e=>c1 e.symm:¬ k.1=k.2.1),(Int.not_lt.2 c2),(Int.not_lt.2 c3),(Int.not_lt.2 c4),(Int.not_lt.2 c5),c6]
  simp [hi,hw,wrap_i64,c0,c1,c2,c3,c4,c5,c6,beqI c1,beqI (fun e=>c1 e.symm),(fun e=>c1 e.symm:¬ k.1=k.2.1),(Int.not_lt.2 c2),(Int.not_lt.2 c3),(Int.not_lt.2 c4),(Int.not_lt.2 c5)]
 ·have e1:=wrap_pred hp (by omega)
  have e2:i - 1<v.2.length:=by omega
  generalize hk:(v.2[i]?).getD kd=k
  have hk':(v.2[i]?).getD ((0:Int),((0:Int),((0:Int),((0:Int),false))))=k:=hk
  generalize hj:(v.2[i - 1]?).getD kd=j
  have hj':(v.2[i - 1]?).getD ((0:Int),((0:Int),((0:Int),((0:Int),false))))=j:=hj
  simp only [Int.toNat_natCast,e1,hk',hj']
  clear hk hj hk' hj'
  by_cases c0:nodeB k.2.1=true
  rotate_left
  ·simp [hi,hw,hp,e1,e2,c0]
  by_cases c1:¬ k.2.1=k.1
  rotate_left
  ·have c1':=Classical.not_not.1 c1
   simp [hi,hw,hp,e1,e2,c0,c1']
  by_cases c2:0≤k.2.2.1
  rotate_left
  ·simp [hi,hw,hp,e1,e2,c0,c1,beqI c1,beqI (fun e=>c1 e.symm),(fun e=>c1 e.symm:¬ k.1=k.2.1),c2,Int.not_le.1 c2]
  by_cases c3:k.2.2.1≤2147483647
  rotate_left
  ·simp [hi,hw,hp,e1,e2,c0,c1,c2,beqI c1,beqI (fun e=>c1 e.symm),(fun e=>c1 e.symm:¬ k.1=k.2.1),(Int.not_lt.2 c2),c3,Int.not_le.1 c3]
  by_cases c4:1≤k.2.2.2.1
  rotate_left
  ·simp [hi,hw,hp,e1,e2,c0,c1,c2,c3,beqI c1,beqI (fun e=>c1 e.symm),(fun e=>c1 e.symm:¬ k.1=k.2.1),(Int.not_lt.2 c2),(Int.not_lt.2 c3),c4,Int.not_le.1 c4]
  by_cases c5:k.2.2.2.1≤2147483647
  rotate_left
  ·simp [hi,hw,hp,e1,e2,c0,c1,c2,c3,c4,beqI c1,beqI (fun e=>c1 e.symm),(fun e=>c1 e.symm:¬ k.1=k.2.1),(Int.not_lt.2 c2),(Int.not_lt.2 c3),(Int.not_lt.2 c4),c5,Int.not_le.1 c5]
  by_cases c6:k.1∈v.1
  rotate_left
  ·simp [hi,hw,hp,e1,e2,c0,c1,c2,c3,c4,c5,beqI c1,beqI (fun e=>c1 e.symm),(fun e=>c1 e.symm:¬ k.1=k.2.1),(Int.not_lt.2 c2),(Int.not_lt.2 c3),(Int.not_lt.2 c4),(Int.not_lt.2 c5),c6]
  have ho:=(ordK_lt j k).1
  by_cases d:aheadB j k=true
  ·have d':=ho.2 d
   simp [hi,hw,hp,e1,e2,c0,c1,c2,c3,c4,c5,c6,beqI c1,beqI (fun e=>c1 e.symm),(fun e=>c1 e.symm:¬ k.1=k.2.1),(Int.not_lt.2 c2),(Int.not_lt.2 c3),(Int.not_lt.2 c4),(Int.not_lt.2 c5),d,d',Int.not_le.2 d']
  ·have d':¬ ordK j k<0:=fun hh=>d (ho.1 hh)
   have d2:0≤ordK j k:=by omega
   simp [hi,hw,hp,e1,e2,c0,c1,c2,c3,c4,c5,c6,beqI c1,beqI (fun e=>c1 e.symm),(fun e=>c1 e.symm:¬ k.1=k.2.1),(Int.not_lt.2 c2),(Int.not_lt.2 c3),(Int.not_lt.2 c4),(Int.not_lt.2 c5),d,d',d2]
theorem may1 (v:Vw) (h1:v.1.length≤70) (h2:v.2.length≤200) (i:Nat) (hi:i<v.2.length):(¬ linkOk v i→REnd (withyref09_May_l1 v ((i:Int),())) (true,false,false,()))∧(linkOk v i→RGo (withyref09_May_l1 v ((i:Int),())) (((i+1:Nat):Int),())):=by
 unfold withyref09_May_l1 REnd RGo linkOk plainOk
 simp only [refNode_r,in_r v.1 _ (by omega:v.1.length≤1000),aheadR]
 have hw:=wrap_i64 (x:=(i:Int)+1) (by omega) (by omega)
 rcases Nat.eq_zero_or_pos i with rfl | hp
 ·generalize hk:(v.2[0]?).getD kd=k
  have hk':(v.2[0]?).getD ((0:Int),((0:Int),((0:Int),((0:Int),false))))=k:=hk
  simp only [Int.ofNat_zero,Int.toNat_natCast,Int.toNat_zero,hk']
  by_cases c0:k.1∈v.1
  rotate_left
  ·simp [hi,hw,wrap_i64,c0]
  by_cases c1:nodeB k.2.1=true
  rotate_left
  ·simp [hi,hw,wrap_i64,c0,c1]
  by_cases c2:¬ k.2.1=k.1
  rotate_left
  ·have c2':=Classical.not_not.1 c2
   simp [hi,hw,wrap_i64,c0,c1,c2']
  by_cases c3:0≤k.2.2.1
  rotate_left
  ·simp [hi,hw,wrap_i64,c0,c1,c2,beqI c2,beqI (fun e=>c2 e.symm),(fun e=>c2 e.symm:¬ k.1=k.2.1),c3,Int.not_le.1 c3]
  by_cases c4:k.2.2.1≤2147483647
  rotate_left
  ·simp [hi,hw,wrap_i64,c0,c1,c2,c3,beqI c2,beqI (fun e=>c2 e.symm),(fun e=>c2 e.symm:¬ k.1=k.2.1),(Int.not_lt.2 c3),c4,Int.not_le.1 c4]
  by_cases c5:1≤k.2.2.2.1
  rotate_left
  ·simp [hi,hw,wrap_i64,c0,c1,c2,c3,c4,beqI c2,beqI (fun e=>c2 e.symm),(fun e=>c2 e.symm:¬ k.1=k.2.1),(Int.not_lt.2 c3),(Int.not_lt.2 c4),c5,Int.not_le.1 c5]
  by_cases c6:k.2.2.2.1≤2147483647
  rotate_left
  ·simp [hi,hw,wrap_i64,c0,c1,c2,c3,c4,c5,beqI c2,beqI (fun e=>c2 e.symm),(fun e=>c2 e.symm:¬ k.1=k.2.1),(Int.not_lt.2 c3),(Int.not_lt.2 c4),(Int.not_lt.2 c5),c6,Int.not_le.1 c6]
  simp [hi,hw,wrap_i64,c0,c1,c2,c3,c4,c5,c6,beqI c2,beqI (fun e=>c2 e.symm),(fun e=>c2 e.symm:¬ k.1=k.2.1),(Int.not_lt.2 c3),(Int.not_lt.2 c4),(Int.not_lt.2 c5),(Int.not_lt.2 c6)]
 ·have e1:=wrap_pred hp (by omega)
  have e2:i - 1<v.2.length:=by omega
  generalize hk:(v.2[i]?).getD kd=k
  have hk':(v.2[i]?).getD ((0:Int),((0:Int),((0:Int),((0:Int),false))))=k:=hk
  generalize hj:(v.2[i - 1]?).getD kd=j
  have hj':(v.2[i - 1]?).getD ((0:Int),((0:Int),((0:Int),((0:Int),false))))=j:=hj
  simp only [Int.toNat_natCast,e1,hk',hj']
  clear hk hj hk' hj'
  by_cases c0:k.1∈v.1
  rotate_left
  ·simp [hi,hw,hp,e1,e2,c0]
  by_cases c1:nodeB k.2.1=true
  rotate_left
  ·simp [hi,hw,hp,e1,e2,c0,c1]
  by_cases c2:¬ k.2.1=k.1
  rotate_left
  ·have c2':=Classical.not_not.1 c2
   simp [hi,hw,hp,e1,e2,c0,c1,c2']
  by_cases c3:0≤k.2.2.1
  rotate_left
  ·simp [hi,hw,hp,e1,e2,c0,c1,c2,beqI c2,beqI (fun e=>c2 e.symm),(fun e=>c2 e.symm:¬ k.1=k.2.1),c3,Int.not_le.1 c3]
  by_cases c4:k.2.2.1≤2147483647
  rotate_left
  ·simp [hi,hw,hp,e1,e2,c0,c1,c2,c3,beqI c2,beqI (fun e=>c2 e.symm),(fun e=>c2 e.symm:¬ k.1=k.2.1),(Int.not_lt.2 c3),c4,Int.not_le.1 c4]
  by_cases c5:1≤k.2.2.2.1
  rotate_left
  ·simp [hi,hw,hp,e1,e2,c0,c1,c2,c3,c4,beqI c2,beqI (fun e=>c2 e.symm),(fun e=>c2 e.symm:¬ k.1=k.2.1),(Int.not_lt.2 c3),(Int.not_lt.2 c4),c5,Int.not_le.1 c5]
  by_cases c6:k.2.2.2.1≤2147483647
  rotate_left
  ·simp [hi,hw,hp,e1,e2,c0,c1,c2,c3,c4,c5,beqI c2,beqI (fun e=>c2 e.symm),(fun e=>c2 e.symm:¬ k.1=k.2.1),(Int.not_lt.2 c3),(Int.not_lt.2 c4),(Int.not_lt.2 c5),c6,Int.not_le.1 c6]
  have ho:=(ordK_lt j k).1
  by_cases d:aheadB j k=true
  ·have d':=ho.2 d
   simp [hi,hw,hp,e1,e2,c0,c1,c2,c3,c4,c5,c6,beqI c2,beqI (fun e=>c2 e.symm),(fun e=>c2 e.symm:¬ k.1=k.2.1),(Int.not_lt.2 c3),(Int.not_lt.2 c4),(Int.not_lt.2 c5),(Int.not_lt.2 c6),d,d',Int.not_le.2 d']
  ·have d':¬ ordK j k<0:=fun hh=>d (ho.1 hh)
   have d2:0≤ordK j k:=by omega
   simp [hi,hw,hp,e1,e2,c0,c1,c2,c3,c4,c5,c6,beqI c2,beqI (fun e=>c2 e.symm),(fun e=>c2 e.symm:¬ k.1=k.2.1),(Int.not_lt.2 c3),(Int.not_lt.2 c4),(Int.not_lt.2 c5),(Int.not_lt.2 c6),d,d',d2]
def mayP (v:Vw):Prop:=(∀ i,i<v.1.length→nodeOk v.1 i)∧(∀ i,i<v.2.length→linkOk v i)
open Classical in
theorem check_r (v:Vw) (h1:v.1.length≤70) (h2:v.2.length≤200):view_Check_r v=(true,if mayP v then 0 else 1):=by
 have e0:REnd (view_Check_l0 v ((v.1.length:Int),())) (false,(1:Int),true,()):=by
  unfold view_Check_l0 REnd; simp
 have e1:REnd (view_Check_l1 v ((v.2.length:Int),())) (false,(1:Int),true,()):=by
  unfold view_Check_l1 REnd; simp
 unfold view_Check_r
 rcases loop_find (d:=HL.dflt [.bool,.int .i64,.bool]) (step:=view_Check_l0 v) v.1.length (fun i=>¬ nodeOk v.1 i) (fun _=>(true,(1:Int),false,())) (false,(1:Int),true,()) (fun i hi=>by
   obtain ⟨k1,k2⟩:=check0 v h1 i hi
   exact ⟨k1,fun h=>k2 (Classical.not_not.1 h)⟩) e0 with ⟨i,hi,hp,_,h⟩ | ⟨hp,h⟩
 ·have hm:¬ mayP v:=fun hm=>hp (hm.1 i hi)
  rw [show loopD 0 [.int .i64] [.bool,.int .i64,.bool] (view_Check_l0 v) ((0:Int),())=(true,true,(1:Int),false,()) from h]
  simp [hm]
 ·rw [show loopD 0 [.int .i64] [.bool,.int .i64,.bool] (view_Check_l0 v) ((0:Int),())=(true,false,(1:Int),true,()) from h]
  rcases loop_find (d:=HL.dflt [.bool,.int .i64,.bool]) (step:=view_Check_l1 v) v.2.length (fun i=>¬ linkOk v i) (fun _=>(true,(1:Int),false,())) (false,(1:Int),true,()) (fun i hi=>by
   obtain ⟨k1,k2⟩:=check1 v h1 h2 i hi
   exact ⟨k1,fun h=>k2 (Classical.not_not.1 h)⟩) e1 with ⟨i,hi,hq,_,g⟩ | ⟨hq,g⟩
  ·have hm:¬ mayP v:=fun hm=>hq (hm.2 i hi)
   rw [show loopD 1 [.int .i64] [.bool,.int .i64,.bool] (view_Check_l1 v) ((0:Int),())=(true,true,(1:Int),false,()) from g]
   simp [hm]
  ·have hm:mayP v:=⟨fun i hi=>Classical.not_not.1 (hp i hi),fun i hi=>Classical.not_not.1 (hq i hi)⟩
   rw [show loopD 1 [.int .i64] [.bool,.int .i64,.bool] (view_Check_l1 v) ((0:Int),())=(true,false,(1:Int),true,()) from g]
   simp [hm]
open Classical in
theorem May_r (v:Vw) (h1:v.1.length≤70) (h2:v.2.length≤200):withyref09_May_r v=(true,decide (mayP v)):=by
 have e0:REnd (withyref09_May_l0 v ((v.1.length:Int),())) (false,false,true,()):=by
  unfold withyref09_May_l0 REnd; simp
 have e1:REnd (withyref09_May_l1 v ((v.2.length:Int),())) (false,false,true,()):=by
  unfold withyref09_May_l1 REnd; simp
 unfold withyref09_May_r
 rcases loop_find (d:=HL.dflt [.bool,.bool,.bool]) (step:=withyref09_May_l0 v) v.1.length (fun i=>¬ nodeOk v.1 i) (fun _=>(true,false,false,())) (false,false,true,()) (fun i hi=>by
   obtain ⟨k1,k2⟩:=may0 v h1 i hi
   exact ⟨k1,fun h=>k2 (Classical.not_not.1 h)⟩) e0 with ⟨i,hi,hp,_,h⟩ | ⟨hp,h⟩
 ·have hm:¬ mayP v:=fun hm=>hp (hm.1 i hi)
  rw [show loopD 0 [.int .i64] [.bool,.bool,.bool] (withyref09_May_l0 v) ((0:Int),())=(true,true,false,false,()) from h]
  simp [hm]
 ·rw [show loopD 0 [.int .i64] [.bool,.bool,.bool] (withyref09_May_l0 v) ((0:Int),())=(true,false,false,true,()) from h]
  rcases loop_find (d:=HL.dflt [.bool,.bool,.bool]) (step:=withyref09_May_l1 v) v.2.length (fun i=>¬ linkOk v i) (fun _=>(true,false,false,())) (false,false,true,()) (fun i hi=>by
   obtain ⟨k1,k2⟩:=may1 v h1 h2 i hi
   exact ⟨k1,fun h=>k2 (Classical.not_not.1 h)⟩) e1 with ⟨i,hi,hq,_,g⟩ | ⟨hq,g⟩
  ·have hm:¬ mayP v:=fun hm=>hq (hm.2 i hi)
   rw [show loopD 1 [.int .i64] [.bool,.bool,.bool] (withyref09_May_l1 v) ((0:Int),())=(true,true,false,false,()) from g]
   simp [hm]
  ·have hm:mayP v:=⟨fun i hi=>Classical.not_not.1 (hp i hi),fun i hi=>Classical.not_not.1 (hq i hi)⟩
   rw [show loopD 1 [.int .i64] [.bool,.bool,.bool] (withyref09_May_l1 v) ((0:Int),())=(true,false,false,true,()) from g]
   simp [hm]
def Sorted (l:List K):Prop:=∀ (i j:Nat) (hij:i<j) (h:j<l.length),aheadB (l[i]'(by omega)) l[j]=true
theorem ahead_trans {a b c:K} (h:aheadB a b=true) (k:aheadB b c=true):aheadB a c=true:=by
 unfold aheadB at*
 simp only [Bool.or_eq_true,Bool.and_eq_true,decide_eq_true_eq] at*
 omega
theorem sorted_of (v:Vw) (h:∀ i,i<v.2.length→linkOk v i):Sorted v.2:=by
 intro i j hij hj
 induction j with
 | zero=>omega
 | succ j ih=>
  have h1:=(h (j+1) hj).2 (by omega)
  simp only [Nat.add_sub_cancel] at h1
  rw [getD_at kd hj,getD_at kd (by omega:j<v.2.length)] at h1
  rcases Nat.lt_or_ge i j with hlt | hge
  ·exact ahead_trans (ih hlt (by omega)) h1
  ·have:i=j:=by omega
   subst this; exact h1
theorem half (i j:Nat) (h:i+j≤2000):IntKind.i64.wrap (iShr .u64 .u64 (IntKind.u64.wrap (IntKind.i64.wrap ((i:Int)+j))) (1:Int))=(((i+j) / 2:Nat):Int):=by
 have e1:IntKind.i64.wrap ((i:Int)+j)=(i:Int)+j:=wrap_i64 (by omega) (by omega)
 have e2:IntKind.u64.wrap ((i:Int)+j)=(i:Int)+j:=by
  unfold IntKind.wrap
  simp [IntKind.bits,IntKind.signed]
  omega
 rw [e1,e2]
 have e3:iShr .u64 .u64 ((i:Int)+j) (1:Int)=(((i+j) / 2:Nat):Int):=by
  show Int.fdiv ((i:Int)+j) (2 ^ (min (Int.toNat (1:Int)) 64))=_
  have:(2:Int) ^ (min (Int.toNat (1:Int)) 64)=2:=by decide
  rw [this,Int.fdiv_eq_ediv_of_nonneg _ (by omega)]
  omega
 rw [e3,wrap_i64 (by omega) (by omega)]
theorem search_r (l:List K) (t:K) (hl:l.length≤200) (hs:Sorted l):∃ i:Nat,i≤l.length∧(∀ k (hk:k<l.length),k<i→ordK l[k] t<0)∧(∀ k (hk:k<l.length),i≤k→¬ ordK l[k] t<0)∧
  slices_BinarySearchFunc_api_Known_r l t ()=(true,(i:Int),decide (i<l.length) && (ordK ((l[i]?).getD kd) t==0)):=by
 have key:=loopR_by (d:=HL.dflt [.bool,.int .i64]) (step:=slices_BinarySearchFunc_api_Known_l0 l t ()) (fun s=>∃ i j:Nat,s=((j:Int),(i:Int),())∧i≤j∧j≤l.length∧(∀ k (hk:k<l.length),k<i→ordK l[k] t<0)∧(∀ k (hk:k<l.length),j≤k→¬ ordK l[k] t<0))
  (fun s=>(s.1 - s.2.1).toNat) (fun r=>∃ i:Nat,r=(true,(i:Int),())∧i≤l.length∧(∀ k (hk:k<l.length),k<i→ordK l[k] t<0)∧(∀ k (hk:k<l.length),i≤k→¬ ordK l[k] t<0)) ((l.length:Int),(0:Int),()) ⟨0,l.length,rfl,by omega,by omega,fun k hk h=>by omega,fun k hk h=>by omega⟩ (by
   rintro _ ⟨i,j,rfl,hij,hj,ha,hb⟩
   unfold slices_BinarySearchFunc_api_Known_l0
   simp only [order_r,half i j (by omega)]
   rcases Nat.lt_or_ge i j with hlt | hge
   ·have hm:(i+j) / 2<l.length:=by omega
    have hg:(l[(i+j) / 2]?).getD ((0:Int),((0:Int),((0:Int),((0:Int),false))))=l[(i+j) / 2]:=getD_at kd hm
    have e1:decide ((i:Int)<(j:Int))=true:=decide_eq_true (by omega)
    simp only [Int.toNat_natCast,hg,e1,cond_true,decT hm]
    have hdiv:∀ a b:Nat,((a:Int)≤b)↔a≤b:=fun a b=>by omega
    refine ⟨by simp; omega,fun _=> ?_,fun h=>by cases h⟩
    by_cases hc:ordK l[(i+j) / 2] t<0
    ·rw [decT hc]
     simp only [cond_true]
     refine ⟨⟨(i+j) / 2+1,j,?_,by omega,hj,fun k hk hki=> ?_,hb⟩,by rw [wrap_i64 (by omega) (by omega)]; omega⟩
     ·rw [wrap_i64 (by omega) (by omega)]; rfl
     ·rcases Nat.lt_or_ge k ((i+j) / 2) with hkm | hkm
      ·have h1:=hs k _ hkm hm
       rw [(ordK_lt _ _).1] at hc ⊢
       exact ahead_trans h1 hc
      ·have:k=(i+j) / 2:=by omega
       subst this; exact hc
    ·rw [decF hc]
     simp only [cond_false]
     refine ⟨⟨i,(i+j) / 2,rfl,by omega,by omega,ha,fun k hk hki=> ?_⟩,by omega⟩
     intro hlt'
     rcases Nat.lt_or_ge ((i+j) / 2) k with hkm | hkm
     ·have h1:=hs _ k hkm hk
      rw [(ordK_lt _ _).1] at hc hlt'
      exact hc (ahead_trans h1 hlt')
     ·have:k=(i+j) / 2:=by omega
      subst this; exact hc hlt'
   ·have:j=i:=by omega
    subst this
    simp
    exact ⟨j,rfl,hj,ha,fun k hk h=>by have:=hb k hk h; omega⟩)
 obtain ⟨k1,i,k2,hi,k3,k4⟩:=key
 refine ⟨i,hi,k3,k4,?_⟩
 have hloop:loopD 0 [.int .i64,.int .i64] [.bool,.int .i64] (slices_BinarySearchFunc_api_Known_l0 l t ()) ((l.length:Int),(0:Int),())=(true,true,(i:Int),()):=Prod.ext k1 k2
 unfold slices_BinarySearchFunc_api_Known_r
 rw [hloop]
 simp only [order_r]
 by_cases hlt:i<l.length
 ·simp [hlt]
 ·simp [hlt]
def mate (a b:K):Bool:=decide (a.1<a.2.1) && ((a.1==b.2.1) && ((a.2.1==b.1) && ((a.2.2.1==b.2.2.1) && (a.2.2.2.1==b.2.2.2.1))))
def joined (a b:K):K:=(a.1,a.2.1,a.2.2.1,a.2.2.2.1,a.2.2.2.2 && b.2.2.2.2)
def pairs (l:List K) (a:K):List K:=l.flatMap fun b=>if mate a b then [joined a b] else []
def inner (l:List K):List K:=l.flatMap (pairs l)
def bodyK (l:List K) (a:K):List K:=if (decide (a.1<a.2.1) || decide (a.1=a.2.1))=true then
  (match l.find? (fun b=>b.1==a.2.1 && b.2.1==a.1) with
   | some b=>if a.2.2.1=b.2.2.1∧a.2.2.2.1=b.2.2.2.1 then [joined a b] else []
   | none=> []) else []
theorem sorted_key {l:List K} (hs:Sorted l) {i j:Nat} (hi:i<l.length) (hj:j<l.length) (h1:l[i].1=l[j].1) (h2:l[i].2.1=l[j].2.1):i=j:=by
 have hn:∀ a b:K,a.1=b.1→a.2.1=b.2.1→aheadB a b=true→False:=fun a b e1 e2 h=>by
  unfold aheadB at h
  simp only [Bool.or_eq_true,Bool.and_eq_true,decide_eq_true_eq] at h
  omega
 rcases Nat.lt_trichotomy i j with h | h | h
 ·exact (hn _ _ h1 h2 (hs i j h hj)).elim
 ·exact h
 ·exact (hn _ _ h1.symm h2.symm (hs j i h hi)).elim
theorem pairs_len {l:List K} (hs:Sorted l) (a:K):(pairs l a).length≤1:=by
 by_cases h:∃ i,∃ hi:i<l.length,mate a l[i]=true
 ·obtain ⟨i,hi,hm⟩:=h
  unfold pairs
  rw [flatMap_one _ l i hi (fun j hj hne=>by
   have:mate a l[j]=false:=by
    cases hmj:mate a l[j] with
    | false=>rfl
    | true=>
     unfold mate at hm hmj
     simp only [Bool.and_eq_true,decide_eq_true_eq,beq_iff_eq] at hm hmj
     exact absurd (sorted_key hs hj hi (by omega) (by omega)) hne
   simp [this])]
  split<;>simp
 ·have:pairs l a= []:=by
   unfold pairs
   apply flatMap_none
   intro b hb
   obtain ⟨i,hi,rfl⟩:=List.getElem_of_mem hb
   have:mate a l[i]=false:=by
    cases hm:mate a l[i] with
    | false=>rfl
    | true=>exact absurd ⟨i,hi,hm⟩ h
   simp [this]
  rw [this]; simp
theorem inner0 (v:Vw) (h2:v.2.length≤200) (hs:Sorted v.2) (hne:∀ i (hi:i<v.2.length),¬ v.2[i].2.1=v.2[i].1) (i:Nat) (hi:i<v.2.length) (acc:List K) (hN:acc.length+(pairs v.2 v.2[i]).length≤1000):
  RGo (view_Inner_l0 v ((i:Int),acc,())) (((i+1:Nat):Int),acc++pairs v.2 v.2[i],()):=by
 unfold view_Inner_l0 RGo
 have hw:=wrap_i64 (x:=(i:Int)+1) (by omega) (by omega)
 have hk:(v.2[i]?).getD ((0:Int),((0:Int),((0:Int),((0:Int),false))))=v.2[i]:=getD_at kd hi
 have hne':=hne i hi
 simp only [Int.toNat_natCast,hk]
 generalize ha:v.2[i]=a at*
 obtain ⟨j,hj,j1,j2,j3⟩:=search_r v.2 (a.2.1,a.1,0,0,false) h2 hs
 simp only [j3,Int.toNat_natCast]
 by_cases hjl:j<v.2.length
 ·have hg:(v.2[j]?).getD ((0:Int),((0:Int),((0:Int),((0:Int),false))))=v.2[j]:=getD_at kd hjl
  have hg':(v.2[j]?).getD kd=v.2[j]:=getD_at kd hjl
  simp only [hg,hg']
  by_cases hf:ordK v.2[j] (a.2.1,a.1,0,0,false)=0
  ·have hkey:=(ordK_lt _ _).2.1 hf
   simp only at hkey
   have hp:pairs v.2 a=if mate a v.2[j] then [joined a v.2[j]] else []:=by
    unfold pairs
    rw [flatMap_one _ v.2 j hjl (fun m hm hne=>by
     have:mate a v.2[m]=false:=by
      cases hmj:mate a v.2[m] with
      | false=>rfl
      | true=>
       unfold mate at hmj
       simp only [Bool.and_eq_true,decide_eq_true_eq,beq_iff_eq] at hmj
       exact absurd (sorted_key hs hm hjl (by omega) (by omega)) hne
     simp [this])]
   rw [hp] at hN ⊢
   generalize v.2[j]=b at*
   unfold mate joined
   obtain ⟨a1,a2,a3,a4,a5⟩:=a
   obtain ⟨b1,b2,b3,b4,b5⟩:=b
   simp only at*
   obtain ⟨rfl,rfl⟩:=hkey
   have hacc:acc.length≤1000:=by omega
   have hfit:(acc.length+1)*40≤140737488355328:=by omega
   by_cases q1:b2>b1
   ·have q1':¬ b2<b1:=by omega
    simp [hi,hw,hjl,hf,q1,q1']
   ·have q1':b2<b1:=by omega
    have q2:¬ b1<b2:=by omega
    by_cases q3:b3=a3
    ·subst q3
     by_cases q4:b4=a4
     ·subst q4
      cases a5<;>simp [hi,hw,hjl,hf,q1',q2,hfit]
     ·have q4':¬ a4=b4:=fun e=>q4 e.symm
      simp [hi,hw,hjl,hf,q1',q2,q4,q4',bneI q4,beqI q4']
    ·have q3':¬ a3=b3:=fun e=>q3 e.symm
     simp [hi,hw,hjl,hf,q1',q2,q3,q3',bneI q3,beqI q3']
  ·have hp:pairs v.2 a= []:=by
    unfold pairs
    apply flatMap_none
    intro b hb
    obtain ⟨m,hm,rfl⟩:=List.getElem_of_mem hb
    have:mate a v.2[m]=false:=by
     cases hmj:mate a v.2[m] with
     | false=>rfl
     | true=>
      unfold mate at hmj
      simp only [Bool.and_eq_true,decide_eq_true_eq,beq_iff_eq] at hmj
      exfalso
      have hz:ordK v.2[m] (a.2.1,a.1,0,0,false)=0:=(ordK_lt _ _).2.2 ⟨hmj.2.2.1.symm,hmj.2.1.symm⟩
      rcases Nat.lt_trichotomy m j with h | h | h
      ·have:=j1 m hm h; omega
      ·subst h; exact hf hz
      ·have h1:=hs j m h hm
       have h3:=j2 j hjl (Nat.le_refl _)
       rw [(ordK_lt _ _).1] at h3
       apply h3
       unfold aheadB at h1 ⊢
       simp only [Bool.or_eq_true,Bool.and_eq_true,decide_eq_true_eq] at h1 ⊢
       omega
    simp [this]
   rw [hp]
   have hbf:(ordK v.2[j] (a.2.1,a.1,0,0,false)==0)=false:=by simpa using hf
   by_cases q1:a.1>a.2.1<;>simp [hi,hw,hbf,q1]
 ·have hp:pairs v.2 a= []:=by
   unfold pairs
   apply flatMap_none
   intro b hb
   obtain ⟨m,hm,rfl⟩:=List.getElem_of_mem hb
   have:mate a v.2[m]=false:=by
    cases hmj:mate a v.2[m] with
    | false=>rfl
    | true=>
     unfold mate at hmj
     simp only [Bool.and_eq_true,decide_eq_true_eq,beq_iff_eq] at hmj
     exfalso
     have hz:ordK v.2[m] (a.2.1,a.1,0,0,false)=0:=(ordK_lt _ _).2.2 ⟨hmj.2.2.1.symm,hmj.2.1.symm⟩
     have:=j1 m hm (by omega)
     omega
   simp [this]
  rw [hp]
  by_cases q1:a.1>a.2.1<;>simp [hi,hw,hjl,q1]
theorem inner_len {l:List K} (hs:Sorted l):(inner l).length≤l.length:=by
 have:=flatMap_length_le (pairs l) 1 l (fun a _=>pairs_len hs a)
 unfold inner; omega
open Classical in
theorem inner_r (v:Vw) (h1:v.1.length≤70) (h2:v.2.length≤200):view_Inner_r v=(true,(if mayP v then 0 else 1),(if mayP v then inner v.2 else [])):=by
 unfold view_Inner_r
 simp only [check_r v h1 h2]
 by_cases hm:mayP v
 ·have hs:=sorted_of v hm.2
  have hne:∀ i (hi:i<v.2.length),¬ v.2[i].2.1=v.2[i].1:=fun i hi=>by
   have:=(hm.2 i hi).1
   rw [getD_at kd hi] at this
   exact this.2.2.1
  have key:=loop_acc (d:=HL.dflt [.bool,(.fl (.row (.prod (.int .i64) (.prod (.int .i64) (.prod (.int .i64) (.prod (.int .i64) .bool))))))]) (step:=view_Inner_l0 v) v.2 (pairs v.2) 1000 (fun acc=>(true,acc,())) (fun i hi acc hN=>inner0 v h2 hs hne i hi acc hN) (fun acc _=>by
   unfold view_Inner_l0 REnd; simp) [] (by have:=inner_len hs; unfold inner at this; rw [List.length_nil]; omega)
  rw [show loopD 0 [.int .i64,(.fl (.row (.prod (.int .i64) (.prod (.int .i64) (.prod (.int .i64) (.prod (.int .i64) .bool))))))] [.bool,(.fl (.row (.prod (.int .i64) (.prod (.int .i64) (.prod (.int .i64) (.prod (.int .i64) .bool))))))] (view_Inner_l0 v) ((0:Int),([]:List (Int × (Int × (Int × (Int × Bool))))),())=(true,true,inner v.2,()) from key]
  simp [hm]
 ·simp [hm]
theorem refInner1 (v:Vw) (h2:v.2.length≤200) (i:Nat) (hi:i<v.2.length) (acc0:List K) (j:Nat) (hj:j<v.2.length) (acc:List K) (hN:acc.length+(if mate v.2[i] v.2[j] then [joined v.2[i] v.2[j]] else []).length≤100000):
  RGo (withyref09_Inner_l1 v ((i:Int),acc0,()) ((j:Int),acc,())) (((j+1:Nat):Int),acc++(if mate v.2[i] v.2[j] then [joined v.2[i] v.2[j]] else []),()):=by
 unfold withyref09_Inner_l1 RGo
 have hw:=wrap_i64 (x:=(j:Int)+1) (by omega) (by omega)
 have hk:(v.2[i]?).getD ((0:Int),((0:Int),((0:Int),((0:Int),false))))=v.2[i]:=getD_at kd hi
 have hk':(v.2[j]?).getD ((0:Int),((0:Int),((0:Int),((0:Int),false))))=v.2[j]:=getD_at kd hj
 simp only [Int.toNat_natCast,hk,hk']
 generalize v.2[i]=a at*
 generalize v.2[j]=b at*
 unfold mate joined at*
 obtain ⟨a1,a2,a3,a4,a5⟩:=a
 obtain ⟨b1,b2,b3,b4,b5⟩:=b
 simp only at*
 have hfit:(acc.length+1)*40≤140737488355328:=by
  have:acc.length≤100000:=by omega
  omega
 by_cases q1:a1<a2
 ·by_cases q2:a1=b2
  ·subst q2
   by_cases q3:a2=b1
   ·subst q3
    by_cases q4:a3=b3
    ·subst q4
     by_cases q5:a4=b4
     ·subst q5
      cases a5<;>simp [hi,hj,hw,q1,hfit]
     ·simp [hi,hj,hw,q1,q5,beqI q5]
    ·simp [hi,hj,hw,q1,q4,beqI q4]
   ·simp [hi,hj,hw,q1,q3,beqI q3]
  ·simp [hi,hj,hw,q1,q2,beqI q2]
 ·simp [hi,hj,hw,q1]
theorem refInner0 (v:Vw) (h2:v.2.length≤200) (i:Nat) (hi:i<v.2.length) (acc:List K) (hN:acc.length+(pairs v.2 v.2[i]).length≤100000):
  RGo (withyref09_Inner_l0 v ((i:Int),acc,())) (((i+1:Nat):Int),acc++pairs v.2 v.2[i],()):=by
 have key:=loop_acc (d:=HL.dflt [.bool,(.fl (.row (.prod (.int .i64) (.prod (.int .i64) (.prod (.int .i64) (.prod (.int .i64) .bool))))))]) (step:=withyref09_Inner_l1 v ((i:Int),acc,())) v.2 (fun b=>if mate v.2[i] b then [joined v.2[i] b] else []) 100000 (fun acc=>(true,acc,()))
  (fun j hj acc' hN'=>refInner1 v h2 i hi acc j hj acc' hN') (fun acc' _=>by unfold withyref09_Inner_l1 REnd; simp) acc hN
 have key:loopD 1 [.int .i64,(.fl (.row (.prod (.int .i64) (.prod (.int .i64) (.prod (.int .i64) (.prod (.int .i64) .bool))))))] [.bool,(.fl (.row (.prod (.int .i64) (.prod (.int .i64) (.prod (.int .i64) (.prod (.int .i64) .bool))))))] (withyref09_Inner_l1 v ((i:Int),acc,())) ((0:Int),acc,())=(true,true,acc++pairs v.2 v.2[i],()):=key
 have hw:=wrap_i64 (x:=(i:Int)+1) (by omega) (by omega)
 unfold withyref09_Inner_l0 RGo
 simp only [key]
 simp [hi,hw]
theorem refInner_r (v:Vw) (h2:v.2.length≤200):withyref09_Inner_r v=(true,inner v.2):=by
 have hlen:(inner v.2).length≤40000:=by
  have h1:=flatMap_length_le (pairs v.2) 200 v.2 (fun a _=>by
   have:=flatMap_length_le (fun b=>if mate a b then [joined a b] else []) 1 v.2 (fun b _=>by split<;>simp)
   unfold pairs; omega)
  unfold inner; omega
 have key:=loop_acc (d:=HL.dflt [.bool,(.fl (.row (.prod (.int .i64) (.prod (.int .i64) (.prod (.int .i64) (.prod (.int .i64) .bool))))))]) (step:=withyref09_Inner_l0 v) v.2 (pairs v.2) 100000 (fun acc=>(true,acc,())) (fun i hi acc hN=>refInner0 v h2 i hi acc hN) (fun acc _=>by
   unfold withyref09_Inner_l0 REnd
   simp) [] (by unfold inner at hlen; rw [List.length_nil]; omega)
 unfold withyref09_Inner_r
 rw [show loopD 0 [.int .i64,(.fl (.row (.prod (.int .i64) (.prod (.int .i64) (.prod (.int .i64) (.prod (.int .i64) .bool))))))] [.bool,(.fl (.row (.prod (.int .i64) (.prod (.int .i64) (.prod (.int .i64) (.prod (.int .i64) .bool))))))] (withyref09_Inner_l0 v) ((0:Int),([]:List (Int × (Int × (Int × (Int × Bool))))),())=(true,true,inner v.2,()) from key]
abbrev E:=Int × Int × Int
def edgeK (k:K):E:=(if k.2.1<k.1 then k.2.1 else k.1,if k.1<k.2.1 then k.2.1 else k.1,k.2.2.1)
def bound (l:List K):List E:=l.flatMap fun k=>if k.2.2.2.2 then [edgeK k] else []
theorem edge_r (k:K):view_Edge_r k=(true,edgeK k):=rfl
theorem refEdge_r (k:K):withyref09_Edge_r k=(true,edgeK k):=by
 unfold withyref09_Edge_r edgeK
 by_cases h:k.2.1<k.1
 ·have:¬ k.1<k.2.1:=by omega
  simp [h,this]
 ·by_cases h2:k.1<k.2.1
  ·simp [h,h2]
  ·have:k.1=k.2.1:=by omega
   simp [h,h2,this]
open Classical in
theorem bound_r (v:Vw) (h1:v.1.length≤70) (h2:v.2.length≤200):view_Bound_r v=(true,(if mayP v then 0 else 1),bound (if mayP v then inner v.2 else [])):=by
 have hlen:(if mayP v then inner v.2 else []).length≤200:=by
  split
  ·rename_i hm
   have:=inner_len (sorted_of v hm.2); omega
  ·simp
 have hir:=inner_r v h1 h2
 generalize hl:(if mayP v then inner v.2 else [])=l at*
 have key:=loop_acc (d:=HL.dflt [.bool,(.fl (.row (.prod (.int .i64) (.prod (.int .i64) (.int .i64)))))]) (step:=view_Bound_l0 v) l (fun k=>if k.2.2.2.2 then [edgeK k] else []) 1000 (fun acc=>(true,acc,())) (fun i hi acc hN=>by
   unfold view_Bound_l0 RGo
   have hw:=wrap_i64 (x:=(i:Int)+1) (by omega) (by omega)
   have hk:(l[i]?).getD ((0:Int),((0:Int),((0:Int),((0:Int),false))))=l[i]:=getD_at kd hi
   simp only [hir,edge_r,Int.toNat_natCast,hk]
   have hfit:(acc.length+1)*24≤140737488355328:=by omega
   cases hq:l[i].2.2.2.2
   ·simp [hi,hw]
   ·simp [hi,hw,hfit]) (fun acc _=>by unfold view_Bound_l0 REnd; simp [hir]) [] (by
   have:=flatMap_length_le (fun k:K=>if k.2.2.2.2 then [edgeK k] else []) 1 l (fun k _=>by split<;>simp)
   rw [List.length_nil]; omega)
 unfold view_Bound_r
 rw [show loopD 0 [.int .i64,(.fl (.row (.prod (.int .i64) (.prod (.int .i64) (.int .i64)))))] [.bool,(.fl (.row (.prod (.int .i64) (.prod (.int .i64) (.int .i64)))))] (view_Bound_l0 v) ((0:Int),([]:List (Int × (Int × Int))),())=(true,true,bound l,()) from key]
 simp only [hir]
 rfl
theorem refBound_r (v:Vw) (h2:v.2.length≤200):withyref09_Bound_r v=(true,bound (inner v.2)):=by
 have hlen:(inner v.2).length≤40000:=by
  have h1:=flatMap_length_le (pairs v.2) 200 v.2 (fun a _=>by
   have:=flatMap_length_le (fun b=>if mate a b then [joined a b] else []) 1 v.2 (fun b _=>by split<;>simp)
   unfold pairs; omega)
  unfold inner; omega
 have hir:=refInner_r v h2
 generalize inner v.2=l at*
 have key:=loop_acc (d:=HL.dflt [.bool,(.fl (.row (.prod (.int .i64) (.prod (.int .i64) (.int .i64)))))]) (step:=withyref09_Bound_l0 v) l (fun k=>if k.2.2.2.2 then [edgeK k] else []) 100000 (fun acc=>(true,acc,())) (fun i hi acc hN=>by
   unfold withyref09_Bound_l0 RGo
   have hw:=wrap_i64 (x:=(i:Int)+1) (by omega) (by omega)
   have hk:(l[i]?).getD ((0:Int),((0:Int),((0:Int),((0:Int),false))))=l[i]:=getD_at kd hi
   simp only [hir,refEdge_r,Int.toNat_natCast,hk]
   have hfit:(acc.length+1)*24≤140737488355328:=by omega
   cases hq:l[i].2.2.2.2
   ·simp [hi,hw]
   ·simp [hi,hw,hfit]) (fun acc _=>by unfold withyref09_Bound_l0 REnd; simp [hir]) [] (by
   have:=flatMap_length_le (fun k:K=>if k.2.2.2.2 then [edgeK k] else []) 1 l (fun k _=>by split<;>simp)
   rw [List.length_nil]; omega)
 unfold withyref09_Bound_r
 rw [show loopD 0 [.int .i64,(.fl (.row (.prod (.int .i64) (.prod (.int .i64) (.int .i64)))))] [.bool,(.fl (.row (.prod (.int .i64) (.prod (.int .i64) (.int .i64)))))] (withyref09_Bound_l0 v) ((0:Int),([]:List (Int × (Int × Int))),())=(true,true,bound l,()) from key]
 simp only [hir]
 rfl
end Go.Proofs.Ytfeepbajipdfaaa.T.V
namespace Go.Tm
set_option linter.unusedVariables false
theorem swap_perm {α:Type} {l:List α} {i j:Nat} {d:α} (hi:i<l.length) (hj:j<l.length):((l.set i ((l[j]?).getD d)).set j ((l[i]?).getD d)).Perm l:=by
 have h1:(l[j]?).getD d=l[j]:=by rw [List.getElem?_eq_getElem hj]; rfl
 have h2:(l[i]?).getD d=l[i]:=by rw [List.getElem?_eq_getElem hi]; rfl
 rw [h1,h2]
 exact List.set_set_perm hi hj
theorem perm_sorted_eq {α:Type} {R:α→α→Prop} (hanti:∀ a b,R a b→R b a→a=b):∀ {l m:List α},l.Perm m→l.Pairwise R→m.Pairwise R→l=m
 | [],m,h,_,_=>by rw [List.nil_perm.1 h]
 | a::l,[],h,_,_=>by have:=h.length_eq; simp at this
 | a::l,b::m,h,hl,hm=>by
  rw [List.pairwise_cons] at hl hm
  have hab:a=b:=by
   have ha:a∈b::m:=h.subset (.head _)
   have hb:b∈a::l:=h.symm.subset (.head _)
   cases ha with
   | head=>rfl
   | tail _ ha=>cases hb with
    | head=>rfl
    | tail _ hb=>exact hanti _ _ (hl.1 b hb) (hm.1 a ha)
  subst hab
  rw [perm_sorted_eq hanti ((List.perm_cons a).1 h) hl.2 hm.2]
structure RP {α:Type} (a b:Nat) (l m:List α):Prop where
 len:m.length=l.length
 out:∀ i,i<a∨b≤i→m[i]? =l[i]?
 perm:m.Perm l
theorem RP.refl {α:Type} (a b:Nat) (l:List α):RP a b l l:=⟨rfl,fun _ _=>rfl,.refl _⟩
theorem RP.trans {α:Type} {a b:Nat} {l m k:List α} (h:RP a b l m) (h':RP a b m k):RP a b l k:=
 ⟨h'.len.trans h.len,fun i hi=>(h'.out i hi).trans (h.out i hi),h'.perm.trans h.perm⟩
theorem RP.mono {α:Type} {a b a' b':Nat} {l m:List α} (h:RP a b l m) (h1:a'≤a) (h2:b≤b'):RP a' b' l m:=
 ⟨h.len,fun i hi=>h.out i (by omega),h.perm⟩
theorem RP.swap {α:Type} {a b i j:Nat} {l:List α} {d:α} (hi:a≤i) (hi':i<b) (hj:a≤j) (hj':j<b) (hb:b≤l.length):RP a b l ((l.set i ((l[j]?).getD d)).set j ((l[i]?).getD d)):=by
 refine ⟨by simp,fun k hk=> ?_,swap_perm (by omega) (by omega)⟩
 rw [List.getElem?_set_ne (by omega),List.getElem?_set_ne (by omega)]
theorem split3 {α:Type} (a b:Nat) (l:List α) (hab:a≤b):l=l.take a++((l.take b).drop a++l.drop b):=by
 have h1:(l.take b).take a=l.take a:=by rw [List.take_take,Nat.min_eq_left hab]
 have h2:l.take b=l.take a++(l.take b).drop a:=by rw [← h1,List.take_append_drop]
 rw [← List.append_assoc,← h2,List.take_append_drop]
theorem RP.mid {α:Type} {a b:Nat} {l m:List α} (h:RP a b l m) (hab:a≤b):((m.take b).drop a).Perm ((l.take b).drop a):=by
 have h1:m.take a=l.take a:=List.ext_getElem? fun i=>by
  rw [List.getElem?_take,List.getElem?_take]
  split
  ·exact h.out i (by omega)
  ·rfl
 have h2:m.drop b=l.drop b:=List.ext_getElem? fun i=>by
  rw [List.getElem?_drop,List.getElem?_drop]
  exact h.out _ (by omega)
 have:=h.perm
 rw [split3 a b m hab,split3 a b l hab,h1,h2] at this
 exact (List.perm_append_right_iff _).1 ((List.perm_append_left_iff _).1 this)
theorem RP.all {α:Type} {a b:Nat} {l m:List α} (h:RP a b l m) {P:α→Prop} (hP:∀ i x,a≤i→i<b→l[i]? =some x→P x):∀ i x,a≤i→i<b→m[i]? =some x→P x:=fun i x h1 h2 hx=>by
 have hm:x∈(m.take b).drop a:=by
  refine List.mem_iff_getElem?.2 ⟨i - a,?_⟩
  rw [List.getElem?_drop,List.getElem?_take,if_pos (by omega),show a+(i - a)=i by omega]; exact hx
 have hl:=(h.mid (by omega)).subset hm
 obtain ⟨k,hk⟩:=List.mem_iff_getElem?.1 hl
 rw [List.getElem?_drop,List.getElem?_take] at hk
 split at hk
 ·exact hP (a+k) x (by omega) (by assumption) hk
 ·cases hk
def InOrder {α:Type} (lt:α→α→Prop) (a b:Nat) (l:List α):Prop:=∀ i j x y,a≤i→i<j→j<b→l[i]? =some x→l[j]? =some y→¬ lt y x
structure InsAt {α:Type} (lt:α→α→Prop) (a b j:Nat) (l:List α):Prop where
 rest:∀ p q x y,a≤p→p<q→q<b→p≠j→q≠j→l[p]? =some x→l[q]? =some y→¬ lt y x
 back:∀ q x y,j<q→q<b→l[j]? =some x→l[q]? =some y→¬ lt y x
theorem InsAt.start {α:Type} {lt:α→α→Prop} {a j:Nat} {l:List α} (h:InOrder lt a j l):InsAt lt a (j+1) j l:=
 ⟨fun p q x y h1 h2 h3 h4 h5 hx hy=>h p q x y h1 h2 (by omega) hx hy,fun q x y h1 h2=>by omega⟩
theorem InsAt.step {α:Type} {lt:α→α→Prop} (hasym:∀ x y,lt x y→¬ lt y x) {a b j:Nat} {l:List α} {x y:α} (h:InsAt lt a b (j+1) l) (ha:a≤j) (hb:j+1<b) (hx:l[j]? =some x) (hy:l[j+1]? =some y) (hlt:lt y x):
  InsAt lt a b j ((l.set (j+1) x).set j y):=by
 have hlen:j+1<l.length:=(List.getElem?_eq_some_iff.1 hy).1
 have h0:((l.set (j+1) x).set j y)[j]? =some y:=List.getElem?_set_self (by simp; omega)
 have h1:((l.set (j+1) x).set j y)[j+1]? =some x:=by rw [List.getElem?_set_ne (by omega),List.getElem?_set_self hlen]
 have h2:∀ k,k≠j→k≠j+1→((l.set (j+1) x).set j y)[k]? =l[k]? :=fun k hk hk'=>by
  rw [List.getElem?_set_ne (by omega),List.getElem?_set_ne (by omega)]
 refine ⟨fun p q u v k1 k2 k3 k4 k5 hu hv=> ?_,fun q u v k1 k2 hu hv=> ?_⟩
 ·by_cases hp:p=j+1
  ·subst hp
   rw [h1] at hu; injection hu with hu; subst hu
   rw [h2 q k5 (by omega)] at hv
   exact h.rest j q x v ha (by omega) k3 (by omega) (by omega) hx hv
  ·rw [h2 p k4 hp] at hu
   by_cases hq:q=j+1
   ·subst hq
    rw [h1] at hv; injection hv with hv; subst hv
    exact h.rest p j u x k1 (by omega) (by omega) hp (by omega) hu hx
   ·rw [h2 q k5 hq] at hv
    exact h.rest p q u v k1 k2 k3 hp hq hu hv
 ·rw [h0] at hu; injection hu with hu; subst hu
  by_cases hq:q=j+1
  ·subst hq
   rw [h1] at hv; injection hv with hv; subst hv
   exact hasym _ _ hlt
  ·rw [h2 q (by omega) hq] at hv
   exact h.back q y v (by omega) k2 hy hv
theorem InsAt.stop {α:Type} {lt:α→α→Prop} (htr:∀ x y z,¬ lt y x→¬ lt z y→¬ lt z x) {a b j:Nat} {l:List α} (h:InsAt lt a b j l) (hb:b≤l.length) (hs:j=a∨∃ x y,a<j∧l[j - 1]? =some x∧l[j]? =some y∧¬ lt y x):InOrder lt a b l:=by
 intro p q u v k1 k2 k3 hu hv
 by_cases hp:p=j
 ·subst hp; exact h.back q u v k2 k3 hu hv
 ·by_cases hq:q=j
  ·subst hq
   rcases hs with hs | ⟨x,y,h1,h2,h3,h4⟩
   ·omega
   ·rw [h3] at hv; injection hv with hv; subst hv
    by_cases hpj:p=q - 1
    ·subst hpj; rw [h2] at hu; injection hu with hu; subst hu; exact h4
    ·exact htr u x y (h.rest p (q - 1) u x k1 (by omega) (by omega) hp (by omega) hu h2) h4
  ·exact h.rest p q u v k1 k2 k3 hp hq hu hv
def Heaped {α:Type} (lt:α→α→Prop) (f lo hi:Nat) (l:List α):Prop:=∀ r c x y,lo≤r→(c=2*r+1∨c=2*r+2)→c<hi→l[f+r]? =some x→l[f+c]? =some y→¬ lt x y
structure SiftAt {α:Type} (lt:α→α→Prop) (f lo hi k:Nat) (l:List α):Prop where
 rest:∀ r c x y,lo≤r→r≠k→(c=2*r+1∨c=2*r+2)→c<hi→l[f+r]? =some x→l[f+c]? =some y→¬ lt x y
 over:∀ r c x y,lo≤r→(k=2*r+1∨k=2*r+2)→(c=2*k+1∨c=2*k+2)→c<hi→l[f+r]? =some x→l[f+c]? =some y→¬ lt x y
theorem SiftAt.start {α:Type} {lt:α→α→Prop} {f lo hi:Nat} {l:List α} (h:Heaped lt f (lo+1) hi l):SiftAt lt f lo hi lo l:=
 ⟨fun r c x y h1 h2 h3 h4 hx hy=>h r c x y (by omega) h3 h4 hx hy,fun r c x y h1 h2=>by omega⟩
theorem SiftAt.stop {α:Type} {lt:α→α→Prop} {f lo hi k:Nat} {l:List α} (h:SiftAt lt f lo hi k l) (hk:∀ c x y,(c=2*k+1∨c=2*k+2)→c<hi→l[f+k]? =some x→l[f+c]? =some y→¬ lt x y):Heaped lt f lo hi l:=by
 intro r c x y h1 h2 h3 hx hy
 by_cases hr:r=k
 ·subst hr; exact hk c x y h2 h3 hx hy
 ·exact h.rest r c x y h1 hr h2 h3 hx hy
theorem SiftAt.step {α:Type} {lt:α→α→Prop} (hasym:∀ x y,lt x y→¬ lt y x) {f lo hi k c:Nat} {l:List α} {x y:α} (h:SiftAt lt f lo hi k l) (hlo:lo≤k) (hc:c=2*k+1∨c=2*k+2) (hch:c<hi) (hx:l[f+k]? =some x) (hy:l[f+c]? =some y) (hlt:lt x y)
  (hmax:∀ d z,(d=2*k+1∨d=2*k+2)→d<hi→l[f+d]? =some z→¬ lt y z):SiftAt lt f lo hi c ((l.set (f+k) y).set (f+c) x):=by
 have hlk:f+k<l.length:=(List.getElem?_eq_some_iff.1 hx).1
 have hlc:f+c<l.length:=(List.getElem?_eq_some_iff.1 hy).1
 have e0:((l.set (f+k) y).set (f+c) x)[f+c]? =some x:=List.getElem?_set_self (by simp; omega)
 have e1:((l.set (f+k) y).set (f+c) x)[f+k]? =some y:=by rw [List.getElem?_set_ne (by omega),List.getElem?_set_self hlk]
 have e2:∀ d,d≠k→d≠c→((l.set (f+k) y).set (f+c) x)[f+d]? =l[f+d]? :=fun d h1 h2=>by
  rw [List.getElem?_set_ne (by omega),List.getElem?_set_ne (by omega)]
 refine ⟨fun r d u v k1 k2 k3 k4 hu hv=> ?_,fun r d u v k1 k2 k3 k4 hu hv=> ?_⟩
 ·by_cases hr:r=k
  ·subst hr
   rw [e1] at hu; injection hu with hu; subst hu
   by_cases hd:d=c
   ·subst hd
    rw [e0] at hv; injection hv with hv; subst hv
    exact hasym _ _ hlt
   ·rw [e2 d (by omega) hd] at hv
    exact hmax d v k3 k4 hv
  ·rw [e2 r hr k2] at hu
   by_cases hd:d=k
   ·subst hd
    rw [e1] at hv; injection hv with hv; subst hv
    exact h.over r c u y k1 k3 hc hch hu hy
   ·rw [e2 d hd (by omega)] at hv
    exact h.rest r d u v k1 hr k3 k4 hu hv
 ·have hr:r=k:=by omega
  subst hr
  rw [e1] at hu; injection hu with hu; subst hu
  rw [e2 d (by omega) (by omega)] at hv
  exact h.rest c d y v (by omega) (by omega) k3 k4 hy hv
theorem heap_top {α:Type} {lt:α→α→Prop} (hirr:∀ x,¬ lt x x) (htr:∀ x y z,¬ lt y x→¬ lt z y→¬ lt z x) {f hi:Nat} {l:List α} (h:Heaped lt f 0 hi l) {x:α} (hx:l[f]? =some x) (hhi:f+hi≤l.length):∀ r y,r<hi→l[f+r]? =some y→¬ lt x y:=by
 intro r
 induction r using Nat.strongRecOn with
 | ind r ih=>
  intro y hr hy
  by_cases h0:r=0
  ·subst h0
   rw [Nat.add_zero,hx] at hy; injection hy with hy; subst hy; exact hirr _
  ·have hp:(r - 1) / 2<r:=by omega
   have hz:l[f+(r - 1) / 2]? =some (l[f+(r - 1) / 2]'(by omega)):=List.getElem?_eq_getElem (by omega)
   exact htr y _ x (h ((r - 1) / 2) r _ y (Nat.zero_le _) (by omega) hr hz hy) (ih _ hp _ (by omega) hz)
theorem scan_up {ρ:Type} {d:ρ} {step:Int × Unit→Bool × Bool × (Int × Unit) × ρ} (n:Nat) (P:Nat→Prop) (R:Nat→ρ) (i0:Nat) (h:i0≤n)
  (hgo:∀ i,i0≤i→i<n→P i→RGo (step ((i:Int),())) (((i+1:Nat):Int),()))
  (hend:∀ i,i0≤i→i≤n→(i=n∨¬ P i)→REnd (step ((i:Int),())) (R i)):
  ∃ i,i0≤i∧i≤n∧(∀ k,i0≤k→k<i→P k)∧(i=n∨¬ P i)∧loopR d step ((i0:Int),())=(true,R i):=by
 have key:∀ k i,i+k=n→i0≤i→(∀ q,i0≤q→q<i→P q)→∃ i',i0≤i'∧i'≤n∧(∀ q,i0≤q→q<i'→P q)∧(i'=n∨¬ P i')∧loopR d step ((i:Int),())=(true,R i'):=by
  intro k
  induction k with
  | zero=>
   intro i hi h0 hP
   have:i=n:=by omega
   subst this
   exact ⟨i,h0,Nat.le_refl _,hP,.inl rfl,(hend i h0 (Nat.le_refl _) (.inl rfl)).end⟩
  | succ k ih=>
   intro i hi h0 hP
   by_cases hp:P i
   ·rw [(hgo i h0 (by omega) hp).go]
    exact ih (i+1) (by omega) (by omega) (fun q h1 h2=>by
     rcases Nat.lt_or_ge q i with hlt | hge
     ·exact hP q h1 hlt
     ·have:q=i:=by omega
      rw [this]; exact hp)
   ·exact ⟨i,h0,by omega,hP,.inr hp,(hend i h0 (by omega) (.inr hp)).end⟩
 exact key (n - i0) i0 (by omega) (Nat.le_refl _) (fun q h1 h2=>by omega)
theorem scan_down {ρ:Type} {d:ρ} {step:Int × Unit→Bool × Bool × (Int × Unit) × ρ} (n:Nat) (P:Nat→Prop) (R:Nat→ρ) (j0:Nat) (h:n≤j0)
  (hgo:∀ j,n≤j→j<j0→P j→RGo (step (((j+1:Nat):Int) - 1,())) ((j:Int) - 1,()))
  (hend:∀ j,n≤j→j≤j0→(j=n∨∃ k,j=k+1∧n≤k∧¬ P k)→REnd (step ((j:Int) - 1,())) (R j)):
  ∃ j,n≤j∧j≤j0∧(∀ k,j≤k→k<j0→P k)∧(j=n∨∃ k,j=k+1∧n≤k∧¬ P k)∧loopR d step ((j0:Int) - 1,())=(true,R j):=by
 have key:∀ k j,n+k=j→j≤j0→(∀ q,j≤q→q<j0→P q)→∃ j',n≤j'∧j'≤j0∧(∀ q,j'≤q→q<j0→P q)∧(j'=n∨∃ k,j'=k+1∧n≤k∧¬ P k)∧loopR d step ((j:Int) - 1,())=(true,R j'):=by
  intro k
  induction k with
  | zero=>
   intro j hj h0 hP
   have:j=n:=by omega
   subst this
   exact ⟨j,Nat.le_refl _,h0,hP,.inl rfl,(hend j (Nat.le_refl _) h0 (.inl rfl)).end⟩
  | succ k ih=>
   intro j hj h0 hP
   obtain ⟨i,rfl⟩:∃ i,j=i+1:=⟨j - 1,by omega⟩
   by_cases hp:P i
   ·rw [(hgo i (by omega) (by omega) hp).go]
    exact ih i (by omega) (by omega) (fun q h1 h2=>by
     rcases Nat.lt_or_ge i q with hlt | hge
     ·exact hP q hlt h2
     ·have:q=i:=by omega
      rw [this]; exact hp)
   ·exact ⟨i+1,by omega,h0,hP,.inr ⟨i,rfl,by omega,hp⟩,(hend (i+1) (by omega) h0 (.inr ⟨i,rfl,by omega,hp⟩)).end⟩
 exact key (j0 - n) j0 (by omega) (Nat.le_refl _) (fun q h1 h2=>by omega)
structure PartAt {α:Type} (P:α→Prop) (a i j b:Nat) (m:List α):Prop where
 left:∀ p x,a≤p→p<i→m[p]? =some x→P x
 right:∀ q x,j≤q→q<b→m[q]? =some x→¬ P x
theorem PartAt.start {α:Type} {P:α→Prop} {a b:Nat} {m:List α} :PartAt P a a b b m:=⟨fun p x h1 h2=>by omega,fun p x h1 h2=>by omega⟩
theorem PartAt.scan {α:Type} {P:α→Prop} {a i j b i' j':Nat} {m:List α} (h:PartAt P a i j b m) (h1:∀ k,i≤k→k<i'→∃ x,m[k]? =some x∧P x) (h2:∀ k,j'≤k→k<j→∃ x,m[k]? =some x∧¬ P x):PartAt P a i' j' b m:=
 ⟨fun p x e1 e2 e3=>by
  rcases Nat.lt_or_ge p i with hlt | hge
  ·exact h.left p x e1 hlt e3
  ·obtain ⟨y,k1,k2⟩:=h1 p hge e2
   rw [k1] at e3; injection e3 with e3; subst e3; exact k2,fun q x e1 e2 e3=>by
  rcases Nat.lt_or_ge q j with hlt | hge
  ·obtain ⟨y,k1,k2⟩:=h2 q e1 hlt
   rw [k1] at e3; injection e3 with e3; subst e3; exact k2
  ·exact h.right q x hge e2 e3⟩
theorem PartAt.swap {α:Type} {P:α→Prop} {a i k b:Nat} {m:List α} {x y:α} (h:PartAt P a i (k+1) b m) (hik:i<k) (hk:k<m.length) (hx:m[i]? =some x) (hy:m[k]? =some y) (hpx:¬ P x) (hpy:P y):PartAt P a (i+1) k b ((m.set i y).set k x):=by
 refine ⟨fun p z e1 e2 e3=> ?_,fun q z e1 e2 e3=> ?_⟩
 ·rw [List.getElem?_set_ne (by omega)] at e3
  by_cases hp:p=i
  ·subst hp
   rw [List.getElem?_set_self (by omega)] at e3
   injection e3 with e3; subst e3; exact hpy
  ·rw [List.getElem?_set_ne (by omega)] at e3
   exact h.left p z e1 (by omega) e3
 ·by_cases hq:q=k
  ·subst hq
   rw [List.getElem?_set_self (by simp; omega)] at e3
   injection e3 with e3; subst e3; exact hpx
  ·rw [List.getElem?_set_ne (by omega),List.getElem?_set_ne (by omega)] at e3
   exact h.right q z (by omega) e2 e3
theorem swap_at {α:Type} {l:List α} {i j:Nat} {x y:α} (hx:l[i]? =some x) (hy:l[j]? =some y) (k:Nat):((l.set i y).set j x)[k]? =if k=j then some x else if k=i then some y else l[k]? :=by
 have hi:i<l.length:=(List.getElem?_eq_some_iff.1 hx).1
 have hj:j<l.length:=(List.getElem?_eq_some_iff.1 hy).1
 by_cases h1:k=j
 ·subst h1; rw [if_pos rfl]; exact List.getElem?_set_self (by simp; omega)
 ·rw [if_neg h1,List.getElem?_set_ne (by omega)]
  by_cases h2:k=i
  ·subst h2; rw [if_pos rfl]; exact List.getElem?_set_self hi
  ·rw [if_neg h2]; exact List.getElem?_set_ne (by omega)
theorem RP.swap' {α:Type} {a b i j:Nat} {l:List α} {x y:α} (hx:l[i]? =some x) (hy:l[j]? =some y) (hi:a≤i) (hi':i<b) (hj:a≤j) (hj':j<b):RP a b l ((l.set i y).set j x):=by
 refine ⟨by simp,fun k hk=> ?_,?_⟩
 ·rw [List.getElem?_set_ne (by omega),List.getElem?_set_ne (by omega)]
 ·have h1:i<l.length:=(List.getElem?_eq_some_iff.1 hx).1
  have h2:j<l.length:=(List.getElem?_eq_some_iff.1 hy).1
  have:=swap_perm (d:=x) h1 h2
  rw [hx,hy] at this
  exact this
theorem InOrder.join {α:Type} {lt:α→α→Prop} {a k b:Nat} {l:List α} (h1:InOrder lt a k l) (h2:InOrder lt k b l) (h3:∀ p q x y,a≤p→p<k→k≤q→q<b→l[p]? =some x→l[q]? =some y→¬ lt y x):InOrder lt a b l:=by
 intro i j x y e1 e2 e3 hx hy
 rcases Nat.lt_or_ge j k with hlt | hge
 ·exact h1 i j x y e1 e2 hlt hx hy
 ·rcases Nat.lt_or_ge i k with hlt | hge'
  ·exact h3 i j x y e1 hlt hge e3 hx hy
  ·exact h2 i j x y hge' e2 e3 hx hy
theorem InOrder.of_out {α:Type} {lt:α→α→Prop} {a b c d:Nat} {l m:List α} (h:InOrder lt a b l) (hr:RP c d l m) (hd:b≤c∨d≤a):InOrder lt a b m:=by
 intro i j x y e1 e2 e3 hx hy
 rw [hr.out i (by omega)] at hx
 rw [hr.out j (by omega)] at hy
 exact h i j x y e1 e2 e3 hx hy
end Go.Tm
namespace Go.Tm
set_option linter.unusedVariables false
set_option linter.unusedSimpArgs false
inductive Conn (l:List (Int × Int × Int)) (a:Int):Int→Prop
 | refl:Conn l a a
 | fwd {e:Int × Int × Int} :e∈l→Conn l a e.1→Conn l a e.2.1
 | bwd {e:Int × Int × Int} :e∈l→Conn l a e.2.1→Conn l a e.1
theorem Conn.trans {l:List (Int × Int × Int)} {a b c:Int} (h:Conn l a b) (k:Conn l b c):Conn l a c:=by
 induction k with
 | refl=>exact h
 | fwd he _ ih=>exact .fwd he ih
 | bwd he _ ih=>exact .bwd he ih
theorem Conn.symm {l:List (Int × Int × Int)} {a b:Int} (h:Conn l a b):Conn l b a:=by
 induction h with
 | refl=>exact .refl
 | fwd he _ ih=>exact (Conn.bwd he .refl).trans ih
 | bwd he _ ih=>exact (Conn.fwd he .refl).trans ih
theorem Conn.mono {l m:List (Int × Int × Int)} {a b:Int} (h:Conn l a b) (hs:∀ e∈l,e∈m):Conn m a b:=by
 induction h with
 | refl=>exact .refl
 | fwd he _ ih=>exact .fwd (hs _ he) ih
 | bwd he _ ih=>exact .bwd (hs _ he) ih
theorem conn_snoc {l:List (Int × Int × Int)} {e:Int × Int × Int} {a b:Int} :Conn (l++ [e]) a b↔Conn l a b∨(Conn l a e.1∧Conn l e.2.1 b)∨(Conn l a e.2.1∧Conn l e.1 b):=by
 have hm:∀ x∈l,x∈l++ [e]:=fun x hx=>List.mem_append_left _ hx
 have he:e∈l++ [e]:=List.mem_append_right _ (.head _)
 constructor
 ·intro h
  induction h with
  | refl=>exact .inl .refl
  | @fwd f hf _ ih=>
   rcases List.mem_append.1 hf with hf | hf
   ·rcases ih with h | ⟨h1,h2⟩ | ⟨h1,h2⟩
    ·exact .inl (.fwd hf h)
    ·exact .inr (.inl ⟨h1,.fwd hf h2⟩)
    ·exact .inr (.inr ⟨h1,.fwd hf h2⟩)
   ·rw [List.mem_singleton.1 hf] at ih ⊢
    rcases ih with h | ⟨h1,h2⟩ | ⟨h1,h2⟩
    ·exact .inr (.inl ⟨h,.refl⟩)
    ·exact .inr (.inl ⟨h1,.refl⟩)
    ·exact .inl h1
  | @bwd f hf _ ih=>
   rcases List.mem_append.1 hf with hf | hf
   ·rcases ih with h | ⟨h1,h2⟩ | ⟨h1,h2⟩
    ·exact .inl (.bwd hf h)
    ·exact .inr (.inl ⟨h1,.bwd hf h2⟩)
    ·exact .inr (.inr ⟨h1,.bwd hf h2⟩)
   ·rw [List.mem_singleton.1 hf] at ih ⊢
    rcases ih with h | ⟨h1,h2⟩ | ⟨h1,h2⟩
    ·exact .inr (.inr ⟨h,.refl⟩)
    ·exact .inl h1
    ·exact .inr (.inr ⟨h1,.refl⟩)
 ·rintro (h | ⟨h1,h2⟩ | ⟨h1,h2⟩)
  ·exact h.mono hm
  ·exact (Conn.fwd he (h1.mono hm)).trans (h2.mono hm)
  ·exact (Conn.bwd he (h1.mono hm)).trans (h2.mono hm)
theorem conn_skip {l:List (Int × Int × Int)} {e:Int × Int × Int} (he:Conn l e.1 e.2.1) {a b:Int} :Conn (l++ [e]) a b↔Conn l a b:=by
 rw [conn_snoc]
 constructor
 ·rintro (h | ⟨h1,h2⟩ | ⟨h1,h2⟩)
  ·exact h
  ·exact (h1.trans he).trans h2
  ·exact (h1.trans he.symm).trans h2
 ·exact .inl
theorem conn_congr {l m:List (Int × Int × Int)} (h:∀ a b,Conn l a b↔Conn m a b) (e:Int × Int × Int) (a b:Int):Conn (l++ [e]) a b↔Conn (m++ [e]) a b:=by
 rw [conn_snoc,conn_snoc,h,h,h,h,h]
open Classical in
noncomputable def greedy (acc:List (Int × Int × Int)):List (Int × Int × Int)→List (Int × Int × Int)
 | []=>acc
 | e::l=>if Conn acc e.1 e.2.1 then greedy acc l else greedy (acc++ [e]) l
open Classical in
theorem greedy_snoc (e:Int × Int × Int):∀ (l acc:List (Int × Int × Int)),greedy acc (l++ [e])=if Conn (greedy acc l) e.1 e.2.1 then greedy acc l else greedy acc l++ [e]
 | [],acc=>rfl
 | f::l,acc=>by
  show (if Conn acc f.1 f.2.1 then greedy acc (l++ [e]) else greedy (acc++ [f]) (l++ [e]))=_
  have hg:greedy acc (f::l)=if Conn acc f.1 f.2.1 then greedy acc l else greedy (acc++ [f]) l:=rfl
  rw [hg]
  by_cases hc:Conn acc f.1 f.2.1
  ·rw [if_pos hc,if_pos hc]; exact greedy_snoc e l acc
  ·rw [if_neg hc,if_neg hc]; exact greedy_snoc e l (acc++ [f])
open Classical in
theorem greedy_conn:∀ (n:Nat) (l:List (Int × Int × Int)),n≤l.length→∀ a b,Conn (greedy [] (l.take n)) a b↔Conn (l.take n) a b
 | 0,l,_,a,b=>by rw [List.take_zero]; exact Iff.rfl
 | n+1,l,hn,a,b=>by
  have hx:l[n]? =some l[n]:=List.getElem?_eq_getElem (by omega)
  have tk:l.take (n+1)=l.take n++ [l[n]]:=by rw [List.take_add_one,hx]; rfl
  have ih:=greedy_conn n l (by omega)
  rw [tk,greedy_snoc]
  by_cases hc:Conn (greedy [] (l.take n)) l[n].1 l[n].2.1
  ·rw [if_pos hc,conn_skip ((ih _ _).1 hc),ih]
  ·rw [if_neg hc]; exact conn_congr ih _ a b
theorem greedy_conn' (l:List (Int × Int × Int)) (a b:Int):Conn (greedy [] l) a b↔Conn l a b:=by
 have:=greedy_conn l.length l (Nat.le_refl _) a b
 rwa [List.take_length] at this
open Classical in
theorem greedy_take {l:List (Int × Int × Int)} {n:Nat} (hn:n<l.length):greedy [] (l.take (n+1))=if Conn (l.take n) l[n].1 l[n].2.1 then greedy [] (l.take n) else greedy [] (l.take n)++ [l[n]]:=by
 have tk:l.take (n+1)=l.take n++ [l[n]]:=by rw [List.take_add_one,List.getElem?_eq_getElem hn]; rfl
 rw [tk,greedy_snoc]
 by_cases hc:Conn (l.take n) l[n].1 l[n].2.1
 ·rw [if_pos hc,if_pos ((greedy_conn n l (by omega) _ _).2 hc)]
 ·rw [if_neg hc,if_neg (fun h=>hc ((greedy_conn n l (by omega) _ _).1 h))]
theorem greedy_sub:∀ (l acc:List (Int × Int × Int)),∀ e∈greedy acc l,e∈acc∨e∈l
 | [],acc,e,h=>.inl h
 | f::l,acc,e,h=>by
  unfold greedy at h
  split at h
  ·rcases greedy_sub l acc e h with h | h
   ·exact .inl h
   ·exact .inr (.tail _ h)
  ·rcases greedy_sub l (acc++ [f]) e h with h | h
   ·rcases List.mem_append.1 h with h | h
    ·exact .inl h
    ·rw [List.mem_singleton.1 h]; exact .inr (.head _)
   ·exact .inr (.tail _ h)
theorem greedy_acc:∀ (l acc:List (Int × Int × Int)),∃ m,greedy acc l=acc++m∧m.Sublist l
 | [],acc=>⟨[],by simp [greedy],.slnil⟩
 | f::l,acc=>by
  unfold greedy
  split
  ·obtain ⟨m,h1,h2⟩:=greedy_acc l acc
   exact ⟨m,h1,h2.cons _⟩
  ·obtain ⟨m,h1,h2⟩:=greedy_acc l (acc++ [f])
   exact ⟨f::m,by rw [h1,List.append_assoc]; rfl,h2.cons_cons _⟩
theorem greedy_sublist (l:List (Int × Int × Int)):(greedy [] l).Sublist l:=by
 obtain ⟨m,h1,h2⟩:=greedy_acc l []
 rw [h1,List.nil_append]; exact h2
structure UF (up:List Int) (R ρ:Nat→Nat) (B:Nat):Prop where
 len:up.length=65
 rt:∀ i,i<65→R i<65∧R (R i)=R i
 at':∀ i,i<65→∃ p:Nat,p<65∧up[i]? =some (p:Int)∧R p=R i∧(p=i↔R i=i)∧(p≠i→ρ i<ρ p)∧ρ i≤B
theorem UF.half {up:List Int} {R ρ:Nat→Nat} {B:Nat} (h:UF up R ρ B) {a p q:Nat} (ha:a<65) (hp:p<65) (hq:q<65) (hap:up[a]? =some (p:Int)) (hpq:up[p]? =some (q:Int)) (hne:p≠a):
  UF (up.set a (q:Int)) R ρ B∧R q=R a∧ρ a<ρ q:=by
 obtain ⟨p',k1,k2,k3,k4,k5,k6⟩:=h.at' a ha
 have e1:p'=p:=by rw [hap] at k2; injection k2 with k2; omega
 subst e1
 obtain ⟨q',m1,m2,m3,m4,m5,m6⟩:=h.at' p' hp
 have e2:q'=q:=by rw [hpq] at m2; injection m2 with m2; omega
 subst e2
 have hr:ρ a<ρ q':=by
  by_cases hh:q'=p'
  ·subst hh; exact k5 hne
  ·have:=m5 hh; have:=k5 hne; omega
 refine ⟨⟨by rw [List.length_set]; exact h.len,h.rt,fun i hi=> ?_⟩,m3.trans k3,hr⟩
 by_cases hia:i=a
 ·subst hia
  refine ⟨q',m1,List.getElem?_set_self (by rw [h.len]; exact ha),m3.trans k3,⟨fun he=> ?_,fun he=> ?_⟩,fun _=>hr,k6⟩
  ·subst he; omega
  ·exact absurd (k4.2 he) hne
 ·obtain ⟨r,n1,n2,n3⟩:=h.at' i hi
  exact ⟨r,n1,by rw [List.getElem?_set_ne (by omega)]; exact n2,n3⟩
open Classical in
theorem UF.join {up:List Int} {R ρ:Nat→Nat} {B:Nat} (h:UF up R ρ B) {a b:Nat} (ha:a<65) (hb:b<65) (hra:R a=a) (hrb:R b=b) (hne:a≠b):
  ∃ ρ' B',UF (up.set b (a:Int)) (fun i=>if R i=b then a else R i) ρ' B':=by
 refine ⟨fun i=>if R i=a then ρ i+B+1 else ρ i,B+B+1,⟨by rw [List.length_set]; exact h.len,fun i hi=> ?_,fun i hi=> ?_⟩⟩
 ·by_cases hc:R i=b
  ·simp only [if_pos hc,hra,if_neg hne,and_self]
   exact ⟨ha,trivial⟩
  ·simp only [if_neg hc,(h.rt i hi).2,true_and,and_true]
   exact (h.rt i hi).1
 ·obtain ⟨p,k1,k2,k3,k4,k5,k6⟩:=h.at' i hi
  by_cases hib:i=b
  ·subst hib
   refine ⟨a,ha,List.getElem?_set_self (by rw [h.len]; exact hi),?_,?_,fun _=> ?_,?_⟩
   ·simp only [hra,hrb,if_neg hne,if_true]
   ·simp only [hrb,if_true]
   ·simp only [hrb,hra,if_neg (fun hh:i=a=>hne hh.symm),if_true]; omega
   ·simp only [hrb,if_neg (fun hh:i=a=>hne hh.symm)]; omega
  ·refine ⟨p,k1,by rw [List.getElem?_set_ne (by omega)]; exact k2,?_,?_,fun hpi=> ?_,?_⟩
   ·simp only [k3]
   ·by_cases hc:R i=b
    ·simp only [if_pos hc]
     rw [k4,hc]
     constructor
     ·intro hh; exact absurd hh.symm hib
     ·intro hh; subst hh; rw [hra] at hc; exact absurd hc hne
    ·simp only [if_neg hc]; exact k4
   ·have:=k5 hpi
    simp only [k3]
    split<;>omega
   ·show (if R i=a then ρ i+B+1 else ρ i)≤B+B+1
    split<;>omega
def Sets (l:List (Int × Int × Int)) (up size least:List Int):Prop:=
 size.length=65∧least.length=65∧∃ R ρ B,UF up R ρ B∧∀ i j:Nat,i<65→j<65→(R i=R j↔Conn l (i:Int) (j:Int))
theorem Sets.congr {l m:List (Int × Int × Int)} {up size least:List Int} (h:Sets l up size least) (hc:∀ a b,Conn l a b↔Conn m a b):Sets m up size least:=by
 obtain ⟨h1,h2,R,ρ,B,h3,h4⟩:=h
 exact ⟨h1,h2,R,ρ,B,h3,fun i j hi hj=>(h4 i j hi hj).trans (hc _ _)⟩
end Go.Tm
namespace Go.Tm
set_option linter.unusedVariables false
set_option linter.unusedSimpArgs false
abbrev E3:=Int × Int × Int
theorem conn_sub {l m:List E3} (h:∀ e∈l,Conn m e.1 e.2.1) {a b:Int} (hc:Conn l a b):Conn m a b:=by
 induction hc with
 | refl=>exact .refl
 | fwd he _ ih=>exact ih.trans (h _ he)
 | bwd he _ ih=>exact ih.trans (h _ he).symm
theorem first_cross {a b:Int} :∀ (F G:List E3),¬ Conn G a b→Conn (G++F) a b→∃ F1 f F2,F=F1++f::F2∧¬ Conn (G++F1) a b∧Conn (G++F1++ [f]) a b
 | [],G,h,hc=>by rw [List.append_nil] at hc; exact absurd hc h
 | f::F,G,h,hc=>by
  by_cases hf:Conn (G++ [f]) a b
  ·exact ⟨[],f,F,rfl,by rw [List.append_nil]; exact h,by rw [List.append_nil]; exact hf⟩
  ·obtain ⟨F1,g,F2,e1,e2,e3⟩:=first_cross F (G++ [f]) hf (by rw [List.append_assoc]; exact hc)
   exact ⟨f::F1,g,F2,by rw [e1]; rfl,by simpa [List.append_assoc] using e2,by simpa [List.append_assoc] using e3⟩
theorem cross_back {G:List E3} {f:E3} {a b:Int} (h:¬ Conn G a b) (hc:Conn (G++ [f]) a b):(Conn G f.1 a∧Conn G b f.2.1)∨(Conn G f.1 b∧Conn G a f.2.1):=by
 rcases conn_snoc.1 hc with h1 | ⟨h1,h2⟩ | ⟨h1,h2⟩
 ·exact absurd h1 h
 ·exact .inl ⟨h1.symm,h2.symm⟩
 ·exact .inr ⟨h2,h1⟩
theorem cross_conn {G m:List E3} {f e:E3} (h:¬ Conn G e.1 e.2.1) (hc:Conn (G++ [f]) e.1 e.2.1) (hG:∀ x∈G,x∈m) (he:e∈m):Conn m f.1 f.2.1:=by
 have hE:Conn m e.1 e.2.1:=.fwd he .refl
 rcases cross_back h hc with ⟨h1,h2⟩ | ⟨h1,h2⟩
 ·exact ((h1.mono hG).trans hE).trans (h2.mono hG)
 ·exact ((h1.mono hG).trans hE.symm).trans (h2.mono hG)
def wSum:List E3→Int
 | []=>0
 | e::l=>e.2.2+wSum l
theorem wSum_append:∀ l m:List E3,wSum (l++m)=wSum l+wSum m
 | [],m=>by simp [wSum]
 | e::l,m=>by
  show e.2.2+wSum (l++m)=e.2.2+wSum l+wSum m
  rw [wSum_append l m]; omega
theorem wSum_nonneg:∀ l:List E3,(∀ e∈l,0≤e.2.2)→0≤wSum l
 | [],_=>Int.le_refl _
 | e::l,h=>by
  have h1:=h e (.head _)
  have h2:=wSum_nonneg l (fun x hx=>h x (.tail _ hx))
  show 0≤e.2.2+wSum l
  omega
open Classical in
theorem kruskal_le {s T:List E3} (hs:∀ (i j:Nat) (x y:E3),i<j→s[i]? =some x→s[j]? =some y→x.2.2≤y.2.2) (hpos:∀ e∈s,0≤e.2.2) (hT:∀ e∈T,e∈s) (hspan:∀ a b,Conn s a b→Conn T a b):wSum (greedy [] s)≤wSum T:=by
 have key:∀ n,n≤s.length→∃ F:List E3,(∀ e∈F,e∈s)∧(∀ a b,Conn s a b→Conn (greedy [] (s.take n)++F) a b)∧wSum (greedy [] (s.take n))+wSum F≤wSum T:=by
  intro n
  induction n with
  | zero=>exact fun _=>⟨T,hT,fun a b h=>by rw [List.take_zero]; exact hspan a b h,by rw [List.take_zero]; show wSum []+wSum T≤wSum T; simp [wSum]⟩
  | succ n ih=>
   intro hn
   obtain ⟨F,h1,h2,h3⟩:=ih (by omega)
   have hx:s[n]? =some s[n]:=List.getElem?_eq_getElem (by omega)
   have hgt:=greedy_take (l:=s) (n:=n) (by omega)
   have hmem:s[n]∈s:=List.getElem_mem _
   generalize s[n]=e at hx hgt hmem
   rw [hgt]
   by_cases hc:Conn (s.take n) e.1 e.2.1
   ·rw [if_pos hc]; exact ⟨F,h1,h2,h3⟩
   ·rw [if_neg hc]
    have hG:¬ Conn (greedy [] (s.take n)) e.1 e.2.1:=fun h=>hc ((greedy_conn n s (by omega) _ _).1 h)
    obtain ⟨F1,f,F2,e1,e2,e3⟩:=first_cross F _ hG (h2 _ _ (.fwd hmem .refl))
    have hfs:f∈s:=h1 f (by rw [e1]; simp)
    obtain ⟨k,hk⟩:=List.mem_iff_getElem?.1 hfs
    have hw:e.2.2≤f.2.2:=by
     rcases Nat.lt_trichotomy n k with hlt | heq | hgt
     ·exact hs n k e f hlt hx hk
     ·subst heq; rw [hx] at hk; injection hk with hk; rw [hk]; exact Int.le_refl _
     ·exfalso
      have hft:f∈s.take n:=List.mem_iff_getElem?.2 ⟨k,by rw [List.getElem?_take,if_pos hgt]; exact hk⟩
      have hcf:Conn (greedy [] (s.take n)++F1) f.1 f.2.1:=((greedy_conn n s (by omega) _ _).2 (.fwd hft .refl)).mono (fun x hx=>List.mem_append_left _ hx)
      exact e2 ((conn_skip hcf).1 e3)
    refine ⟨F1++F2,fun x hx=>h1 x (by rw [e1]; rcases List.mem_append.1 hx with h | h<;>simp [h]),fun a b hab=> ?_,?_⟩
    ·refine conn_sub (fun x hx=> ?_) (h2 a b hab)
     rw [e1] at hx
     have hsub:∀ y∈greedy [] (s.take n)++F1,y∈greedy [] (s.take n)++ [e]++(F1++F2):=fun y hy=>by
      rcases List.mem_append.1 hy with h | h<;>simp [h]
     by_cases hxf:x=f
     ·subst hxf
      exact cross_conn e2 e3 hsub (by simp)
     ·refine .fwd ?_ .refl
      rcases List.mem_append.1 hx with h | h
      ·simp [h]
      ·rcases List.mem_append.1 h with h | h
       ·simp [h]
       ·cases h with
        | head=>exact absurd rfl hxf
        | tail _ h=>exact List.mem_append_right _ (List.mem_append_right _ h)
    ·rw [e1,wSum_append] at h3
     rw [wSum_append,wSum_append]
     have:wSum (f::F2)=f.2.2+wSum F2:=rfl
     have:wSum [e]=e.2.2:=by simp [wSum]
     omega
 obtain ⟨F,h1,h2,h3⟩:=key s.length (Nat.le_refl _)
 rw [List.take_length] at h3
 have:=wSum_nonneg F (fun e he=>hpos e (h1 e he))
 omega
def Acyc (l:List E3):Prop:=∀ k e,l[k]? =some e→¬ Conn (l.take k) e.1 e.2.1
open Classical in
theorem greedy_acyc (s:List E3):∀ n,n≤s.length→Acyc (greedy [] (s.take n))
 | 0,_=>fun k e h=>by rw [List.take_zero] at h; simp [greedy] at h
 | n+1,hn=>by
  have ih:=greedy_acyc s n (by omega)
  have hgt:=greedy_take (l:=s) (n:=n) (by omega)
  rw [hgt]
  by_cases hc:Conn (s.take n) s[n].1 s[n].2.1
  ·rw [if_pos hc]; exact ih
  ·rw [if_neg hc]
   have hG:¬ Conn (greedy [] (s.take n)) s[n].1 s[n].2.1:=fun h=>hc ((greedy_conn n s (by omega) _ _).1 h)
   intro k e hk
   rcases Nat.lt_or_ge k (greedy [] (s.take n)).length with hlt | hge
   ·rw [List.getElem?_append_left hlt] at hk
    rw [List.take_append_of_le_length (by omega)]
    exact ih k e hk
   ·rw [List.getElem?_append_right hge] at hk
    have hk0:k=(greedy [] (s.take n)).length:=by
     have:=(List.getElem?_eq_some_iff.1 hk).1
     simp at this; omega
    subst hk0
    simp at hk
    subst hk
    rw [List.take_left]
    exact hG
theorem greedy_acyc' (s:List E3):Acyc (greedy [] s):=by
 have:=greedy_acyc s s.length (Nat.le_refl _)
 rwa [List.take_length] at this
theorem Acyc.apart {l:List E3} (h:Acyc l) {l1 l2:List E3} {x:E3} (hl:l=l1++x::l2):¬ Conn (l1++l2) x.1 x.2.1:=by
 intro hc
 have hx:¬ Conn l1 x.1 x.2.1:=by
  have:=h l1.length x (by rw [hl,List.getElem?_append_right (Nat.le_refl _)]; simp)
  rw [hl,List.take_left] at this; exact this
 obtain ⟨F1,f,F2,e1,e2,e3⟩:=first_cross l2 l1 hx hc
 have hf:=h (l1.length+1+F1.length) f (by
  rw [hl,e1,List.getElem?_append_right (by omega),show l1.length+1+F1.length - l1.length=F1.length+1 by omega,List.getElem?_cons_succ,List.getElem?_append_right (Nat.le_refl _)]
  simp)
 have ht:l.take (l1.length+1+F1.length)=l1++x::F1:=by
  rw [hl,e1,show l1++x::(F1++f::F2)=(l1++x::F1)++f::F2 by simp,List.take_left' (by simp; omega)]
 rw [ht] at hf
 exact hf (cross_conn e2 e3 (fun y hy=>by rcases List.mem_append.1 hy with h | h<;>simp [h]) (by simp))
end Go.Tm
namespace Go.Proofs.Ytfeepbajipdfaaa.T
open Go.Vm Go.Tm
set_option linter.unusedVariables false
set_option linter.unusedSimpArgs false
abbrev Ed:=Int × Int × Int
theorem node_r (n:Int):edge_Node_r n=(true,decide (1≤n∧n≤64)):=by
 unfold edge_Node_r
 by_cases h1:1≤n<;>simp [h1]
def May (e:Ed):Prop:=1≤e.1∧e.1≤64∧1≤e.2.1∧e.2.1≤64∧e.1<e.2.1∧0≤e.2.2∧e.2.2≤2147483647
instance (e:Ed):Decidable (May e):=by unfold May; exact inferInstance
def Apart (a b:Ed):Prop:=¬ (a.1=b.1∧a.2.1=b.2.1)
instance (a b:Ed):Decidable (Apart a b):=by unfold Apart; exact inferInstance
def AllMay (l:List Ed):Prop:=(∀ e∈l,May e)∧l.Pairwise Apart
instance (l:List Ed):Decidable (AllMay l):=by unfold AllMay; exact inferInstance
def chk (l:List Ed):Int:=if AllMay l then (if l.length>512 then 3 else 0) else 1
theorem refNode_r (n:Int):withyref05_Node_r n=(true,decide (1≤n∧n≤64)):=by
 unfold withyref05_Node_r
 by_cases h1:1≤n<;>simp [h1]
theorem edgeCheck_r (e:Ed):edge_Check_r e=(true,if May e then 0 else 1):=by
 unfold edge_Check_r May
 simp only [node_r]
 by_cases h1:1≤e.1∧e.1≤64<;>by_cases h2:1≤e.2.1∧e.2.1≤64<;>by_cases h3:e.2.1≤e.1<;>by_cases h4:e.2.2<0<;>by_cases h5:2147483647<e.2.2<;>simp [h1,h2,h3,h4,h5]<;>omega
theorem allMay_step {l:List Ed} {i:Nat} (hi:i<l.length):AllMay (l.take (i+1))↔AllMay (l.take i)∧May l[i]∧∀ e∈l.take i,Apart e l[i]:=by
 have e:l.take (i+1)=l.take i++ [l[i]]:=by rw [List.take_add_one,List.getElem?_eq_getElem hi]; rfl
 rw [e]
 unfold AllMay
 rw [List.pairwise_append]
 constructor
 ·rintro ⟨h1,h2,h3,h4⟩
  exact ⟨⟨fun e he=>h1 e (List.mem_append_left _ he),h2⟩,h1 _ (List.mem_append_right _ (.head _)),fun e he=>h4 e he _ (.head _)⟩
 ·rintro ⟨⟨h1,h2⟩,h3,h4⟩
  refine ⟨fun e he=> ?_,h2,List.pairwise_singleton _ _,fun e he x hx=> ?_⟩
  ·rcases List.mem_append.1 he with h | h
   ·exact h1 e h
   ·rw [List.mem_singleton.1 h]; exact h3
  ·rw [List.mem_singleton.1 hx]; exact h4 e he
theorem allMay_take {l:List Ed} (i:Nat) (h:AllMay l):AllMay (l.take i):=⟨fun e he=>h.1 e (List.mem_of_mem_take he),h.2.sublist (List.take_sublist _ _)⟩
theorem chk_bad {l:List Ed} (i:Nat) (h:¬ AllMay (l.take i)):chk l=1:=by
 unfold chk
 rw [if_neg (fun hh=>h (allMay_take i hh))]
theorem beq_ed (a b:Ed):Ty.beq (.row (.prod (.int .i64) (.prod (.int .i64) (.int .i64)))) a b=true↔a=b:=by
 obtain ⟨x,y,w⟩:=a
 obtain ⟨x',y',w'⟩:=b
 show ((x==x') && ((y==y') && (w==w')))=true↔_
 simp
theorem checkAll_r (l:List Ed) (hbig:l.length≤1152921504606846976):edge_CheckAll_r l=(true,chk l):=by
 have key:=loopR_by (d:=HL.dflt [.bool,.int .i64,(.fl (.prod (.row (.prod (.int .i64) (.prod (.int .i64) (.int .i64)))) .bool)),.bool,(.fl (.prod (.row (.prod (.int .i64) (.prod (.int .i64) (.int .i64)))) .bool))]) (step:=edge_CheckAll_l0 l)
  (fun s:Int × List (Ed × Bool) × Unit=>∃ (i:Nat) (M:List (Ed × Bool)),s=((i:Int),M,())∧i≤l.length∧AllMay (l.take i)∧∀ k:Ed,mapGet (k:=(.row (.prod (.int .i64) (.prod (.int .i64) (.int .i64))))) (v:=.bool) M k false=true↔∃ e∈l.take i,k=(e.1,e.2.1,0))
  (fun s=>l.length - s.1.toNat) (fun r:Bool × Int × List (Ed × Bool) × Bool × List (Ed × Bool) × Unit=>cond r.2.2.2.1 (cond (!(decide ((l.length:Int)>(512:Int)))) (0:Int) (3:Int)) r.2.1=chk l) ((0:Int),[],())
  ⟨0,[],rfl,Nat.zero_le _,⟨fun e he=>by simp at he,by simp⟩,fun k=>by simp [mapGet]⟩ (by
   rintro _ ⟨i,M,rfl,h1,h2,h3⟩
   unfold edge_CheckAll_l0
   by_cases hi:i<l.length
   ·have g1:(i:Int)<(l.length:Int):=by omega
    have hw:IntKind.i64.wrap ((i:Int)+1)=((i+1:Nat):Int):=by rw [wrap_i64 (by omega) (by omega)]; omega
    have hx:l[i]? =some l[i]:=List.getElem?_eq_getElem hi
    have hst:=allMay_step hi
    have hbad:=chk_bad (l:=l) (i+1)
    generalize l[i]=x at hx hst
    have tk:l.take (i+1)=l.take i++ [x]:=by rw [List.take_add_one,hx]; rfl
    by_cases hm:May x
    ·by_cases hmet:mapGet (k:=(.row (.prod (.int .i64) (.prod (.int .i64) (.int .i64))))) (v:=.bool) M (x.1,x.2.1,0) false=true
     ·simp only [decT g1,hw,Int.toNat_natCast,hx,Option.getD_some,edgeCheck_r,if_pos hm,hmet,decT hi,decT (show (0:Int)≤(i:Int) by omega),show ((0:Int) !=0)=false from rfl,Bool.not_false,Bool.not_true,cond_true,cond_false,Bool.and_true,Bool.and_self,Bool.true_and,Bool.and_false]
      refine ⟨trivial,fun h=>(by cases h),fun _=> ?_⟩
      obtain ⟨e,he,hk⟩:=(h3 _).1 hmet
      refine (hbad fun hh=> ?_).symm
      have:=(hst.1 hh).2.2 e he
      exact this ⟨by injection hk with a b; exact a.symm,by injection hk with a b; injection b with b c; exact b.symm⟩
     ·have hmet':=Bool.eq_false_iff.2 hmet
      simp only [decT g1,hw,Int.toNat_natCast,hx,Option.getD_some,edgeCheck_r,if_pos hm,hmet',decT hi,decT (show (0:Int)≤(i:Int) by omega),show ((0:Int) !=0)=false from rfl,Bool.not_false,Bool.not_true,cond_true,cond_false,Bool.and_true,Bool.and_self,Bool.true_and,Bool.and_false]
      refine ⟨trivial,fun _=>⟨⟨i+1,_,rfl,by omega,hst.2 ⟨h2,hm,fun e he hh=>hmet ((h3 _).2 ⟨e,he,by rw [hh.1,hh.2]⟩)⟩,fun k=> ?_⟩,by
       show l.length - (((i+1:Nat):Int)).toNat<l.length - ((i:Int)).toNat
       omega⟩,fun h=>by cases h⟩
      rw [mapGet_put beq_ed,tk]
      by_cases hk:k=(x.1,x.2.1,0)
      ·rw [if_pos hk]
       exact ⟨fun _=>⟨x,List.mem_append_right _ (.head _),hk⟩,fun _=>rfl⟩
      ·rw [if_neg hk,h3]
       constructor
       ·rintro ⟨e,he,hh⟩; exact ⟨e,List.mem_append_left _ he,hh⟩
       ·rintro ⟨e,he,hh⟩
        rcases List.mem_append.1 he with h | h
        ·exact ⟨e,h,hh⟩
        ·rw [List.mem_singleton.1 h] at hh; exact absurd hh hk
    ·simp only [decT g1,hw,Int.toNat_natCast,hx,Option.getD_some,edgeCheck_r,if_neg hm,decT hi,decT (show (0:Int)≤(i:Int) by omega),show ((1:Int) !=0)=true from rfl,Bool.not_false,Bool.not_true,cond_true,cond_false,Bool.and_true,Bool.and_self,Bool.true_and,Bool.and_false]
     exact ⟨trivial,fun h=>(by cases h),fun _=>(hbad fun hh=>hm (hst.1 hh).2.1).symm⟩
   ·have g1:¬ (i:Int)<(l.length:Int):=by omega
    simp only [decF g1,cond_false,Bool.false_and,Bool.not_false,cond_true]
    refine ⟨trivial,fun h=>(by cases h),fun _=> ?_⟩
    rw [List.take_of_length_le (by omega)] at h2
    unfold chk
    rw [if_pos h2]
    by_cases h512:(l.length:Int)>512
    ·rw [decT h512,if_pos (by omega)]; rfl
    ·rw [decF h512,if_neg (by omega)]; rfl)
 unfold edge_CheckAll_r
 simp only [loopD_eq]
 exact Prod.ext key.1 key.2
theorem chk_zero {l:List Ed} (h:chk l=0):AllMay l∧l.length≤512:=by
 unfold chk at h
 by_cases hl:AllMay l
 ·rw [if_pos hl] at h
  by_cases hn:l.length>512
  ·rw [if_pos hn] at h; cases h
  ·exact ⟨hl,by omega⟩
 ·rw [if_neg hl] at h; cases h
end Go.Proofs.Ytfeepbajipdfaaa.T
namespace Go.Proofs.Ytfeepbajipdfaaa.T
open Go.Vm Go.Tm
set_option linter.unusedVariables false
set_option linter.unusedSimpArgs false
theorem has_r (a sets:Int) (up size least:List Int) (hl:up.length=65):join_Join__has_r a sets up size least=(true,decide (1≤a∧a<65)):=by
 unfold join_Join__has_r
 rw [hl]
 by_cases h1:1≤a<;>simp [h1]
theorem top_r {up:List Int} {R ρ:Nat→Nat} {B:Nat} (h:UF up R ρ B) (a:Nat) (ha:a<65) (sets:Int) (size least:List Int):
  ∃ up',join_Join__top_r (a:Int) sets up size least=(true,((R a:Int),up'))∧UF up' R ρ B:=by
 have key:=loopR_by (d:=HL.dflt [.bool,.int .i64,(.fl (.int .i64))]) (step:=join_Join__top_l0 (a:Int) sets up size least)
  (fun s:Int × List Int × Unit=>∃ (i:Nat) (m:List Int),s=((i:Int),m,())∧i<65∧R i=R a∧UF m R ρ B) (fun s=>B - ρ s.1.toNat) (fun r:Bool × Int × List Int × Unit=>∃ m,r=(true,(R a:Int),m,())∧UF m R ρ B) ((a:Int),up,()) ⟨a,up,rfl,ha,rfl,h⟩ (by
   rintro _ ⟨i,m,rfl,h1,h2,h3⟩
   obtain ⟨p,k1,k2,k3,k4,k5,k6⟩:=h3.at' i h1
   have hlen:=h3.len
   unfold join_Join__top_l0
   by_cases hp:p=i
   ·subst hp
    have hb:((p:Int) !=(p:Int))=false:=by simp
    simp only [Int.toNat_natCast,k2,Option.getD_some,hb,decT (show (0:Int)≤(p:Int) by omega),decT (show p<m.length by omega),cond_false,Bool.and_true,Bool.not_false]
    refine ⟨trivial,fun h=>(by cases h),fun _=>⟨m,?_,h3⟩⟩
    rw [← h2,k4.1 rfl]
   ·obtain ⟨q,m1,m2,_⟩:=h3.at' p k1
    obtain ⟨n1,n2,n3⟩:=h3.half h1 k1 m1 k2 m2 hp
    have hb:((p:Int) !=(i:Int))=true:=bneI (by omega)
    have hq:(m.set i (q:Int))[i]? =some (q:Int):=List.getElem?_set_self (by omega)
    simp only [Int.toNat_natCast,k2,m2,hq,Option.getD_some,hb,decT (show (0:Int)≤(i:Int) by omega),decT (show i<m.length by omega),decT (show (0:Int)≤(p:Int) by omega),decT (show p<m.length by omega),List.length_set,cond_true,Bool.and_true,Bool.not_true]
    refine ⟨trivial,fun _=>⟨⟨q,_,rfl,m1,n2.trans h2,n1⟩,?_⟩,fun h=>by cases h⟩
    obtain ⟨_,_,_,_,_,_,q6⟩:=h3.at' q m1
    show B - ρ q<B - ρ i
    omega)
 obtain ⟨h1,m,h2,h3⟩:=key
 have hz:=Prod.ext (y:=(true,(true,(R a:Int),m,()))) h1 h2
 unfold join_Join__top_r
 simp only [loopD_eq,hz]
 exact ⟨m,rfl,h3⟩
theorem unite_r (l:List Ed) (e:Ed) (he:May e) (sets:Int) (up size least:List Int) (h:Sets l up size least):
  ∃ (u:Bool) (sets':Int) (up' size' least':List Int),join_Join__Unite_r e.1 e.2.1 sets up size least=(true,(u,sets',up',size',least'))∧(u=true↔¬ Conn l e.1 e.2.1)∧Sets (l++ [e]) up' size' least':=by
 obtain ⟨hs,hl,R,ρ,B,hu,hc⟩:=h
 obtain ⟨m1,m2,m3,m4,m5,m6,m7⟩:=he
 obtain ⟨a,ea⟩:∃ a:Nat,e.1=(a:Int):=⟨e.1.toNat,by omega⟩
 obtain ⟨b,eb⟩:∃ b:Nat,e.2.1=(b:Int):=⟨e.2.1.toNat,by omega⟩
 have ha:a<65:=by omega
 have hb:b<65:=by omega
 obtain ⟨up1,e1,u1⟩:=top_r hu a ha sets size least
 obtain ⟨up2,e2,u2⟩:=top_r u1 b hb sets size least
 have h1:=has_r e.1 sets up size least hu.len
 have h2:=has_r e.2.1 sets up size least hu.len
 have d1:decide (1≤e.1∧e.1<65)=true:=decT (by omega)
 have d2:decide (1≤e.2.1∧e.2.1<65)=true:=decT (by omega)
 rw [d1] at h1
 rw [d2] at h2
 have hra:=hu.rt a ha
 have hrb:=hu.rt b hb
 have hab:=hc a b ha hb
 rw [← ea,← eb] at hab
 unfold join_Join__Unite_r
 rw [ea] at h1
 rw [eb] at h2
 rw [ea,eb]
 by_cases hR:R a=R b
 ·have hbq:((R a:Int)==(R b:Int))=true:=by rw [hR]; simp
  have hcn:Conn l e.1 e.2.1:=hab.1 hR
  simp only [h1,h2,e1,e2,hbq,Bool.not_true,Bool.not_false,cond_true,cond_false,Bool.and_true,Bool.and_self]
  refine ⟨false,sets,up2,size,least,rfl,⟨fun h=>(by cases h),fun h=>absurd (by rw [← ea,← eb]; exact hcn) h⟩,?_⟩
  exact Sets.congr (l:=l) ⟨hs,hl,R,ρ,B,u2,hc⟩ (fun x y=>(conn_skip hcn).symm)
 ·have hbq:((R a:Int)==(R b:Int))=false:=beqI (by omega)
  have hl2:=u2.len
  simp only [h1,h2,e1,e2,hbq,Bool.not_true,Bool.not_false,cond_true,cond_false,Bool.and_true,Bool.and_self,Bool.true_and,Int.toNat_natCast,decT (show (0:Int)≤(R a:Int) by omega),decT (show (0:Int)≤(R b:Int) by omega),decT (show R a<size.length by omega),decT (show R b<size.length by omega)]
  generalize hcc:decide ((size[R a]?).getD 0<(size[R b]?).getD 0)=c
  obtain ⟨x,y,hx,hy,hxy⟩:∃ x y:Nat,cond c (R b:Int) (R a:Int)=(x:Int)∧cond c (R a:Int) (R b:Int)=(y:Int)∧((x=R a∧y=R b)∨(x=R b∧y=R a)):=by
   cases c
   ·exact ⟨R a,R b,rfl,rfl,.inl ⟨rfl,rfl⟩⟩
   ·exact ⟨R b,R a,rfl,rfl,.inr ⟨rfl,rfl⟩⟩
  have hx65:x<65:=by rcases hxy with ⟨h,_⟩ | ⟨h,_⟩<;>omega
  have hy65:y<65:=by rcases hxy with ⟨_,h⟩ | ⟨_,h⟩<;>omega
  have hRx:R x=x:=by rcases hxy with ⟨h,_⟩ | ⟨h,_⟩<;>(subst h; first | exact hra.2 | exact hrb.2)
  have hRy:R y=y:=by rcases hxy with ⟨_,h⟩ | ⟨_,h⟩<;>(subst h; first | exact hra.2 | exact hrb.2)
  have hne:x≠y:=by rcases hxy with ⟨h,h'⟩ | ⟨h,h'⟩<;>omega
  obtain ⟨ρ',B',u3⟩:=u2.join hx65 hy65 hRx hRy hne
  simp only [hx,hy,Int.toNat_natCast,decT (show (0:Int)≤(x:Int) by omega),decT (show (0:Int)≤(y:Int) by omega),decT (show x<size.length by omega),decT (show y<size.length by omega),decT (show x<least.length by omega),decT (show y<least.length by omega),decT (show y<up2.length by omega),Bool.and_self,Bool.and_true]
  refine ⟨true,_,_,_,_,rfl,⟨fun _ hcn=>hR (hab.2 (by rw [ea,eb]; exact hcn)),fun _=>rfl⟩,by simpa using hs,by simpa using hl,_,ρ',B',u3,fun i j hi hj=> ?_⟩
  rw [conn_snoc,← hc i j hi hj,ea,eb,← hc i a hi ha,← hc b j hb hj,← hc i b hi hb,← hc a j ha hj]
  show ((if R i=y then x else R i)=if R j=y then x else R j)↔_
  rcases hxy with ⟨rfl,rfl⟩ | ⟨rfl,rfl⟩<;>(split<;>split<;>omega)
theorem conn_nil {a b:Int} :Conn [] a b↔a=b:=by
 constructor
 ·intro h
  induction h with
  | refl=>rfl
  | fwd he=>cases he
  | bwd he=>cases he
 ·rintro rfl; exact .refl
theorem sets_r:∃ (sets:Int) (up size least:List Int),span_sets_r=(true,(sets,up,size,least))∧Sets [] up size least:=by
 have key:=loopR_by (d:=HL.dflt [.bool,.int .i64,(.fl (.int .i64)),(.fl (.int .i64)),(.fl (.int .i64))]) (step:=join_New_l0 (64:Int))
  (fun s:Int × Int × List Int × List Int × List Int × Unit=>∃ (i:Nat) (n:Int) (up size least:List Int),s=((i:Int),n,up,size,least,())∧i≤65∧up=(List.range i).map (fun k:Nat=>(k:Int))∧size.length=i∧least.length=i) (fun s=>65 - s.1.toNat)
  (fun r:Bool × Int × List Int × List Int × List Int × Unit=>r.2.2.1=(List.range 65).map (fun k:Nat=>(k:Int))∧r.2.2.2.1.length=65∧r.2.2.2.2.1.length=65) ((0:Int),(64:Int),[],[],[],()) ⟨0,64,[],[],[],rfl,by omega,rfl,rfl,rfl⟩ (by
   rintro _ ⟨i,n,up,size,least,rfl,h1,h2,h3,h4⟩
   have hlen:up.length=i:=by rw [h2]; simp
   unfold join_New_l0
   have hw64:IntKind.i64.wrap ((64:Int)+1)=65:=wrap_i64 (by omega) (by omega)
   by_cases hi:i<65
   ·have g1:(i:Int)<65:=by omega
    have hw:IntKind.i64.wrap ((i:Int)+1)=((i+1:Nat):Int):=by rw [wrap_i64 (by omega) (by omega)]; omega
    simp only [hw64,decT g1,hw,cond_true,List.length_cons,List.length_nil,hlen,h3,h4,decT (show (i+(0+1))*8≤140737488355328 by omega),Bool.and_self]
    refine ⟨trivial,fun _=>⟨⟨i+1,_,_,_,_,rfl,by omega,?_,by simp [h3],by simp [h4]⟩,by
     show 65 - (((i+1:Nat):Int)).toNat<65 - ((i:Int)).toNat
     omega⟩,fun h=>by cases h⟩
    rw [List.range_succ,List.map_append,h2]; rfl
   ·have g1:¬ (i:Int)<65:=by omega
    have:i=65:=by omega
    subst this
    simp only [hw64,decF g1,cond_false,Bool.not_false]
    exact ⟨trivial,fun h=>(by cases h),fun _=>⟨h2,h3,h4⟩⟩)
 obtain ⟨k1,k2,k3,k4⟩:=key
 unfold span_sets_r join_New_r
 simp only [loopD_eq,k1,decF (show ¬ (64:Int)<0 by omega),decF (show ¬ (64:Int)>4096 by omega),Bool.not_false,cond_true,cond_false,Bool.and_self]
 refine ⟨_,_,_,_,rfl,k3,k4,fun i=>i,fun _=>0,0,⟨by rw [k2]; simp,fun i hi=>⟨hi,rfl⟩,fun i hi=>⟨i,hi,by rw [k2,List.getElem?_map,List.getElem?_range hi]; rfl,rfl,by simp,fun h=>absurd rfl h,Nat.le_refl _⟩⟩,fun i j hi hj=> ?_⟩
 rw [conn_nil]
 show i=j↔(i:Int)=(j:Int)
 omega
theorem greedy_all {l:List Ed} :∀ n,n≤l.length→(∀ k e,k<n→l[k]? =some e→¬ Conn (l.take k) e.1 e.2.1)→greedy [] (l.take n)=l.take n
 | 0,_,_=>by rw [List.take_zero]; rfl
 | n+1,hn,h=>by
  have hx:l[n]? =some l[n]:=List.getElem?_eq_getElem (by omega)
  rw [greedy_take (by omega),if_neg (h n l[n] (by omega) hx),greedy_all n (by omega) (fun k e hk=>h k e (by omega)),List.take_add_one,hx]
  rfl
def NoneTo (l:List Ed) (n:Nat):Prop:=∀ k e,k<n→l[k]? =some e→¬ Conn (l.take k) e.1 e.2.1
theorem none_in (i:Nat):((([false,false,false,false,false,false,false,false,false,false,false,false,false,false,false,false,false,false,false,false,false,false,false,false,false,false,false,false,false,false,false,false,false,false,false,false,false,false,false,false,false,false,false,false,false,false,false,false,false,false,false,false,false,false,false,false,false,false,false,false,false,false,false,false,false]:List Bool)[i]?).getD false)=false:=by
 show ((List.replicate 65 false)[i]?).getD false=false
 rw [List.getElem?_replicate]
 split<;>rfl
theorem none_in2 (c:Nat→Bool) (hc:∀ i,c i=false) (i j:Nat):((([c,c,c,c,c,c,c,c,c,c,c,c,c,c,c,c,c,c,c,c,c,c,c,c,c,c,c,c,c,c,c,c,c,c,c,c,c,c,c,c,c,c,c,c,c,c,c,c,c,c,c,c,c,c,c,c,c,c,c,c,c,c,c,c,c]:List (Nat→Bool))[i]?).getD (fun _=>false)) j=false:=by
 show ((List.replicate 65 c)[i]?).getD (fun _=>false) j=false
 rw [List.getElem?_replicate]
 split
 ·exact hc j
 ·rfl
def cnt (m:Nat→Bool):Nat→Nat
 | 0=>0
 | n+1=>cnt m n+(if m n=true then 1 else 0)
theorem cnt_le (m:Nat→Bool):∀ n,cnt m n≤n
 | 0=>Nat.le_refl _
 | n+1=>by
  have:=cnt_le m n
  unfold cnt
  split<;>omega
theorem cnt_no0 (m:Nat→Bool) (h:m 0=false):∀ n,cnt m (n+1)≤n
 | 0=>by simp [cnt,h]
 | n+1=>by
  have:=cnt_no0 m h n
  show cnt m (n+1)+(if m (n+1)=true then 1 else 0)≤n+1
  split<;>omega
theorem cnt_mono {m m':Nat→Bool} (h:∀ j,m j=true→m' j=true):∀ n,cnt m n≤cnt m' n
 | 0=>Nat.le_refl _
 | n+1=>by
  have:=cnt_mono h n
  unfold cnt
  by_cases hm:m n=true
  ·rw [if_pos hm,if_pos (h n hm)]; omega
  ·rw [if_neg hm]; omega
theorem cnt_lt {m m':Nat→Bool} (h:∀ j,m j=true→m' j=true) {j:Nat} (h1:m j=false) (h2:m' j=true):∀ n,j<n→cnt m n<cnt m' n
 | 0,hj=>by omega
 | n+1,hj=>by
  have hm:=cnt_mono h n
  show cnt m n+(if m n=true then 1 else 0)<cnt m' n+(if m' n=true then 1 else 0)
  by_cases hjn:j=n
  ·subst hjn
   rw [if_neg (by rw [h1]; simp),if_pos h2]; omega
  ·have:=cnt_lt h h1 h2 n (by omega)
   by_cases hmn:m n=true
   ·rw [if_pos hmn,if_pos (h n hmn)]; omega
   ·rw [if_neg hmn]; omega
def Closed (l:List Ed) (m:Nat→Bool):Prop:=∀ e∈l,m e.1.toNat=m e.2.1.toNat
structure RSt (l:List Ed) (f:Int) (m:Nat→Bool):Prop where
 sound:∀ j:Nat,m j=true→Conn l f (j:Int)
 start:m f.toNat=true
 zero:m 0=false
theorem reach_l1 (l:List Ed) (hall:∀ e∈l,May e) (hbig:l.length≤1000000000) (f:Int) (m0:Nat→Bool) (h0:RSt l f m0):
  ∃ m:Nat→Bool,loopR (HL.dflt [.bool,(.arr 65 .bool)]) (withyref07_Reach_l1 l f) ((0:Int),m0,())=(true,(true,m,()))∧RSt l f m∧(Closed l m0→m=m0)∧(cnt m0 65<cnt m 65∨(m=m0∧Closed l m0)):=by
 have key:=loopR_by (d:=HL.dflt [.bool,(.arr 65 .bool)]) (step:=withyref07_Reach_l1 l f)
  (fun s:Int × (Nat→Bool) × Unit=>∃ (i:Nat) (m:Nat→Bool),s=((i:Int),m,())∧i≤l.length∧RSt l f m∧(∀ j,m0 j=true→m j=true)∧(Closed l m0→m=m0)∧(cnt m0 65<cnt m 65∨(m=m0∧Closed (l.take i) m0))) (fun s=>l.length - s.1.toNat)
  (fun r:Bool × (Nat→Bool) × Unit=>∃ m,r=(true,m,())∧RSt l f m∧(Closed l m0→m=m0)∧(cnt m0 65<cnt m 65∨(m=m0∧Closed l m0))) ((0:Int),m0,()) ⟨0,m0,rfl,Nat.zero_le _,h0,fun _ h=>h,fun _=>rfl,.inr ⟨rfl,fun e he=>by simp at he⟩⟩ (by
   rintro _ ⟨i,m,rfl,h1,h2,h3,h4,h5⟩
   unfold withyref07_Reach_l1
   by_cases hi:i<l.length
   ·have g1:(i:Int)<(l.length:Int):=by omega
    have hw:IntKind.i64.wrap ((i:Int)+1)=((i+1:Nat):Int):=by rw [wrap_i64 (by omega) (by omega)]; omega
    have hx:l[i]? =some l[i]:=List.getElem?_eq_getElem hi
    have hmem:l[i]∈l:=List.getElem_mem hi
    generalize l[i]=x at hx hmem
    obtain ⟨y1,y2,y3,y4,y5,y6,y7⟩:=hall x hmem
    obtain ⟨a,ea⟩:∃ a:Nat,x.1=(a:Int):=⟨x.1.toNat,by omega⟩
    obtain ⟨b,eb⟩:∃ b:Nat,x.2.1=(b:Int):=⟨x.2.1.toNat,by omega⟩
    have tk:l.take (i+1)=l.take i++ [x]:=by rw [List.take_add_one,hx]; rfl
    have hdone:∀ m':Nat→Bool,m'=(cond (cond (m a) true (m b)) (fun j=>bif Nat.beq j b then true else (fun j=>bif Nat.beq j a then true else m j) j) m)→(RSt l f m'∧(∀ j,m0 j=true→m' j=true)∧(Closed l m0→m'=m0)∧(cnt m0 65<cnt m' 65∨(m'=m0∧Closed (l.take (i+1)) m0))):=by
     intro m' hm'
     have hset:∀ j,(fun j=>bif Nat.beq j b then true else (fun j=>bif Nat.beq j a then true else m j) j) j=true↔j=b∨j=a∨m j=true:=fun j=>by
      show (bif Nat.beq j b then true else (bif Nat.beq j a then true else m j))=true↔_
      by_cases h1:j=b
      ·subst h1; simp [Nat.beq_refl]
      ·have e1:Nat.beq j b=false:=Bool.eq_false_iff.2 fun h=>h1 (Nat.eq_of_beq_eq_true h)
       by_cases h2:j=a
       ·subst h2; simp [e1,Nat.beq_refl]
       ·have e2:Nat.beq j a=false:=Bool.eq_false_iff.2 fun h=>h2 (Nat.eq_of_beq_eq_true h)
        simp [e1,e2,h1,h2]
     have hcl:m0 a=m0 b→m=m0→Closed (l.take i) m0→Closed (l.take (i+1)) m0:=fun hab _ hc e he=>by
      rw [tk] at he
      rcases List.mem_append.1 he with he | he
      ·exact hc e he
      ·rw [List.mem_singleton.1 he,ea,eb]; exact hab
     by_cases hc:(cond (m a) true (m b))=true
     ·rw [hc,cond_true] at hm'
      have hc':m a=true∨m b=true:=by cases h:m a<;>simp_all
      by_cases hboth:m a=true∧m b=true
      ·have hsame:m'=m:=by
        funext j
        rw [hm']
        apply Bool.eq_iff_iff.2
        rw [hset]
        constructor
        ·rintro (rfl | rfl | h)
         ·exact hboth.2
         ·exact hboth.1
         ·exact h
        ·exact fun h=>.inr (.inr h)
       rw [hsame]
       refine ⟨h2,h3,h4,?_⟩
       rcases h5 with h5 | ⟨h5,h6⟩
       ·exact .inl h5
       ·exact .inr ⟨h5,hcl (by rw [← h5,hboth.1,hboth.2]) h5 h6⟩
      ·have hsub:∀ j,m j=true→m' j=true:=fun j hj=>by rw [hm']; exact (hset j).2 (.inr (.inr hj))
       have hnew:cnt m 65<cnt m' 65:=by
        rcases hc' with h | h
        ·have hb:m b=false:=Bool.eq_false_iff.2 fun hh=>hboth ⟨h,hh⟩
         exact cnt_lt hsub hb (by rw [hm']; exact (hset b).2 (.inl rfl)) 65 (by omega)
        ·have hb:m a=false:=Bool.eq_false_iff.2 fun hh=>hboth ⟨hh,h⟩
         exact cnt_lt hsub hb (by rw [hm']; exact (hset a).2 (.inr (.inl rfl))) 65 (by omega)
       have hle:=cnt_mono h3 65
       refine ⟨⟨fun j hj=> ?_,hsub _ h2.start,Bool.eq_false_iff.2 fun hh=> ?_⟩,fun j hj=>hsub j (h3 j hj),fun hcl0=> ?_,.inl (by omega)⟩
       ·rw [hm',hset] at hj
        have hAB:Conn l f x.1∨Conn l f x.2.1:=by
         rcases hc' with h | h
         ·left; rw [ea]; exact h2.sound a h
         ·right; rw [eb]; exact h2.sound b h
        rcases hj with rfl | rfl | hj
        ·rw [← eb]
         rcases hAB with h | h
         ·exact .fwd hmem h
         ·exact h
        ·rw [← ea]
         rcases hAB with h | h
         ·exact h
         ·exact .bwd hmem h
        ·exact h2.sound j hj
       ·rw [hm',hset] at hh
        rcases hh with h | h | h
        ·omega
        ·omega
        ·rw [h2.zero] at h; cases h
       ·have hmm:=h4 hcl0
        exfalso
        have:=hcl0 x hmem
        rw [ea,eb] at this
        simp only [Int.toNat_natCast] at this
        rw [← hmm] at this
        rcases hc' with h | h
        ·exact hboth ⟨h,by rw [← this]; exact h⟩
        ·exact hboth ⟨by rw [this]; exact h,h⟩
     ·have hcf:=Bool.eq_false_iff.2 hc
      rw [hcf,cond_false] at hm'
      have h00:m a=false∧m b=false:=by cases h:m a<;>simp_all
      rw [hm']
      refine ⟨h2,h3,h4,?_⟩
      rcases h5 with h5 | ⟨h5,h6⟩
      ·exact .inl h5
      ·exact .inr ⟨h5,hcl (by rw [← h5,h00.1,h00.2]) h5 h6⟩
    obtain ⟨k1,k2,k3,k4⟩:=hdone _ rfl
    refine ⟨?_,fun _=>⟨⟨i+1,_,?_,by omega,k1,k2,k3,k4⟩,by
     simp only [hw,Int.toNat_natCast]; omega⟩,fun h=> ?_⟩
    ·simp only [Int.toNat_natCast,decT g1,hx,Option.getD_some,ea,eb,decT hi,decT (show (0:Int)≤(i:Int) by omega),decT (show (0:Int)≤(a:Int) by omega),decT (show (0:Int)≤(b:Int) by omega),decT (show a<65 by omega),decT (show b<65 by omega),cond_true,Bool.and_true,Bool.and_self,Bool.cond_self]
     cases m a<;>simp
    ·simp only [hw,Int.toNat_natCast,hx,Option.getD_some,ea,eb]
    ·simp only [decT g1] at h; cases h
   ·have g1:¬ (i:Int)<(l.length:Int):=by omega
    have hil:i=l.length:=by omega
    subst hil
    rw [List.take_length] at h5
    simp only [decF g1,cond_false,Bool.not_false]
    exact ⟨trivial,fun h=>(by cases h),fun _=>⟨m,rfl,h2,h4,h5⟩⟩)
 obtain ⟨k1,m,k2,k3⟩:=key
 exact ⟨m,Prod.ext k1 k2,k3⟩
theorem reach_r (l:List Ed) (hall:∀ e∈l,May e) (hbig:l.length≤1000000000) (f:Int) (hf:1≤f∧f≤64):∃ m:Nat→Bool,withyref07_Reach_r l f=(true,m)∧∀ j:Nat,m j=true↔Conn l f (j:Int):=by
 obtain ⟨a,rfl⟩:∃ a:Nat,f=(a:Int):=⟨f.toNat,by omega⟩
 have hone:∀ z:Nat→Bool,(∀ j,z j=false)→RSt l (a:Int) (fun j=>bif Nat.beq j a then true else z j):=fun z hz=>by
  have hj:∀ j,(bif Nat.beq j a then true else z j)=true↔j=a:=fun j=>by
   by_cases h:j=a
   ·subst h; simp [Nat.beq_refl]
   ·have:Nat.beq j a=false:=Bool.eq_false_iff.2 fun hh=>h (Nat.eq_of_beq_eq_true hh)
    simp [this,hz,h]
  exact ⟨fun j h=>by rw [(hj j).1 h]; exact .refl,(hj _).2 (by simp),Bool.eq_false_iff.2 fun h=>by have:=(hj 0).1 h; omega⟩
 have key:∀ z:Nat→Bool,(∀ j,z j=false)→(loopR (HL.dflt [.bool,(.arr 65 .bool)]) (withyref07_Reach_l0 l (a:Int)) ((0:Int),(fun j=>bif Nat.beq j a then true else z j),())).1=true∧(fun r:Bool × (Nat→Bool) × Unit=>∃ m,r=(true,m,())∧RSt l (a:Int) m∧Closed l m) (loopR (HL.dflt [.bool,(.arr 65 .bool)]) (withyref07_Reach_l0 l (a:Int)) ((0:Int),(fun j=>bif Nat.beq j a then true else z j),())).2:=fun z hz=>by
  refine loopR_by (d:=HL.dflt [.bool,(.arr 65 .bool)]) (step:=withyref07_Reach_l0 l (a:Int))
   (fun s:Int × (Nat→Bool) × Unit=>∃ (k:Nat) (m:Nat→Bool),s=((k:Int),m,())∧k≤64∧RSt l (a:Int) m∧(Closed l m∨k<cnt m 65)) (fun s=>64 - s.1.toNat)
   (fun r:Bool × (Nat→Bool) × Unit=>∃ m,r=(true,m,())∧RSt l (a:Int) m∧Closed l m) ((0:Int),(fun j=>bif Nat.beq j a then true else z j),()) ⟨0,_,rfl,by omega,hone z hz,.inr ?_⟩ ?_
  ·have:cnt (fun _=>false) 65<cnt (fun j=>bif Nat.beq j a then true else z j) 65:=cnt_lt (fun j h=>by cases h) (j:=a) rfl (by simp [Nat.beq_refl]) 65 (by omega)
   omega
  ·rintro _ ⟨k,m,rfl,h1,h2,h3⟩
   unfold withyref07_Reach_l0
   obtain ⟨m',e1,q1,q2,q3⟩:=reach_l1 l hall hbig (a:Int) m h2
   by_cases hk:k<64
   ·have g1:(k:Int)<64:=by omega
    have hw:IntKind.i64.wrap ((k:Int)+1)=((k+1:Nat):Int):=by rw [wrap_i64 (by omega) (by omega)]; omega
    simp only [loopD_eq,e1,decT g1,hw,cond_true]
    refine ⟨trivial,fun _=>⟨⟨k+1,m',rfl,by omega,q1,?_⟩,by
     show 64 - (((k+1:Nat):Int)).toNat<64 - ((k:Int)).toNat
     omega⟩,fun h=>by cases h⟩
    rcases q3 with q3 | ⟨q3,q4⟩
    ·rcases h3 with h3 | h3
     ·exact .inl (by rw [q2 h3]; exact h3)
     ·exact .inr (by omega)
    ·exact .inl (by rw [q3]; exact q4)
   ·have g1:¬ (k:Int)<64:=by omega
    simp only [decF g1,cond_false,Bool.not_false]
    refine ⟨trivial,fun h=>(by cases h),fun _=>⟨m,rfl,h2,?_⟩⟩
    rcases h3 with h3 | h3
    ·exact h3
    ·have:cnt m 65≤64:=cnt_no0 m h2.zero 64
     omega
 obtain ⟨k1,m,k2,k3,k4⟩:=key _ (fun j=>none_in j)
 unfold withyref07_Reach_r
 simp only [loopD_eq,refNode_r,Int.toNat_natCast,decT hf,Bool.not_true,Bool.not_false,cond_true,decT (show (0:Int)≤(a:Int) by omega),decT (show a<65 by omega),Bool.true_and]
 refine ⟨m,Prod.ext k1 (congrArg (fun r:Bool × (Nat→Bool) × Unit=>r.2.1) k2),fun j=>⟨k3.sound j,fun h=> ?_⟩⟩
 have hgo:∀ b,Conn l (a:Int) b→m b.toNat=true:=fun b hb=>by
  induction hb with
  | refl=>exact k3.start
  | fwd he _ ih=>rw [← k4 _ he]; exact ih
  | bwd he _ ih=>rw [k4 _ he]; exact ih
 have:=hgo _ h
 simpa using this
open Classical in
theorem refLinked_r (l:List Ed) (hall:∀ e∈l,May e) (hbig:l.length≤1000000000) (a b:Int) (ha:1≤a∧a≤64) (hb:1≤b∧b≤64):withyref07_Linked_r l a b=(true,decide (Conn l a b)):=by
 obtain ⟨m,e1,h1⟩:=reach_r l hall hbig a ha
 unfold withyref07_Linked_r
 simp only [refNode_r,decT ha,decT hb,e1,cond_true,Bool.and_self,Bool.and_true,Bool.true_and,decT (show (0:Int)≤b by omega),decT (show b.toNat<65 by omega)]
 have h2:=h1 b.toNat
 rw [show ((b.toNat:Nat):Int)=b by omega] at h2
 congr 1
 by_cases hc:Conn l a b
 ·rw [decT hc]; exact h2.2 hc
 ·rw [decF hc]; exact Bool.eq_false_iff.2 fun hh=>hc (h2.1 hh)
theorem forest1_r (l:List Ed) (e:Ed) (he:May e) (sets:Int) (up size least:List Int) (h:Sets l up size least):
  ∃ (u:Bool) (sets':Int) (up' size' least':List Int),span_Forest_1_r e sets up size least=(true,(u,sets',up',size',least'))∧(u=true↔Conn l e.1 e.2.1)∧Sets (l++ [e]) up' size' least':=by
 obtain ⟨u,sets',up',size',least',e1,h1,h2⟩:=unite_r l e he sets up size least h
 unfold span_Forest_1_r
 simp only [e1]
 refine ⟨!u,sets',up',size',least',rfl,?_,h2⟩
 cases u
 ·simp at h1 ⊢; exact h1
 ·simp at h1 ⊢; exact h1
theorem index2_r (l:List Ed) (hall:∀ e∈l,May e) (hbig:l.length≤1152921504606846976) (sets:Int) (up size least:List Int) (h:Sets [] up size least):
  ∃ (idx sets':Int) (up' size' least':List Int),slices_IndexFunc_api_Edge_r l () sets up size least=(true,(idx,sets',up',size',least'))∧
   ((idx= -1∧NoneTo l l.length∧Sets l up' size' least')∨∃ (i:Nat) (e:Ed),l[i]? =some e∧idx=(i:Int)∧NoneTo l i∧Conn (l.take i) e.1 e.2.1∧Sets (l.take (i+1)) up' size' least'):=by
 have key:=loopR_by (d:=HL.dflt [.bool,.int .i64,.int .i64,(.fl (.int .i64)),(.fl (.int .i64)),(.fl (.int .i64)),.bool,.int .i64,(.fl (.int .i64)),(.fl (.int .i64)),(.fl (.int .i64))]) (step:=slices_IndexFunc_api_Edge_l0 l () sets up size least)
  (fun s:Int × Int × List Int × List Int × List Int × Unit=>∃ (i:Nat) (n:Int) (a b c:List Int),s=((i:Int),n,a,b,c,())∧i≤l.length∧NoneTo l i∧Sets (l.take i) a b c) (fun s=>l.length - s.1.toNat)
  (fun r:Bool × Int × Int × List Int × List Int × List Int × Bool × Int × List Int × List Int × List Int × Unit=>
   (r.2.2.2.2.2.2.1=true∧NoneTo l l.length∧Sets l r.2.2.2.2.2.2.2.2.1 r.2.2.2.2.2.2.2.2.2.1 r.2.2.2.2.2.2.2.2.2.2.1)∨
   (r.2.2.2.2.2.2.1=false∧∃ (i:Nat) (e:Ed),l[i]? =some e∧r.2.1=(i:Int)∧NoneTo l i∧Conn (l.take i) e.1 e.2.1∧Sets (l.take (i+1)) r.2.2.2.1 r.2.2.2.2.1 r.2.2.2.2.2.1))
  ((0:Int),sets,up,size,least,()) ⟨0,sets,up,size,least,rfl,Nat.zero_le _,fun k e hk=>by omega,by rw [List.take_zero]; exact h⟩ (by
   rintro _ ⟨i,n,a,b,c,rfl,h1,h2,h3⟩
   unfold slices_IndexFunc_api_Edge_l0
   by_cases hi:i<l.length
   ·have g1:(i:Int)<(l.length:Int):=by omega
    have hw:IntKind.i64.wrap ((i:Int)+1)=((i+1:Nat):Int):=by rw [wrap_i64 (by omega) (by omega)]; omega
    have hx:l[i]? =some l[i]:=List.getElem?_eq_getElem hi
    have hm:May l[i]:=hall _ (List.getElem_mem hi)
    generalize l[i]=x at hx hm
    have tk:l.take (i+1)=l.take i++ [x]:=by rw [List.take_add_one,hx]; rfl
    obtain ⟨u,n',a',b',c',e1,e2,e3⟩:=forest1_r (l.take i) x hm n a b c h3
    rw [← tk] at e3
    cases u with
    | true=>
     simp only [Int.toNat_natCast,decT g1,hw,hx,Option.getD_some,e1,decT hi,decT (show (0:Int)≤(i:Int) by omega),cond_true,Bool.and_true,Bool.not_true,Bool.and_false]
     exact ⟨trivial,fun h=>(by cases h),fun _=>.inr ⟨by trivial,i,x,hx,rfl,h2,e2.1 rfl,e3⟩⟩
    | false=>
     simp only [Int.toNat_natCast,decT g1,hw,hx,Option.getD_some,e1,decT hi,decT (show (0:Int)≤(i:Int) by omega),cond_true,Bool.and_true,Bool.not_false]
     refine ⟨trivial,fun _=>⟨⟨i+1,n',a',b',c',rfl,by omega,fun k e hk hke=> ?_,e3⟩,by
      show l.length - (((i+1:Nat):Int)).toNat<l.length - ((i:Int)).toNat
      omega⟩,fun h=>by cases h⟩
     by_cases hki:k=i
     ·subst hki
      rw [hx] at hke; injection hke with hke; subst hke
      exact fun hc=>by have:=e2.2 hc; cases this
     ·exact h2 k e (by omega) hke
   ·have g1:¬ (i:Int)<(l.length:Int):=by omega
    have hil:i=l.length:=by omega
    subst hil
    rw [List.take_length] at h3
    simp only [decF g1,cond_false,Bool.false_and,Bool.not_false]
    exact ⟨trivial,fun h=>(by cases h),fun _=>.inl ⟨by trivial,h2,h3⟩⟩)
 obtain ⟨k1,k2⟩:=key
 unfold slices_IndexFunc_api_Edge_r
 generalize hz:loopR (HL.dflt [.bool,.int .i64,.int .i64,(.fl (.int .i64)),(.fl (.int .i64)),(.fl (.int .i64)),.bool,.int .i64,(.fl (.int .i64)),(.fl (.int .i64)),(.fl (.int .i64))]) (slices_IndexFunc_api_Edge_l0 l () sets up size least) ((0:Int),sets,up,size,least,())=z at k1 k2
 obtain ⟨z1,z2,z3,z4,z5,z6,z7,z8,z9,za,zb,zc,zd⟩:=z
 simp only at k1 k2
 subst k1
 simp only [loopD_eq,hz]
 rcases k2 with ⟨q1,q2,q3⟩ | ⟨q1,i,e,q2,q3,q4,q5,q6⟩
 ·subst q1
  exact ⟨-1,z9,za,zb,zc,rfl,.inl ⟨rfl,q2,q3⟩⟩
 ·subst q1
  exact ⟨z3,z4,z5,z6,z7,rfl,.inr ⟨i,e,q2,q3,q4,q5,q6⟩⟩
open Classical in
theorem forest_r (l:List Ed) (hbig:l.length≤1000000000):span_Forest_r l=(true,decide (chk l=0∧NoneTo l l.length)):=by
 obtain ⟨sets,up,size,least,e2,hS⟩:=sets_r
 unfold span_Forest_r
 by_cases hk:chk l=0
 ·have hall:∀ e∈l,May e:=(chk_zero hk).1.1
  obtain ⟨idx,s',u',z',l',e3,hc⟩:=index2_r l hall (by omega) sets up size least hS
  unfold slices_ContainsFunc_api_Edge_r
  simp only [e2,e3,checkAll_r l (by omega),hk,show ((0:Int)==0)=true from rfl,cond_true,Bool.and_self,Bool.true_and]
  congr 1
  rcases hc with ⟨rfl,h1,_⟩ | ⟨i,e,h1,rfl,h2,h3,_⟩
  ·rw [decF (show ¬ (-1:Int)≥0 by omega),decT ⟨trivial,h1⟩]; rfl
  ·rw [decT (show (i:Int)≥0 by omega),decF (fun h=>h.2 i e (List.getElem?_eq_some_iff.1 h1).1 h1 h3)]; rfl
 ·simp only [e2,checkAll_r l (by omega),beqI hk,cond_false,Bool.and_self,Bool.and_true,Bool.true_and,decF (fun h:chk l=0∧NoneTo l l.length=>hk h.1)]
open Classical in
theorem refForest_r (l:List Ed) (hall:∀ e∈l,May e) (hbig:l.length≤1000000000):withyref07_Forest_r l=(true,decide (NoneTo l l.length)):=by
 have key:=loopR_by (d:=HL.dflt [.bool,.bool,.bool]) (step:=withyref07_Forest_l0 l) (fun s:Int × Unit=>∃ i:Nat,s=((i:Int),())∧i≤l.length∧NoneTo l i) (fun s=>l.length - s.1.toNat) (fun r:Bool × Bool × Bool × Unit=>cond r.2.2.1 true r.2.1=decide (NoneTo l l.length)) ((0:Int),()) ⟨0,rfl,Nat.zero_le _,fun k e hk=>by omega⟩ (by
  rintro _ ⟨i,rfl,h1,h2⟩
  unfold withyref07_Forest_l0
  by_cases hi:i<l.length
  ·have g1:(i:Int)<(l.length:Int):=by omega
   have hw:IntKind.i64.wrap ((i:Int)+1)=((i+1:Nat):Int):=by rw [wrap_i64 (by omega) (by omega)]; omega
   have hx:l[i]? =some l[i]:=List.getElem?_eq_getElem hi
   have hm:May l[i]:=hall _ (List.getElem_mem hi)
   generalize l[i]=x at hx hm
   have hl:=refLinked_r (l.take i) (fun e he=>hall e (List.mem_of_mem_take he)) (by rw [List.length_take]; omega) x.1 x.2.1 ⟨hm.1,hm.2.1⟩ ⟨hm.2.2.1,hm.2.2.2.1⟩
   by_cases hc:Conn (l.take i) x.1 x.2.1
   ·rw [decT hc] at hl
    simp only [Int.toNat_natCast,decT g1,hw,hx,Option.getD_some,List.drop_zero,hl,decT hi,decT (show i≤l.length by omega),decT (show (0:Int)≤(i:Int) by omega),cond_true,Bool.and_self,Bool.and_true,Bool.not_true]
    exact ⟨trivial,fun h=>(by cases h),fun _=>(decF (fun hn=>hn i x hi hx hc)).symm⟩
   ·rw [decF hc] at hl
    simp only [Int.toNat_natCast,decT g1,hw,hx,Option.getD_some,List.drop_zero,hl,decT hi,decT (show i≤l.length by omega),decT (show (0:Int)≤(i:Int) by omega),cond_true,Bool.and_self,Bool.and_true,Bool.not_false]
    refine ⟨trivial,fun _=>⟨⟨i+1,rfl,by omega,fun k e hk hke=> ?_⟩,by
     show l.length - (((i+1:Nat):Int)).toNat<l.length - ((i:Int)).toNat
     omega⟩,fun h=>by cases h⟩
    by_cases hki:k=i
    ·subst hki
     rw [hx] at hke; injection hke with hke; subst hke; exact hc
    ·exact h2 k e (by omega) hke
  ·have g1:¬ (i:Int)<(l.length:Int):=by omega
   have hil:i=l.length:=by omega
   subst hil
   simp only [decF g1,cond_false,Bool.false_and,Bool.not_false,cond_true]
   exact ⟨trivial,fun h=>(by cases h),fun _=>(decT h2).symm⟩)
 unfold withyref07_Forest_r
 simp only [loopD_eq]
 exact Prod.ext key.1 key.2
end Go.Proofs.Ytfeepbajipdfaaa.T
namespace Go.Proofs.Ytfeepbajipdfaaa.T
open Go.Vm Go.Tm
set_option linter.unusedVariables false
set_option linter.unusedSimpArgs false
def other (e:Ed) (n:Int):Int:=if e.1=n then e.2.1 else if e.2.1=n then e.1 else 0
theorem other_r (e:Ed) (n:Int):edge_Other_r e n=(true,other e n):=by
 unfold edge_Other_r other
 by_cases h1:e.1=n
 ·subst h1; simp
 ·by_cases h2:e.2.1=n
  ·subst h2; simp [h1,beqI h1]
  ·simp [h1,h2,beqI h1,beqI h2]
theorem other_rng {e:Ed} (he:May e) (n:Int):other e n=0∨(1≤other e n∧other e n≤64):=by
 unfold other May at*
 split
 ·right; omega
 ·split
  ·right; omega
  ·left; rfl
theorem other_pos {e:Ed} {n:Int} (h:other e n>0):(e.1=n∧e.2.1=other e n)∨(e.2.1=n∧e.1=other e n):=by
 unfold other at*
 split at h
 ·rename_i h1; rw [if_pos h1]; exact .inl ⟨h1,rfl⟩
 ·rename_i h1
  split at h
  ·rename_i h2; rw [if_neg h1,if_pos h2]; exact .inr ⟨h2,rfl⟩
  ·omega
theorem other_conn {l:List Ed} {e:Ed} {n:Int} (he:e∈l) (h:other e n>0):Conn l n (other e n):=by
 rcases other_pos h with ⟨h1,h2⟩ | ⟨h1,h2⟩
 ·rw [← h2,← h1]; exact .fwd he .refl
 ·rw [← h2,← h1]; exact .bwd he .refl
structure Bfs (l:List Ed) (root:Int) (d:Nat) (V up:List Int):Prop where
 len:up.length=65
 rng:∀ x∈V,1≤x∧x≤64
 nd:V.Nodup
 mem:∀ x:Int,1≤x→x≤64→((up[x.toNat]?).getD 0≠0↔x∈V)
 hd:V[0]? =some root
 par:∀ (i:Nat) (x:Int),0<i→V[i]? =some x→∃ (j:Nat) (y:Int),j<i∧V[j]? =some y∧(up[x.toNat]?).getD 0=y∧∃ e∈l,other e y=x
 done:∀ (i:Nat) (x:Int),i<d→V[i]? =some x→∀ e∈l,other e x>0→other e x∈V
theorem nodup_le:∀ (n:Nat) (V:List Int),(∀ x∈V,1≤x∧x≤(n:Int))→V.Nodup→V.length≤n
 | 0,V,h,_=>by
  cases V with
  | nil=>exact Nat.le_refl _
  | cons a V=>have:=h a (.head _); omega
 | n+1,V,h,hn=>by
  have h1:=nodup_le n (V.erase ((n+1:Nat):Int)) (fun x hx=>by
   have:=(hn.mem_erase_iff).1 hx
   have:=h x this.2
   omega) (hn.erase _)
  have:=List.length_erase (a:=((n+1:Nat):Int)) (l:=V)
  split at this<;>omega
theorem nodup_len {V:List Int} (h:∀ x∈V,1≤x∧x≤64) (hn:V.Nodup):V.length≤64:=nodup_le 64 V h hn
theorem Bfs.push {l:List Ed} {root n o:Int} {d:Nat} {V up:List Int} (h:Bfs l root d V up) (hn:V[d]? =some n) {e:Ed} (he:e∈l) (ho:other e n=o) (h1:1≤o) (h2:o≤64) (h0:(up[o.toNat]?).getD 0=0):Bfs l root d (V++ [o]) (up.set o.toNat n):=by
 have hoV:o ∉ V:=fun hm=>(h.mem o h1 h2).2 hm h0
 have hdl:d<V.length:=(List.getElem?_eq_some_iff.1 hn).1
 have hnr:=h.rng n (List.mem_of_getElem? hn)
 have hset:∀ x:Int,1≤x→x≤64→((up.set o.toNat n)[x.toNat]?).getD 0=if x=o then n else (up[x.toNat]?).getD 0:=fun x hx1 hx2=>by
  rw [List.getElem?_set]
  by_cases hxo:x=o
  ·subst hxo
   rw [if_pos rfl,if_pos rfl,if_pos (by rw [h.len]; omega)]
   rfl
  ·rw [if_neg hxo,if_neg (by omega)]
 refine ⟨by rw [List.length_set]; exact h.len,fun x hx=> ?_,?_,fun x hx1 hx2=> ?_,?_,fun i x hi hx=> ?_,fun i x hi hx e' he' hp=> ?_⟩
 ·rcases List.mem_append.1 hx with hx | hx
  ·exact h.rng x hx
  ·rw [List.mem_singleton.1 hx]; exact ⟨h1,h2⟩
 ·exact List.nodup_append.2 ⟨h.nd,(List.pairwise_singleton _ _),fun a ha b hb=>by
   rw [List.mem_singleton.1 hb]; exact fun hh=>hoV (hh ▸ ha)⟩
 ·rw [hset x hx1 hx2,List.mem_append,List.mem_singleton]
  by_cases hxo:x=o
  ·rw [if_pos hxo]
   exact ⟨fun _=>.inr hxo,fun _=>by omega⟩
  ·rw [if_neg hxo,h.mem x hx1 hx2]
   exact ⟨fun h=>.inl h,fun h=>h.elim id (fun h=>absurd h hxo)⟩
 ·rw [List.getElem?_append_left (by omega)]; exact h.hd
 ·rw [List.getElem?_append] at hx
  split at hx
  ·rename_i hil
   obtain ⟨j,y,k1,k2,k3,k4⟩:=h.par i x hi hx
   have hxm:=h.rng x (List.mem_of_getElem? hx)
   have hxo:¬ x=o:=fun hh=>hoV (hh ▸ List.mem_of_getElem? hx)
   exact ⟨j,y,k1,by rw [List.getElem?_append_left (by omega)]; exact k2,by rw [hset x hxm.1 hxm.2,if_neg hxo]; exact k3,k4⟩
  ·rename_i hil
   have hx0:i - V.length=0:=by
    have:=(List.getElem?_eq_some_iff.1 hx).1
    simp at this; omega
   rw [hx0] at hx
   have hx:x=o:=by simpa using hx.symm
   subst hx
   exact ⟨d,n,by omega,by rw [List.getElem?_append_left hdl]; exact hn,by rw [hset x h1 h2,if_pos rfl],e,he,ho⟩
 ·rw [List.getElem?_append_left (by omega)] at hx
  exact List.mem_append_left _ (h.done i x hi hx e' he' hp)
theorem ups_l1 (l:List Ed) (hall:∀ e∈l,May e) (hbig:l.length≤1000000) (root n:Int) (d lo0 k0:Nat) (V0 up0 arr0:List Int) (hB:Bfs l root d V0 up0) (hd:V0[d]? =some n) (hk:k0=V0.length - d) (ha:(arr0.drop lo0).take k0=V0.drop d):
  ∃ (lo k:Nat) (V up arr:List Int),loopR (HL.dflt [.bool,.nat,.nat,(.fl (.int .i64)),(.fl (.int .i64))]) (tree_ups_l1 l root (lo0,k0,up0,arr0,())) ((0:Int),(1+lo0),(k0 - 1),up0,arr0,())=(true,(true,lo,k,up,arr,()))∧Bfs l root (d+1) V up∧k=V.length - (d+1)∧(arr.drop lo).take k=V.drop (d+1)∧∃ W,V=V0++W:=by
 have hdl:d<V0.length:=(List.getElem?_eq_some_iff.1 hd).1
 have har:(arr0[lo0]?).getD 0=n:=by
  have h1:((arr0.drop lo0).take k0)[0]? =(V0.drop d)[0]? :=by rw [ha]
  rw [List.getElem?_take,if_pos (by omega),List.getElem?_drop,List.getElem?_drop,Nat.add_zero,Nat.add_zero,hd] at h1
  rw [h1]; rfl
 have key:=loopR_by (d:=HL.dflt [.bool,.nat,.nat,(.fl (.int .i64)),(.fl (.int .i64))]) (step:=tree_ups_l1 l root (lo0,k0,up0,arr0,()))
  (fun s:Int × Nat × Nat × List Int × List Int × Unit=>∃ (i lo k:Nat) (V up arr:List Int),s=((i:Int),lo,k,up,arr,())∧i≤l.length∧Bfs l root d V up∧V[d]? =some n∧k=V.length - (d+1)∧(arr.drop lo).take k=V.drop (d+1)∧(∃ W,V=V0++W)∧∀ e∈l.take i,other e n>0→other e n∈V) (fun s=>l.length - s.1.toNat)
  (fun r:Bool × Nat × Nat × List Int × List Int × Unit=>∃ (lo k:Nat) (V up arr:List Int),r=(true,lo,k,up,arr,())∧Bfs l root (d+1) V up∧k=V.length - (d+1)∧(arr.drop lo).take k=V.drop (d+1)∧∃ W,V=V0++W)
  ((0:Int),(1+lo0),(k0 - 1),up0,arr0,()) ⟨0,1+lo0,k0 - 1,V0,up0,arr0,rfl,Nat.zero_le _,hB,hd,by omega,by
   have h1:((arr0.drop lo0).take k0).drop 1=(V0.drop d).drop 1:=by rw [ha]
   rw [List.drop_take,List.drop_drop,List.drop_drop] at h1
   rw [show 1+lo0=lo0+1 by omega]; exact h1,⟨[],by simp⟩,fun e he=>by simp at he⟩ (by
  rintro _ ⟨i,lo,k,V,up,arr,rfl,h1,h2,h3,h4,h5,⟨W,h6⟩,h7⟩
  unfold tree_ups_l1
  have hVl:=nodup_len h2.rng h2.nd
  by_cases hi:i<l.length
  ·have g1:(i:Int)<(l.length:Int):=by omega
   have hw:IntKind.i64.wrap ((i:Int)+1)=((i+1:Nat):Int):=by rw [wrap_i64 (by omega) (by omega)]; omega
   have hx:l[i]? =some l[i]:=List.getElem?_eq_getElem hi
   have hm:l[i]∈l:=List.getElem_mem hi
   generalize l[i]=e at hx hm
   have tk:l.take (i+1)=l.take i++ [e]:=by rw [List.take_add_one,hx]; rfl
   have hr:=other_rng (hall e hm) n
   have hul:=h2.len
   by_cases ho:other e n>0
   ·have hnot:(other e n).toNat<up.length:=by omega
    by_cases hz:(up[(other e n).toNat]?).getD 0=0
    ·have hz':((up[(other e n).toNat]?).getD 0==0)=true:=by rw [hz]; rfl
     have hB':=h2.push h3 hm rfl (by omega) (by omega) hz
     have hkl:k+1=((arr.drop lo).take k++ [other e n]).length:=by
      rw [List.length_append,h5,List.length_drop,List.length_singleton]; omega
     simp only [show (Int.toNat 0)=0 from rfl,Nat.zero_add,Int.toNat_natCast,har,decT g1,hw,hx,Option.getD_some,other_r,decT ho,decT hnot,decT (show (0:Int)≤other e n by omega),hz',decT hi,decT (show (0:Int)≤(i:Int) by omega),cond_true,Bool.and_self,Bool.and_true,Bool.true_and,List.length_cons,List.length_nil]
     have hk8:(k+1)*8≤140737488355328:=by omega
     refine ⟨decT hk8,fun _=>⟨⟨i+1,0,_,V++ [other e n],up.set (other e n).toNat n,(arr.drop lo).take k++ [other e n],rfl,by omega,hB',?_,?_,?_,⟨W++ [other e n],by rw [h6,List.append_assoc]⟩,fun e' he' hp=> ?_⟩,?_⟩,fun h=>by cases h⟩
     ·rw [List.getElem?_append_left (by rw [h6,List.length_append]; omega)]; exact h3
     ·rw [← hkl,List.length_append,List.length_singleton]
      have:d<V.length:=by rw [h6,List.length_append]; omega
      omega
     ·rw [List.drop_zero,List.take_length,h5,List.drop_append_of_le_length (by rw [h6,List.length_append]; omega)]
     ·rw [tk] at he'
      rcases List.mem_append.1 he' with h | h
      ·exact List.mem_append_left _ (h7 e' h hp)
      ·rw [List.mem_singleton.1 h]; exact List.mem_append_right _ (.head _)
     ·show l.length - (((i+1:Nat):Int)).toNat<l.length - ((i:Int)).toNat
      omega
    ·have hz':((up[(other e n).toNat]?).getD 0==0)=false:=beqI hz
     have hinV:other e n∈V:=(h2.mem _ (by omega) (by omega)).1 hz
     simp only [show (Int.toNat 0)=0 from rfl,Nat.zero_add,Int.toNat_natCast,har,decT g1,hw,hx,Option.getD_some,other_r,decT ho,decT hnot,decT (show (0:Int)≤other e n by omega),hz',decT hi,decT (show (0:Int)≤(i:Int) by omega),cond_true,cond_false,Bool.and_self,Bool.and_true,Bool.true_and]
     refine ⟨trivial,fun _=>⟨⟨i+1,lo,k,V,up,arr,rfl,by omega,h2,h3,h4,h5,⟨W,h6⟩,fun e' he' hp=> ?_⟩,?_⟩,fun h=>by cases h⟩
     ·rw [tk] at he'
      rcases List.mem_append.1 he' with h | h
      ·exact h7 e' h hp
      ·rw [List.mem_singleton.1 h]; exact hinV
     ·show l.length - (((i+1:Nat):Int)).toNat<l.length - ((i:Int)).toNat
      omega
   ·simp only [show (Int.toNat 0)=0 from rfl,Nat.zero_add,Int.toNat_natCast,har,decT g1,hw,hx,Option.getD_some,other_r,decF ho,decT hi,decT (show (0:Int)≤(i:Int) by omega),cond_true,cond_false,Bool.and_self,Bool.and_true,Bool.true_and,Bool.false_and]
    refine ⟨trivial,fun _=>⟨⟨i+1,lo,k,V,up,arr,rfl,by omega,h2,h3,h4,h5,⟨W,h6⟩,fun e' he' hp=> ?_⟩,?_⟩,fun h=>by cases h⟩
    ·rw [tk] at he'
     rcases List.mem_append.1 he' with h | h
     ·exact h7 e' h hp
     ·rw [List.mem_singleton.1 h] at hp; exact absurd hp ho
    ·show l.length - (((i+1:Nat):Int)).toNat<l.length - ((i:Int)).toNat
     omega
  ·have g1:¬ (i:Int)<(l.length:Int):=by omega
   have hil:i=l.length:=by omega
   subst hil
   rw [List.take_length] at h7
   simp only [decF g1,cond_false,Bool.not_false]
   refine ⟨trivial,fun h=>(by cases h),fun _=>⟨lo,k,V,up,arr,rfl,⟨h2.len,h2.rng,h2.nd,h2.mem,h2.hd,h2.par,fun i x hi hx e he hp=> ?_⟩,h4,h5,⟨W,h6⟩⟩⟩
   by_cases hid:i=d
   ·subst hid
    rw [h3] at hx; injection hx with hx; subst hx
    exact h7 e he hp
   ·exact h2.done i x (by omega) hx e he hp)
 obtain ⟨k1,lo,k,V,up,arr,k2,k3⟩:=key
 exact ⟨lo,k,V,up,arr,Prod.ext k1 k2,k3⟩
theorem ups_r (l:List Ed) (hall:∀ e∈l,May e) (hbig:l.length≤1000000) (root:Int) (h1:1≤root) (h2:root≤64):∃ V up:List Int,tree_ups_r l root=(true,up)∧Bfs l root V.length V up∧(up[root.toNat]?).getD 0≠0:=by
 have hlen:((List.replicate (Int.toNat (65:Int)) (0:Int)).set root.toNat root).length=65:=by rw [List.length_set,List.length_replicate]; rfl
 have hget:∀ x:Int,1≤x→x≤64→(((List.replicate (Int.toNat (65:Int)) (0:Int)).set root.toNat root)[x.toNat]?).getD 0=if x=root then root else 0:=fun x hx1 hx2=>by
  rw [List.getElem?_set]
  by_cases hxo:x=root
  ·subst hxo
   rw [if_pos rfl,if_pos rfl,if_pos (by rw [List.length_replicate,show Int.toNat 65=65 from rfl]; omega)]
   rfl
  ·rw [if_neg hxo,if_neg (by omega),List.getElem?_replicate,if_pos (by rw [show Int.toNat 65=65 from rfl]; omega)]
   rfl
 have hB0:Bfs l root 0 [root] ((List.replicate (Int.toNat (65:Int)) (0:Int)).set root.toNat root):=by
  refine ⟨hlen,fun x hx=>by rw [List.mem_singleton.1 hx]; exact ⟨h1,h2⟩,(List.pairwise_singleton _ _),fun x hx1 hx2=> ?_,rfl,fun i x hi hx=> ?_,fun i x hi=>by omega⟩
  ·rw [hget x hx1 hx2,List.mem_singleton]
   by_cases hxo:x=root
   ·rw [if_pos hxo]; exact ⟨fun _=>hxo,fun _=>by omega⟩
   ·rw [if_neg hxo]; exact ⟨fun h=>absurd rfl h,fun h=>absurd h hxo⟩
  ·have:=(List.getElem?_eq_some_iff.1 hx).1
   simp at this; omega
 have key:∀ (m lo k d:Nat) (V up arr:List Int),Bfs l root d V up→d≤V.length→k=V.length - d→(arr.drop lo).take k=V.drop d→2*(64 - V.length)+(V.length - d)≤m→
   ∃ V' up':List Int,loopR (HL.dflt [.bool,(.fl (.int .i64))]) (tree_ups_l0 l root) (lo,k,up,arr,())=(true,(true,up',()))∧Bfs l root V'.length V' up':=by
  intro m
  induction m with
  | zero=>
   intro lo k d V up arr hB hd hk ha hm
   have hdl:d=V.length:=by omega
   have hk0:k=0:=by omega
   subst hk0
   have hend:REnd (tree_ups_l0 l root (lo,0,up,arr,())) (true,up,()):=by
    unfold tree_ups_l0 REnd
    simp only [decF (show ¬ ((0:Nat):Int)>0 by omega),cond_false,Bool.not_false]
    exact ⟨trivial,trivial,trivial⟩
   exact ⟨V,up,hend.end,hdl ▸ hB⟩
  | succ m ih=>
   intro lo k d V up arr hB hd hk ha hm
   by_cases hdl:d=V.length
   ·have hk0:k=0:=by omega
    subst hk0
    have hend:REnd (tree_ups_l0 l root (lo,0,up,arr,())) (true,up,()):=by
     unfold tree_ups_l0 REnd
     simp only [decF (show ¬ ((0:Nat):Int)>0 by omega),cond_false,Bool.not_false]
     exact ⟨trivial,trivial,trivial⟩
    exact ⟨V,up,hend.end,hdl ▸ hB⟩
   ·have hdlt:d<V.length:=by omega
    have hdv:V[d]? =some (V[d]'hdlt):=List.getElem?_eq_getElem hdlt
    generalize V[d]'hdlt=n at hdv
    obtain ⟨lo',k',V',up',arr',e,hB',hk',ha',W,hW⟩:=ups_l1 l hall hbig root n d lo k V up arr hB hdv hk ha
    have hVl:=nodup_len hB'.rng hB'.nd
    have hVV:V'.length=V.length+W.length:=by rw [hW,List.length_append]
    have hall':k≤arr.length - lo:=by
     have:=congrArg List.length ha
     rw [List.length_take,List.length_drop,List.length_drop] at this
     omega
    have hgo:RGo (tree_ups_l0 l root (lo,k,up,arr,())) (lo',k',up',arr',()):=by
     unfold tree_ups_l0 RGo
     simp only [show (Int.toNat 0)=0 from rfl,show (Int.toNat 1)=1 from rfl,Nat.zero_add,loopD_eq,e,decT (show (k:Int)>0 by omega),decT (show 0<k by omega),decT (show lo<arr.length by omega),decT (show 1≤k by omega),decT (show (0:Int)≤0 by omega),decT (show (0:Int)≤1 by omega),cond_true,Bool.and_self,Bool.and_true,Bool.true_and]
     exact ⟨trivial,trivial,trivial⟩
    obtain ⟨V2,up2,e2,h2⟩:=ih lo' k' (d+1) V' up' arr' hB' (by omega) hk' ha' (by omega)
    exact ⟨V2,up2,hgo.go.trans e2,h2⟩
 obtain ⟨V,up,e,hB⟩:=key _ 0 1 0 [root] _ [root] hB0 (Nat.zero_le _) rfl rfl (Nat.le_refl _)
 refine ⟨V,up,?_,hB,?_⟩
 ·unfold tree_ups_r
  have hl65:decide (root.toNat<(List.replicate (Int.toNat (65:Int)) (0:Int)).length)=true:=decT (by rw [List.length_replicate,show Int.toNat 65=65 from rfl]; omega)
  have hl1:(root::([]:List Int)).length=1:=rfl
  simp only [loopD_eq,hl1,e,hl65,decT (show (0:Int)≤root by omega),Bool.and_self,Bool.and_true]
  rfl
 ·exact (hB.mem root h1 h2).2 (List.mem_of_getElem? hB.hd)
end Go.Proofs.Ytfeepbajipdfaaa.T
namespace Go.Proofs.Ytfeepbajipdfaaa.T
open Go.Vm Go.Tm
set_option linter.unusedVariables false
set_option linter.unusedSimpArgs false
theorem Bfs.reach {l:List Ed} {root:Int} {d:Nat} {V up:List Int} (h:Bfs l root d V up) (q:Ed→Prop):∀ (i:Nat) (x:Int),V[i]? =some x→(∀ e∈l,∀ j k y z,j<i→k≤i→V[j]? =some y→V[k]? =some z→other e y=z→q e)→∀ [DecidablePred q],Conn (l.filter (fun e=>decide (q e))) root x:=by
 intro i
 induction i using Nat.strongRecOn with
 | ind i ih=>
  intro x hx hq _
  rcases Nat.eq_zero_or_pos i with h0 | h0
  ·subst h0
   rw [h.hd] at hx
   injection hx with hx
   subst hx
   exact .refl
  ·obtain ⟨j,y,k1,k2,k3,e,he,hoe⟩:=h.par i x h0 hx
   have hxr:=h.rng x (List.mem_of_getElem? hx)
   have c1:=ih j k1 y k2 (fun e he a b y z ha hb=>hq e he a b y z (by omega) (by omega))
   have hqe:q e:=hq e he j i y x k1 (Nat.le_refl _) k2 hx hoe
   have hm:e∈l.filter (fun e=>decide (q e)):=List.mem_filter.2 ⟨he,decT hqe⟩
   have:=other_conn hm (n:=y) (by omega)
   rw [hoe] at this
   exact c1.trans this
theorem Bfs.conn {l:List Ed} {root:Int} {V up:List Int} (hall:∀ e∈l,May e) (h:Bfs l root V.length V up) (x:Int):x∈V↔Conn l root x:=by
 constructor
 ·intro hx
  obtain ⟨i,hi⟩:=List.mem_iff_getElem?.1 hx
  have:=h.reach (fun _=>True) i x hi (fun _ _ _ _ _ _ _ _ _ _ _=>trivial)
  exact this.mono fun e he=>(List.mem_filter.1 he).1
 ·intro hc
  induction hc with
  | refl=>exact List.mem_of_getElem? h.hd
  | @fwd e he _ ih=>
   obtain ⟨i,hi⟩:=List.mem_iff_getElem?.1 ih
   have hm:=hall e he
   have hoe:other e e.1=e.2.1:=by unfold other; rw [if_pos rfl]
   have hil:=(List.getElem?_eq_some_iff.1 hi).1
   have:=h.done i e.1 hil hi e he (by rw [hoe]; unfold May at hm; omega)
   rw [hoe] at this
   exact this
  | @bwd e he _ ih=>
   obtain ⟨i,hi⟩:=List.mem_iff_getElem?.1 ih
   have hm:=hall e he
   have hoe:other e e.2.1=e.1:=by
    unfold other May at*
    rw [if_neg (by omega),if_pos rfl]
   have hil:=(List.getElem?_eq_some_iff.1 hi).1
   have:=h.done i e.2.1 hil hi e he (by rw [hoe]; unfold May at hm; omega)
   rw [hoe] at this
   exact this
theorem way_loop (l:List Ed) (a b:Int) (V up:List Int) (hu:tree_ups_r l b=(true,up)) (hB:Bfs l b V.length V up) (ha:a∈V):
  ∃ out:List Int,loopR (HL.dflt [.bool,(.fl (.int .i64))]) (tree_Way_l0 l a b) (a,[a],())=(true,(true,out,()))∧out.length≤100∧((a=b∧out= [a])∨(a≠b∧∃ t,out=a::(up[a.toNat]?).getD 0::t)):=by
 have hVl:=nodup_len hB.rng hB.nd
 obtain ⟨i0,hi0⟩:=List.mem_iff_getElem?.1 ha
 have hi0l:=(List.getElem?_eq_some_iff.1 hi0).1
 have key:∀ (m i:Nat) (x:Int) (out:List Int),V[i]? =some x→i≤m→out.length+i≤66→((x=a∧out= [a])∨(a≠b∧∃ t,out=a::(up[a.toNat]?).getD 0::t))→
   ∃ out':List Int,loopR (HL.dflt [.bool,(.fl (.int .i64))]) (tree_Way_l0 l a b) (x,out,())=(true,(true,out',()))∧out'.length≤100∧((a=b∧out'= [a])∨(a≠b∧∃ t,out'=a::(up[a.toNat]?).getD 0::t)):=by
  intro m
  induction m with
  | zero=>
   intro i x out hx him hl hs
   have hi0:i=0:=by omega
   subst hi0
   rw [hB.hd] at hx
   injection hx with hx
   subst hx
   have hend:REnd (tree_Way_l0 l a b (b,out,())) (true,out,()):=by
    unfold tree_Way_l0 REnd
    simp only [bne_self_eq_false,cond_false,Bool.not_false]
    exact ⟨trivial,trivial,trivial⟩
   refine ⟨out,hend.end,by omega,?_⟩
   rcases hs with ⟨h1,h2⟩ | h
   ·exact .inl ⟨h1.symm,h2⟩
   ·exact .inr h
  | succ m ih=>
   intro i x out hx him hl hs
   by_cases hxb:x=b
   ·subst hxb
    have hend:REnd (tree_Way_l0 l a x (x,out,())) (true,out,()):=by
     unfold tree_Way_l0 REnd
     simp only [bne_self_eq_false,cond_false,Bool.not_false]
     exact ⟨trivial,trivial,trivial⟩
    refine ⟨out,hend.end,by omega,?_⟩
    rcases hs with ⟨h1,h2⟩ | h
    ·exact .inl ⟨h1.symm,h2⟩
    ·exact .inr h
   ·have hi1:0<i:=by
     rcases Nat.eq_zero_or_pos i with h | h
     ·subst h
      rw [hB.hd] at hx
      injection hx with hx
      exact absurd hx.symm hxb
     ·exact h
    obtain ⟨j,y,k1,k2,k3,_⟩:=hB.par i x hi1 hx
    have hxr:=hB.rng x (List.mem_of_getElem? hx)
    have hgo:RGo (tree_Way_l0 l a b (x,out,())) (y,out++ [y],()):=by
     unfold tree_Way_l0 RGo
     have hul:=hB.len
     simp only [hu,bneI hxb,k3,decT (show x.toNat<up.length by omega),decT (show (0:Int)≤x by omega),cond_true,Bool.and_self,Bool.and_true,Bool.true_and,List.length_cons,List.length_nil]
     exact ⟨decT (by omega),trivial,trivial⟩
    obtain ⟨out',e,h1,h2⟩:=ih j y (out++ [y]) k2 (by omega) (by rw [List.length_append,List.length_singleton]; omega) (by
     rcases hs with ⟨h1,h2⟩ | ⟨h1,t,h2⟩
     ·subst h1
      exact .inr ⟨hxb,[],by rw [h2,k3]; rfl⟩
     ·exact .inr ⟨h1,t++ [y],by rw [h2]; rfl⟩)
    exact ⟨out',hgo.go.trans e,h1,h2⟩
 exact key i0 i0 a [a] hi0 (Nat.le_refl _) (by show 1+i0≤66; omega) (.inl ⟨rfl,rfl⟩)
theorem chk_max {l:List Ed} (h:chk l=0):l.length≤512:=(chk_zero h).2
open Classical in
theorem next_r (l:List Ed) (hk:chk l=0) (hf:NoneTo l l.length) (a b:Int) (ha:1≤a∧a≤64) (hb:1≤b∧b≤64):∃ V up:List Int,Bfs l b V.length V up∧
  tree_Next_r l a b=(true,if a∈V then (if a=b then b else (up[a.toNat]?).getD 0,(0:Int)) else ((0:Int),(9:Int))):=by
 have hall:=(chk_zero hk).1.1
 have hl:=chk_max hk
 obtain ⟨V,up,e,hB,hne⟩:=ups_r l hall (by omega) b hb.1 hb.2
 refine ⟨V,up,hB,?_⟩
 have hfr:=forest_r l (by omega)
 rw [decT (show chk l=0∧NoneTo l l.length from ⟨hk,hf⟩)] at hfr
 have na:=node_r a
 have nb:=node_r b
 rw [decT ha] at na
 rw [decT hb] at nb
 have hul:=hB.len
 unfold tree_Next_r tree_Way_r
 by_cases haV:a∈V
 ·obtain ⟨out,ew,hol,ho⟩:=way_loop l a b V up e hB haV
  have hz:((up[a.toNat]?).getD 0==0)=false:=beqI ((hB.mem a ha.1 ha.2).2 haV)
  have hol1:1≤out.length:=by
   rcases ho with ⟨_,h⟩ | ⟨_,t,h⟩<;>rw [h]<;>simp
  have hval:((out++ [b])[1]?).getD 0=if a=b then b else (up[a.toNat]?).getD 0:=by
   rcases ho with ⟨h1,h⟩ | ⟨h1,t,h⟩
   ·rw [h,if_pos h1]; rfl
   ·rw [h,if_neg h1]; rfl
  have hlen:(out++ [b]).length=out.length+1:=by rw [List.length_append,List.length_singleton]
  rw [if_pos haV]
  simp only [hfr,na,nb,e,hz,loopD_eq,ew,hval,hlen,show (Int.toNat 1)=1 from rfl,show ((0:Int) !=0)=false from rfl,decT (show (0:Int)≤a by omega),decT (show a.toNat<up.length by omega),decT (show (0:Int)≤1 by omega),decT (show 1<out.length+1 by omega),List.length_cons,List.length_nil,decT (show (out.length+(0+1))*8≤140737488355328 by omega),Bool.not_true,Bool.not_false,cond_true,cond_false,Bool.and_self,Bool.and_true,Bool.true_and]
 ·have hz:((up[a.toNat]?).getD 0==0)=true:=by
   have:(up[a.toNat]?).getD 0=0:=Classical.byContradiction fun h=>haV ((hB.mem a ha.1 ha.2).1 h)
   rw [this]; rfl
  rw [if_neg haV]
  simp only [hfr,na,nb,e,hz,loopD_eq,show ((9:Int) !=0)=true from rfl,decT (show (0:Int)≤a by omega),decT (show a.toNat<up.length by omega),Bool.not_true,Bool.not_false,cond_true,cond_false,Bool.and_self,Bool.and_true,Bool.true_and]
end Go.Proofs.Ytfeepbajipdfaaa.T
namespace Go.Proofs.Ytfeepbajipdfaaa.T
open Go.Vm Go.Tm
set_option linter.unusedVariables false
set_option linter.unusedSimpArgs false
def without (l:List Ed) (c:Ed):List Ed:=l.filter (fun y=>decide (y≠c))
theorem mem_without (l:List Ed) (c x:Ed):x∈without l c↔x∈l∧x≠c:=by unfold without; rw [List.mem_filter]; simp
theorem ed_beq (y x:Ed):((y.1==x.1) && ((y.2.1==x.2.1) && (y.2.2==x.2.2)))=decide (y=x):=by
 have:=beq_ed y x
 change (((y.1==x.1) && ((y.2.1==x.2.1) && (y.2.2==x.2.2)))=true↔y=x) at this
 by_cases hh:y=x
 ·rw [decT hh]; exact this.2 hh
 ·rw [decF hh]; exact Bool.eq_false_iff.2 fun kk=>hh (this.1 kk)
theorem without_r (l:List Ed) (c:Ed) (hbig:l.length≤1000000):withyref08_without_r l c=(true,without l c):=by
 have key:=loopR_by (d:=HL.dflt [.bool,(.fl (.row (.prod (.int .i64) (.prod (.int .i64) (.int .i64)))))]) (step:=withyref08_without_l0 l c) (fun s:Int × List Ed × Unit=>∃ i:Nat,s=((i:Int),without (l.take i) c,())∧i≤l.length) (fun s=>l.length - s.1.toNat)
  (fun r:Bool × List Ed × Unit=>r.2.1=without l c) ((0:Int),[],()) ⟨0,rfl,Nat.zero_le _⟩ (by
  rintro _ ⟨i,rfl,h1⟩
  unfold withyref08_without_l0
  by_cases hi:i<l.length
  ·have g1:(i:Int)<(l.length:Int):=by omega
   have hw:IntKind.i64.wrap ((i:Int)+1)=((i+1:Nat):Int):=by rw [wrap_i64 (by omega) (by omega)]; omega
   have hx:l[i]? =some l[i]:=List.getElem?_eq_getElem hi
   generalize l[i]=z at hx
   have tk:l.take (i+1)=l.take i++ [z]:=by rw [List.take_add_one,hx]; rfl
   have hfl:(without (l.take i) c).length≤l.length:=by
    have:=List.length_filter_le (fun y:Ed=>decide (y≠c)) (l.take i)
    rw [List.length_take] at this
    unfold without; omega
   by_cases hz:z=c
   ·have hwo:without (l.take (i+1)) c=without (l.take i) c:=by rw [tk]; unfold without; rw [List.filter_append]; simp [hz]
    simp only [Int.toNat_natCast,decT g1,hw,hx,Option.getD_some,ed_beq,decT hz,decT hi,decT (show (0:Int)≤(i:Int) by omega),cond_true,cond_false,Bool.and_self,Bool.and_true,Bool.true_and,Bool.not_true]
    exact ⟨trivial,fun _=>⟨⟨i+1,by rw [hwo],by omega⟩,by
     show l.length - (((i+1:Nat):Int)).toNat<l.length - ((i:Int)).toNat
     omega⟩,fun h=>by cases h⟩
   ·have hwo:without (l.take (i+1)) c=without (l.take i) c++ [z]:=by rw [tk]; unfold without; rw [List.filter_append]; simp [hz]
    simp only [Int.toNat_natCast,decT g1,hw,hx,Option.getD_some,ed_beq,decF hz,decT hi,decT (show (0:Int)≤(i:Int) by omega),cond_true,cond_false,Bool.and_self,Bool.and_true,Bool.true_and,Bool.not_false,List.length_cons,List.length_nil]
    exact ⟨decT (by omega),fun _=>⟨⟨i+1,by rw [hwo],by omega⟩,by
     show l.length - (((i+1:Nat):Int)).toNat<l.length - ((i:Int)).toNat
     omega⟩,fun h=>by cases h⟩
  ·have g1:¬ (i:Int)<(l.length:Int):=by omega
   have hil:i=l.length:=by omega
   subst hil
   simp only [decF g1,cond_false,Bool.not_false]
   exact ⟨trivial,fun h=>(by cases h),fun _=>by rw [List.take_length]⟩)
 unfold withyref08_without_r
 simp only [loopD_eq]
 exact Prod.ext key.1 key.2
open Classical in
noncomputable def onB (l:List Ed) (a b:Int) (e:Ed):Bool:=decide (¬ Conn (without l e) a b)
open Classical in
theorem on_r (l:List Ed) (hall:∀ e∈l,May e) (hbig:l.length≤1000000) (a b:Int) (ha:1≤a∧a≤64) (hb:1≤b∧b≤64):withyref08_On_r l a b=(true,l.filter (onB l a b)):=by
 have key:=loopR_by (d:=HL.dflt [.bool,(.fl (.row (.prod (.int .i64) (.prod (.int .i64) (.int .i64)))))]) (step:=withyref08_On_l0 l a b) (fun s:Int × List Ed × Unit=>∃ i:Nat,s=((i:Int),(l.take i).filter (onB l a b),())∧i≤l.length) (fun s=>l.length - s.1.toNat)
  (fun r:Bool × List Ed × Unit=>r.2.1=l.filter (onB l a b)) ((0:Int),[],()) ⟨0,rfl,Nat.zero_le _⟩ (by
  rintro _ ⟨i,rfl,h1⟩
  unfold withyref08_On_l0
  by_cases hi:i<l.length
  ·have g1:(i:Int)<(l.length:Int):=by omega
   have hw:IntKind.i64.wrap ((i:Int)+1)=((i+1:Nat):Int):=by rw [wrap_i64 (by omega) (by omega)]; omega
   have hx:l[i]? =some l[i]:=List.getElem?_eq_getElem hi
   generalize l[i]=z at hx
   have tk:l.take (i+1)=l.take i++ [z]:=by rw [List.take_add_one,hx]; rfl
   have hfl:((l.take i).filter (onB l a b)).length≤l.length:=by
    have:=List.length_filter_le (onB l a b) (l.take i)
    rw [List.length_take] at this
    omega
   have hwl:(without l z).length≤l.length:=List.length_filter_le _ _
   have e1:=without_r l z hbig
   have e2:=refLinked_r (without l z) (fun e he=>hall e ((mem_without l z e).1 he).1) (by omega) a b ha hb
   have hz:onB l a b z= !decide (Conn (without l z) a b):=by unfold onB; by_cases h:Conn (without l z) a b<;>simp [h]
   cases hc:onB l a b z with
   | true=>
    have hd:decide (Conn (without l z) a b)=false:=by rw [hc] at hz; cases h:decide (Conn (without l z) a b)<;>rw [h] at hz<;>first | rfl | cases hz
    simp only [Int.toNat_natCast,decT g1,hw,hx,Option.getD_some,e1,e2,hd,decT hi,decT (show (0:Int)≤(i:Int) by omega),cond_true,cond_false,Bool.and_self,Bool.and_true,Bool.true_and,Bool.not_false,List.length_cons,List.length_nil]
    exact ⟨decT (by omega),fun _=>⟨⟨i+1,by rw [tk,List.filter_append]; simp [hc],by omega⟩,by
     show l.length - (((i+1:Nat):Int)).toNat<l.length - ((i:Int)).toNat
     omega⟩,fun h=>by cases h⟩
   | false=>
    have hd:decide (Conn (without l z) a b)=true:=by rw [hc] at hz; cases h:decide (Conn (without l z) a b)<;>rw [h] at hz<;>first | rfl | cases hz
    simp only [Int.toNat_natCast,decT g1,hw,hx,Option.getD_some,e1,e2,hd,decT hi,decT (show (0:Int)≤(i:Int) by omega),cond_true,cond_false,Bool.and_self,Bool.and_true,Bool.true_and,Bool.not_true]
    exact ⟨trivial,fun _=>⟨⟨i+1,by rw [tk,List.filter_append]; simp [hc],by omega⟩,by
     show l.length - (((i+1:Nat):Int)).toNat<l.length - ((i:Int)).toNat
     omega⟩,fun h=>by cases h⟩
  ·have g1:¬ (i:Int)<(l.length:Int):=by omega
   have hil:i=l.length:=by omega
   subst hil
   simp only [decF g1,cond_false,Bool.not_false]
   exact ⟨trivial,fun h=>(by cases h),fun _=>by rw [List.take_length]⟩)
 unfold withyref08_On_r
 simp only [loopD_eq]
 exact Prod.ext key.1 key.2
def touch (e:Ed) (n:Int):Int:=if e.2.1=n then e.1 else if e.1=n then e.2.1 else 0
theorem way_l1 (l:List Ed) (a b:Int) (O:List Ed) (hO:withyref08_On_r l a b=(true,O)) (hOl:O.length≤1000000) (n:Int) (out:List Int) (last:Int) (h1:1≤out.length) (h2:out.length≤100) (hlast:out[out.length - 1]? =some last):
  ∃ out':List Int,loopR (HL.dflt [.bool,(.fl (.int .i64))]) (withyref08_Way_l1 l a b (n,out,())) ((0:Int),out,())=(true,(true,out',()))∧
   ((∃ e∈O,touch e last>0∧out'=out++ [touch e last])∨((out.length<2→∀ e∈O,¬ touch e last>0)∧out'=out)):=by
 have hw1:IntKind.i64.wrap ((out.length:Int) - 1)=((out.length - 1:Nat):Int):=by rw [wrap_i64 (by omega) (by omega)]; omega
 have key:=loopR_by (d:=HL.dflt [.bool,(.fl (.int .i64))]) (step:=withyref08_Way_l1 l a b (n,out,())) (fun s:Int × List Int × Unit=>∃ i:Nat,s=((i:Int),out,())∧i≤O.length∧(out.length<2→∀ e∈O.take i,¬ touch e last>0)) (fun s=>O.length - s.1.toNat)
  (fun r:Bool × List Int × Unit=>∃ out',r=(true,out',())∧((∃ e∈O,touch e last>0∧out'=out++ [touch e last])∨((out.length<2→∀ e∈O,¬ touch e last>0)∧out'=out))) ((0:Int),out,()) ⟨0,rfl,Nat.zero_le _,fun _ e he=>by simp at he⟩ (by
  rintro _ ⟨i,rfl,k1,k2⟩
  unfold withyref08_Way_l1
  by_cases hi:i<O.length
  ·have g1:(i:Int)<(O.length:Int):=by omega
   have hw:IntKind.i64.wrap ((i:Int)+1)=((i+1:Nat):Int):=by rw [wrap_i64 (by omega) (by omega)]; omega
   have hx:O[i]? =some O[i]:=List.getElem?_eq_getElem hi
   have hm:O[i]∈O:=List.getElem_mem hi
   generalize O[i]=e at hx hm
   have tk:O.take (i+1)=O.take i++ [e]:=by rw [List.take_add_one,hx]; rfl
   have ht:cond (e.2.1==last) e.1 (cond (e.1==last) e.2.1 (0:Int))=touch e last:=by
    unfold touch
    by_cases q1:e.2.1=last
    ·rw [if_pos q1,beq_iff_eq.2 q1]; rfl
    ·rw [if_neg q1,beqI q1]
     by_cases q2:e.1=last
     ·rw [if_pos q2,beq_iff_eq.2 q2]; rfl
     ·rw [if_neg q2,beqI q2]; rfl
   have hT:∀ z:Bool,cond z true true=true:=fun z=>by cases z<;>rfl
   have hnext:¬ touch e last>0∨¬ out.length<2→(∃ i':Nat,((((i+1:Nat):Int),out,()):Int × List Int × Unit)=((i':Int),out,())∧i'≤O.length∧(out.length<2→∀ e∈O.take i',¬ touch e last>0)):=fun hno=>⟨i+1,rfl,by omega,fun hl e' he'=>by
    rw [tk] at he'
    rcases List.mem_append.1 he' with h | h
    ·exact k2 hl e' h
    ·rw [List.mem_singleton.1 h]
     exact hno.elim id (fun h=>absurd hl h)⟩
   by_cases q:touch e last>0
   ·by_cases ql:out.length<2
    ·have ql':(out.length:Int)<2:=by omega
     simp only [hO,hw1,Int.toNat_natCast,hlast,Option.getD_some,decT g1,hw,hx,ht,decT q,decT ql',decT hi,decT (show (0:Int)≤(i:Int) by omega),hT,cond_true,cond_false,Bool.and_self,Bool.and_true,Bool.true_and,Bool.not_true,Bool.and_false,Bool.cond_self,List.length_cons,List.length_nil]
     exact ⟨decT (by omega),fun h=>(by cases h),fun _=>⟨_,rfl,.inl ⟨e,hm,q,rfl⟩⟩⟩
    ·have ql':¬ (out.length:Int)<2:=by omega
     have hw2:IntKind.i64.wrap ((out.length:Int) - 2)=((out.length - 2:Nat):Int):=by rw [wrap_i64 (by omega) (by omega)]; omega
     cases hne:(touch e last !=(out[out.length - 2]?).getD (0:Int)) with
     | true=>
      simp only [hO,hw1,hw2,Int.toNat_natCast,hlast,Option.getD_some,decT g1,hw,hx,ht,decT q,decF ql',hne,decT hi,decT (show (0:Int)≤(i:Int) by omega),decT (show (0:Int)≤((out.length - 2:Nat):Int) by omega),decT (show out.length - 2<out.length by omega),hT,cond_true,cond_false,Bool.and_self,Bool.and_true,Bool.true_and,Bool.not_true,Bool.not_false,Bool.and_false,Bool.cond_self,List.length_cons,List.length_nil]
      exact ⟨decT (by omega),fun h=>(by cases h),fun _=>⟨_,rfl,.inl ⟨e,hm,q,rfl⟩⟩⟩
     | false=>
      simp only [hO,hw1,hw2,Int.toNat_natCast,hlast,Option.getD_some,decT g1,hw,hx,ht,decT q,decF ql',hne,decT hi,decT (show (0:Int)≤(i:Int) by omega),decT (show (0:Int)≤((out.length - 2:Nat):Int) by omega),decT (show out.length - 2<out.length by omega),hT,cond_true,cond_false,Bool.and_self,Bool.and_true,Bool.true_and,Bool.not_true,Bool.not_false,Bool.and_false,Bool.cond_self,List.length_cons,List.length_nil]
      exact ⟨trivial,fun _=>⟨hnext (.inr ql),by
       show O.length - (((i+1:Nat):Int)).toNat<O.length - ((i:Int)).toNat
       omega⟩,fun h=>by cases h⟩
   ·simp only [hO,hw1,Int.toNat_natCast,hlast,Option.getD_some,decT g1,hw,hx,ht,decF q,decT hi,decT (show (0:Int)≤(i:Int) by omega),hT,cond_true,cond_false,Bool.and_self,Bool.and_true,Bool.true_and,Bool.not_true,Bool.not_false,Bool.and_false,Bool.false_and,Bool.cond_self,List.length_cons,List.length_nil]
    exact ⟨trivial,fun _=>⟨hnext (.inl q),by
     show O.length - (((i+1:Nat):Int)).toNat<O.length - ((i:Int)).toNat
     omega⟩,fun h=>by cases h⟩
  ·have g1:¬ (i:Int)<(O.length:Int):=by omega
   have hil:i=O.length:=by omega
   subst hil
   rw [List.take_length] at k2
   simp only [hO,decF g1,cond_false,Bool.false_and,Bool.not_false]
   exact ⟨trivial,fun h=>(by cases h),fun _=>⟨out,rfl,.inr ⟨k2,rfl⟩⟩⟩)
 obtain ⟨k1,out',k2,k3⟩:=key
 exact ⟨out',Prod.ext k1 k2,k3⟩
theorem refWay_r (l:List Ed) (a b p:Int) (O:List Ed) (hO:withyref08_On_r l a b=(true,O)) (hOl:O.length≤1000000) (hab:a≠b) (hex:∃ e∈O,touch e a>0) (hto:∀ e∈O,touch e a>0→touch e a=p):∃ t:List Int,withyref08_Way_r l a b=(true,a::p::t):=by
 have key:=loopR_by (d:=HL.dflt [.bool,(.fl (.int .i64))]) (step:=withyref08_Way_l0 l a b) (fun s:Int × List Int × Unit=>∃ (n:Nat) (out:List Int),s=((n:Int),out,())∧n≤64∧out.length≤n+1∧((n=0∧out= [a])∨∃ t,out=a::p::t)) (fun s=>64 - s.1.toNat)
  (fun r:Bool × List Int × Unit=>∃ t,r=(true,a::p::t,())) ((0:Int),[a],()) ⟨0,[a],rfl,Nat.zero_le _,Nat.le_refl _,.inl ⟨rfl,rfl⟩⟩ (by
  rintro _ ⟨n,out,rfl,h1,h2,h3⟩
  unfold withyref08_Way_l0
  have hl1:1≤out.length:=by
   rcases h3 with ⟨_,h⟩ | ⟨t,h⟩<;>rw [h]<;>simp
  have hw1:IntKind.i64.wrap ((out.length:Int) - 1)=((out.length - 1:Nat):Int):=by rw [wrap_i64 (by omega) (by omega)]; omega
  have hlx:out[out.length - 1]? =some (out[out.length - 1]'(by omega)):=List.getElem?_eq_getElem (by omega)
  generalize out[out.length - 1]'(by omega)=last at hlx
  by_cases hn:n<64
  ·have g1:(n:Int)<64:=by omega
   have hw:IntKind.i64.wrap ((n:Int)+1)=((n+1:Nat):Int):=by rw [wrap_i64 (by omega) (by omega)]; omega
   by_cases hlb:last=b
   ·have hne:(last !=b)=false:=by rw [hlb]; simp
    simp only [hw1,Int.toNat_natCast,hlx,Option.getD_some,decT g1,hne,decT (show (0:Int)≤((out.length - 1:Nat):Int) by omega),decT (show out.length - 1<out.length by omega),cond_true,cond_false,Bool.and_self,Bool.and_true,Bool.true_and,Bool.not_false]
    refine ⟨trivial,fun h=>(by cases h),fun _=> ?_⟩
    rcases h3 with ⟨_,h⟩ | ⟨t,h⟩
    ·rw [h] at hlx
     injection hlx with hlx
     exact absurd (hlx.trans hlb) hab
    ·exact ⟨t,by rw [h]⟩
   ·obtain ⟨out',e,ho⟩:=way_l1 l a b O hO hOl (n:Int) out last hl1 (by omega) hlx
    simp only [hw1,hw,Int.toNat_natCast,hlx,Option.getD_some,loopD_eq,e,decT g1,bneI hlb,decT (show (0:Int)≤((out.length - 1:Nat):Int) by omega),decT (show out.length - 1<out.length by omega),cond_true,cond_false,Bool.and_self,Bool.and_true,Bool.true_and,Bool.not_true]
    refine ⟨trivial,fun _=>⟨⟨n+1,out',rfl,by omega,?_,.inr ?_⟩,?_⟩,fun h=>by cases h⟩
    ·rcases ho with ⟨e,_,_,h⟩ | ⟨_,h⟩
     ·rw [h,List.length_append,List.length_singleton]; omega
     ·rw [h]; omega
    ·rcases h3 with ⟨hn0,h⟩ | ⟨t,h⟩
     ·have hla:last=a:=by
       rw [h] at hlx
       injection hlx with hlx
       exact hlx.symm
      subst hla
      rcases ho with ⟨e,he,hp,h'⟩ | ⟨hno,h'⟩
      ·exact ⟨[],by rw [h',h,hto e he hp]; rfl⟩
      ·obtain ⟨e,he,hp⟩:=hex
       exact absurd hp (hno (by rw [h]; simp) e he)
     ·rcases ho with ⟨e,_,_,h'⟩ | ⟨_,h'⟩
      ·exact ⟨t++ [touch e last],by rw [h',h]; rfl⟩
      ·exact ⟨t,by rw [h',h]⟩
    ·show 64 - (((n+1:Nat):Int)).toNat<64 - ((n:Int)).toNat
     omega
  ·have g1:¬ (n:Int)<64:=by omega
   simp only [decF g1,cond_false,Bool.and_self,Bool.and_true,Bool.true_and,Bool.not_false]
   refine ⟨trivial,fun h=>(by cases h),fun _=> ?_⟩
   rcases h3 with ⟨h,_⟩ | ⟨t,h⟩
   ·omega
   ·exact ⟨t,by rw [h]⟩)
 obtain ⟨k1,t,k2⟩:=key
 refine ⟨t,?_⟩
 unfold withyref08_Way_r
 simp only [hO,loopD_eq,Bool.true_and]
 exact Prod.ext k1 (by show _=_; rw [show (loopR (HL.dflt [.bool,(.fl (.int .i64))]) (withyref08_Way_l0 l a b) ((0:Int),[a],())).2=(true,a::p::t,()) from k2])
end Go.Proofs.Ytfeepbajipdfaaa.T
namespace Go.Proofs.Ytfeepbajipdfaaa.T
open Go.Vm Go.Tm
set_option linter.unusedVariables false
set_option linter.unusedSimpArgs false
open Classical in
theorem onB_iff (l:List Ed) (a b:Int) (e:Ed):onB l a b e=true↔¬ Conn (without l e) a b:=by
 unfold onB
 exact decide_eq_true_iff
theorem acyc_of {l:List Ed} (h:NoneTo l l.length):Acyc l:=fun k e hk=>h k e (List.getElem?_eq_some_iff.1 hk).1 hk
theorem other_swap {e:Ed} {a p:Int} (hne:p≠a) (h:other e p=a) (ha:a>0):other e a=p:=by
 rcases other_pos (by rw [h]; exact ha) with ⟨h1,h2⟩ | ⟨h1,h2⟩
 ·rw [h] at h2
  unfold other
  rw [if_neg (by rw [h1]; exact hne),if_pos h2,h1]
 ·rw [h] at h2
  unfold other
  rw [if_pos h2,h1]
theorem other_end {e:Ed} {a y z:Int} (h1:other e a>0) (h2:other e y=z) (h3:z>0):a=y∨a=z:=by
 rcases other_pos h1 with ⟨k1,_⟩ | ⟨k1,_⟩
 ·rcases other_pos (by rw [h2]; exact h3) with ⟨m1,m2⟩ | ⟨m1,m2⟩
  ·exact .inl (k1.symm.trans m1)
  ·exact .inr ((k1.symm.trans m2).trans h2)
 ·rcases other_pos (by rw [h2]; exact h3) with ⟨m1,m2⟩ | ⟨m1,m2⟩
  ·exact .inr ((k1.symm.trans m2).trans h2)
  ·exact .inl (k1.symm.trans m1)
theorem nodup_at {V:List Int} (h:V.Nodup) {i j:Nat} {x:Int} (hi:V[i]? =some x) (hj:V[j]? =some x):i=j:=by
 obtain ⟨hil,hix⟩:=List.getElem?_eq_some_iff.1 hi
 obtain ⟨hjl,hjx⟩:=List.getElem?_eq_some_iff.1 hj
 rcases Nat.lt_trichotomy i j with hlt | heq | hgt
 ·exact absurd (hix.trans hjx.symm) (List.pairwise_iff_getElem.1 h i j hil hjl hlt)
 ·exact heq
 ·exact absurd (hjx.trans hix.symm) (List.pairwise_iff_getElem.1 h j i hjl hil hgt)
theorem forest_on {l:List Ed} (hall:∀ e∈l,May e) (hf:NoneTo l l.length) {a b:Int} {V up:List Int} (hB:Bfs l b V.length V up) (ha:a∈V) (hab:a≠b):
  (∃ e∈l.filter (onB l a b),other e a>0)∧∀ e∈l.filter (onB l a b),other e a>0→other e a=(up[a.toNat]?).getD 0:=by
 obtain ⟨i,hi⟩:=List.mem_iff_getElem?.1 ha
 have hi0:0<i:=by
  rcases Nat.eq_zero_or_pos i with h | h
  ·subst h
   rw [hB.hd] at hi
   injection hi with hi
   exact absurd hi.symm hab
  ·exact h
 obtain ⟨j,p,k1,k2,k3,e0,he0,ho⟩:=hB.par i a hi0 hi
 have har:=hB.rng a ha
 have hpr:=hB.rng p (List.mem_of_getElem? k2)
 have hpa:p≠a:=fun h=>by
  subst h
  have:=nodup_at hB.nd hi k2
  omega
 have ho2:=other_swap hpa ho (by omega)
 have hreach:∀ e',other e' a>0→Conn (without l e') b p:=fun e' he'=>by
  refine hB.reach (fun e=>e≠e') j p k2 (fun e he j' k y z q1 q2 q3 q4 q5 hee=> ?_)
  have hzr:=hB.rng z (List.mem_of_getElem? q4)
  subst hee
  rcases other_end he' q5 (by omega) with h | h
  ·subst h
   have:=nodup_at hB.nd hi q3
   omega
  ·subst h
   have:=nodup_at hB.nd hi q4
   omega
 have hcon:∀ m:List Ed,e0∈m→Conn m a p:=fun m hm=>by
  have:=other_conn hm (n:=a) (by rw [ho2]; omega)
  rw [ho2] at this
  exact this
 have hon0:onB l a b e0=true:=by
  refine (onB_iff _ _ _ _).2 fun hc=> ?_
  have h1:Conn (without l e0) a p:=hc.trans (hreach e0 (by rw [ho2]; omega))
  obtain ⟨l1,l2,hl⟩:=List.append_of_mem he0
  refine (acyc_of hf).apart hl ?_
  have h2:Conn (l1++l2) a p:=h1.mono fun z hz=>by
   obtain ⟨z1,z2⟩:=(mem_without l e0 z).1 hz
   rw [hl] at z1
   rcases List.mem_append.1 z1 with h | h
   ·exact List.mem_append_left _ h
   ·cases h with
    | head=>exact absurd rfl z2
    | tail _ h=>exact List.mem_append_right _ h
  rcases other_pos (show other e0 p>0 by rw [ho]; omega) with ⟨m1,m2⟩ | ⟨m1,m2⟩
  ·rw [ho] at m2
   rw [m1,m2]
   exact h2.symm
  ·rw [ho] at m2
   rw [m1,m2]
   exact h2
 refine ⟨⟨e0,List.mem_filter.2 ⟨he0,hon0⟩,by rw [ho2]; omega⟩,fun e he hp=> ?_⟩
 obtain ⟨h1,h2⟩:=List.mem_filter.1 he
 by_cases hee:e=e0
 ·rw [hee,ho2,k3]
 ·exfalso
  rw [onB_iff] at h2
  exact h2 ((hcon _ ((mem_without l e e0).2 ⟨he0,fun h=>hee h.symm⟩)).trans (hreach e hp).symm)
theorem touch_other {e:Ed} (he:May e) (n:Int):touch e n=other e n:=by
 unfold touch other May at*
 by_cases h1:e.1=n
 ·rw [if_pos h1,if_neg (by omega),if_pos h1]
 ·rw [if_neg h1,if_neg h1]
theorem pairwise_flat {α β:Type} (R:β→β→Prop) (f:α→List β):∀ l:List α,(∀ a∈l,(f a).Pairwise R)→l.Pairwise (fun a b=>∀ x∈f a,∀ y∈f b,R x y)→(l.flatMap f).Pairwise R
 | [],_,_=>List.Pairwise.nil
 | a::l,h1,h2=>by
  rw [List.flatMap_cons]
  rw [List.pairwise_cons] at h2
  refine List.pairwise_append.2 ⟨h1 a (.head _),pairwise_flat R f l (fun b hb=>h1 b (.tail _ hb)) h2.2,fun x hx y hy=> ?_⟩
  obtain ⟨b,hb,hyb⟩:=List.mem_flatMap.1 hy
  exact h2.1 b hb x hx y hyb
theorem bound_may (v:V.Vw) (hm:V.mayP v) (h2:v.2.length≤200):chk (V.bound (V.inner v.2))=0:=by
 have hs:=V.sorted_of v hm.2
 have hin:∀ k∈V.inner v.2,∃ a∈v.2,k.1=a.1∧k.2.1=a.2.1∧k.2.2.1=a.2.2.1∧a.1<a.2.1:=fun k hk=>by
  unfold V.inner at hk
  obtain ⟨a,ha,hk⟩:=List.mem_flatMap.1 hk
  unfold V.pairs at hk
  obtain ⟨b,hb,hk⟩:=List.mem_flatMap.1 hk
  split at hk
  ·rename_i hmate
   rw [List.mem_singleton] at hk
   subst hk
   unfold V.mate at hmate
   rw [Bool.and_eq_true] at hmate
   exact ⟨a,ha,rfl,rfl,rfl,of_decide_eq_true hmate.1⟩
  ·cases hk
 have hpl:∀ a∈v.2,V.plainOk v.1 a:=fun a ha=>by
  obtain ⟨i,hi,rfl⟩:=List.getElem_of_mem ha
  have:=(hm.2 i hi).1
  rw [V.getD_at V.kd hi] at this
  exact this
 have hnode:∀ n∈v.1,V.nodeB n=true:=fun n hn=>by
  obtain ⟨i,hi,rfl⟩:=List.getElem_of_mem hn
  have:=(hm.1 i hi).1
  rw [V.getD_at 0 hi] at this
  exact this
 have hed:∀ k∈V.inner v.2,May (V.edgeK k)∧V.edgeK k=(k.1,k.2.1,k.2.2.1):=fun k hk=>by
  obtain ⟨a,ha,e1,e2,e3,hlt⟩:=hin k hk
  obtain ⟨p1,p2,p3,p4,p5,p6,p7⟩:=hpl a ha
  have n1:=hnode _ p1
  unfold V.nodeB at n1 p2
  rw [decide_eq_true_eq] at n1 p2
  have he:V.edgeK k=(k.1,k.2.1,k.2.2.1):=by
   unfold V.edgeK
   rw [if_neg (by omega),if_pos (by omega)]
  refine ⟨?_,he⟩
  rw [he]
  unfold May
  simp only
  omega
 have hap:(V.inner v.2).Pairwise (fun x y=>¬ (x.1=y.1∧x.2.1=y.2.1)):=by
  unfold V.inner
  have hkey:∀ a k,k∈V.pairs v.2 a→k.1=a.1∧k.2.1=a.2.1:=fun a k hk=>by
   unfold V.pairs at hk
   obtain ⟨b,hb,hk⟩:=List.mem_flatMap.1 hk
   split at hk
   ·rw [List.mem_singleton] at hk
    subst hk
    exact ⟨rfl,rfl⟩
   ·cases hk
  refine pairwise_flat _ _ _ (fun a ha=> ?_) ?_
  ·have:=V.pairs_len hs a
   match hh:V.pairs v.2 a with
   | []=>exact List.Pairwise.nil
   | [x]=>exact List.pairwise_singleton _ _
   | x::y::z=>rw [hh] at this; simp at this
  ·rw [List.pairwise_iff_getElem]
   intro i j hi hj hij x hx y hy hxy
   obtain ⟨x1,x2⟩:=hkey _ x hx
   obtain ⟨y1,y2⟩:=hkey _ y hy
   have:=V.sorted_key hs hi hj (by rw [← x1,← y1]; exact hxy.1) (by rw [← x2,← y2]; exact hxy.2)
   omega
 have hmem:∀ e∈V.bound (V.inner v.2),∃ k∈V.inner v.2,e=V.edgeK k:=fun e he=>by
  unfold V.bound at he
  obtain ⟨k,hk,he⟩:=List.mem_flatMap.1 he
  split at he
  ·exact ⟨k,hk,List.mem_singleton.1 he⟩
  ·cases he
 have hlen:(V.bound (V.inner v.2)).length≤512:=by
  have h1:=flatMap_length_le (fun k:V.K=>if k.2.2.2.2 then [V.edgeK k] else []) 1 (V.inner v.2) (fun k hk=>by split<;>simp)
  have h3:=V.inner_len hs
  unfold V.bound
  omega
 have hA:AllMay (V.bound (V.inner v.2)):=by
  refine ⟨fun e he=> ?_,?_⟩
  ·obtain ⟨k,hk,rfl⟩:=hmem e he
   exact (hed k hk).1
  ·unfold V.bound
   refine pairwise_flat _ _ _ (fun a ha=>by split; exact List.pairwise_singleton _ _; exact List.Pairwise.nil) ?_
   refine (List.Pairwise.and_mem.1 hap).imp fun {a b} hab x hx y hy=> ?_
   obtain ⟨ha,hb,hab⟩:=hab
   split at hx
   ·split at hy
    ·rw [List.mem_singleton] at hx hy
     subst hx; subst hy
     unfold Apart
     rw [(hed a ha).2,(hed b hb).2]
     exact hab
    ·cases hy
   ·cases hx
 unfold chk
 rw [if_pos hA,if_neg (by omega)]
end Go.Proofs.Ytfeepbajipdfaaa.T
namespace Go.Proofs.Ytfeepbajipdfaaa.T
open Go.Vm Go.Tm
set_option linter.unusedVariables false
set_option linter.unusedSimpArgs false
theorem check_loop (v:V.Vw) (f:Int) (h1:v.1.length≤70):∃ x:Bool,loopR (HL.dflt [.bool,.int .i64,.bool]) (withyref11_Check_l0 v f) ((0:Int),())=(true,(x,(0:Int),decide (f ∉ v.1),())):=by
 rcases loop_find (d:=HL.dflt [.bool,.int .i64,.bool]) (step:=withyref11_Check_l0 v f) v.1.length (fun i=>(v.1[i]?).getD 0=f) (fun i=>(true,(0:Int),false,())) (false,(0:Int),true,()) (fun i hi=>by
   have g1:(i:Int)<(v.1.length:Int):=by omega
   have hw:IntKind.i64.wrap ((i:Int)+1)=((i+1:Nat):Int):=by rw [wrap_i64 (by omega) (by omega)]; omega
   unfold withyref11_Check_l0 RGo REnd
   constructor
   ·intro h
    simp only [Int.toNat_natCast,decT g1,hw,h,beq_self_eq_true,decT hi,decT (show (0:Int)≤(i:Int) by omega),cond_true,Bool.and_self,Bool.and_true,Bool.not_true,Bool.and_false]
    exact ⟨trivial,trivial,trivial⟩
   ·intro h
    simp only [Int.toNat_natCast,decT g1,hw,beqI h,decT hi,decT (show (0:Int)≤(i:Int) by omega),cond_true,Bool.and_self,Bool.and_true,Bool.not_false,Bool.and_false]
    exact ⟨trivial,trivial,trivial⟩) (by
   have g1:¬ (v.1.length:Int)<(v.1.length:Int):=by omega
   unfold withyref11_Check_l0 REnd
   simp only [decF g1,cond_false,Bool.false_and,Bool.not_false]
   exact ⟨trivial,trivial,trivial⟩) with ⟨i,hi,q1,q2,q3⟩ | ⟨q1,q3⟩
 ·have hm:f∈v.1:=by rw [V.getD_at 0 hi] at q1; rw [← q1]; exact List.getElem_mem hi
  exact ⟨true,by rw [q3,decF (fun h=>h hm)]⟩
 ·have hm:f ∉ v.1:=fun hx=>by
   obtain ⟨i,hi,he⟩:=List.getElem_of_mem hx
   exact q1 i hi (by rw [V.getD_at 0 hi]; exact he)
  exact ⟨false,by rw [q3,decT hm]⟩
open Classical in
theorem bound2 (v:V.Vw) (h1:v.1.length≤70) (h2:v.2.length≤200) (f:Int):∃ e:Int,route_bound_r v f=(true,(e,if e=0 then V.bound (V.inner v.2) else []))∧withyref11_Check_r v f=(true,e)∧
  (e=0→V.mayP v∧(1≤f∧f≤64)∧NoneTo (V.bound (V.inner v.2)) (V.bound (V.inner v.2)).length∧chk (V.bound (V.inner v.2))=0):=by
 have eb:=V.bound_r v h1 h2
 have em:=V.May_r v h1 h2
 have en:=node_r f
 have er:=refNode_r f
 have ebr:=V.refBound_r v h2
 have ec:=V.contains_r v.1 f (by omega)
 obtain ⟨x,ex⟩:=check_loop v f h1
 unfold route_bound_r withyref11_Check_r
 by_cases hm:V.mayP v
 ·rw [if_pos hm,if_pos hm] at eb
  rw [decT hm] at em
  have hk:=bound_may v hm h2
  generalize hL:V.bound (V.inner v.2)=L at*
  have hall:=(chk_zero hk).1.1
  have hl512:=chk_max hk
  have ef:=forest_r L (by omega)
  have efr:=refForest_r L hall (by omega)
  by_cases hn:1≤f∧f≤64
  ·rw [decT hn] at en er
   by_cases hf:NoneTo L L.length
   ·rw [decT (show chk L=0∧NoneTo L L.length from ⟨hk,hf⟩)] at ef
    rw [decT hf] at efr
    by_cases hc:f∈v.1
    ·rw [decT hc] at ec
     rw [decF (fun h=>h hc)] at ex
     refine ⟨0,?_,?_,fun _=>⟨hm,hn,hf,hk⟩⟩
     ·simp only [eb,en,ef,ec,show ((0:Int) !=0)=false from rfl,if_pos,Bool.not_true,Bool.not_false,cond_true,cond_false,Bool.and_self,Bool.and_true,Bool.true_and]
     ·simp only [em,er,ebr,efr,loopD_eq,ex,Bool.not_true,Bool.not_false,cond_true,cond_false,Bool.and_self,Bool.and_true,Bool.true_and]
    ·rw [decF hc] at ec
     rw [decT hc] at ex
     refine ⟨4,?_,?_,fun h=>absurd h (by omega)⟩
     ·simp only [eb,en,ef,ec,show ((0:Int) !=0)=false from rfl,if_neg (show ¬ (4:Int)=0 by omega),Bool.not_true,Bool.not_false,cond_true,cond_false,Bool.and_self,Bool.and_true,Bool.true_and,Bool.false_and,Bool.and_false]
     ·simp only [em,er,ebr,efr,loopD_eq,ex,Bool.not_true,Bool.not_false,cond_true,cond_false,Bool.and_self,Bool.and_true,Bool.true_and]
   ·rw [decF (fun h:chk L=0∧NoneTo L L.length=>hf h.2)] at ef
    rw [decF hf] at efr
    refine ⟨11,?_,?_,fun h=>absurd h (by omega)⟩
    ·simp only [eb,en,ef,show ((0:Int) !=0)=false from rfl,if_neg (show ¬ (11:Int)=0 by omega),Bool.not_true,Bool.not_false,cond_true,cond_false,Bool.and_self,Bool.and_true,Bool.true_and,Bool.false_and,Bool.and_false]
    ·simp only [em,er,ebr,efr,Bool.not_true,Bool.not_false,cond_true,cond_false,Bool.and_self,Bool.and_true,Bool.true_and]
  ·rw [decF hn] at en er
   refine ⟨1,?_,?_,fun h=>absurd h (by omega)⟩
   ·simp only [eb,en,show ((0:Int) !=0)=false from rfl,if_neg (show ¬ (1:Int)=0 by omega),Bool.not_true,Bool.not_false,cond_true,cond_false,Bool.and_self,Bool.and_true,Bool.true_and,Bool.false_and,Bool.and_false]
   ·simp only [em,er,Bool.not_true,Bool.not_false,cond_true,cond_false,Bool.and_self,Bool.and_true,Bool.true_and]
 ·rw [if_neg hm,if_neg hm] at eb
  rw [decF hm] at em
  refine ⟨1,?_,?_,fun h=>absurd h (by omega)⟩
  ·simp only [eb,show ((1:Int) !=0)=true from rfl,if_neg (show ¬ (1:Int)=0 by omega),Bool.not_true,Bool.not_false,cond_true,cond_false,Bool.and_self,Bool.and_true,Bool.true_and,Bool.false_and,Bool.and_false]
  ·simp only [em,Bool.not_true,Bool.not_false,cond_true,cond_false,Bool.and_self,Bool.and_true,Bool.true_and]
open Classical in
theorem hop_r (v:V.Vw) (h1:v.1.length≤70) (h2:v.2.length≤200) (a b:Int):∃ x y:Int,route_Hop_r v a b=(true,(x,y))∧withyref11_Hop_r v a b=(true,(x,y)):=by
 obtain ⟨e,e1,e2,e3⟩:=bound2 v h1 h2 a
 have en:=node_r b
 have er:=refNode_r b
 unfold route_Hop_r withyref11_Hop_r
 by_cases hb:1≤b∧b≤64
 ·rw [decT hb] at en er
  by_cases he:e=0
  ·obtain ⟨hm,ha,hf,hk⟩:=e3 he
   subst he
   rw [if_pos rfl] at e1
   have ebr:=V.refBound_r v h2
   generalize V.bound (V.inner v.2)=L at*
   have hall:=(chk_zero hk).1.1
   have hl512:=chk_max hk
   obtain ⟨W,up,hB,hn⟩:=next_r L hk hf a b ha hb
   have hlk:=refLinked_r L hall (by omega) a b ha hb
   have hiff:a∈W↔Conn L a b:=(hB.conn hall a).trans ⟨Conn.symm,Conn.symm⟩
   by_cases hW:a∈W
   ·rw [if_pos hW] at hn
    rw [decT (hiff.1 hW)] at hlk
    by_cases hab:a=b
    ·rw [if_pos hab] at hn
     have hbq:(a==b)=true:=by rw [hab]; simp
     refine ⟨b,0,?_,?_⟩
     ·simp only [e1,en,hn,show ((0:Int) !=0)=false from rfl,Bool.not_true,Bool.not_false,cond_true,cond_false,Bool.and_self,Bool.and_true,Bool.true_and]
     ·simp only [er,e2,ebr,hlk,hbq,show ((0:Int) !=0)=false from rfl,Bool.not_true,Bool.not_false,cond_true,cond_false,Bool.and_self,Bool.and_true,Bool.true_and]
    ·rw [if_neg hab] at hn
     have hO:=on_r L hall (by omega) a b ha hb
     obtain ⟨⟨e0,he0,hp0⟩,huq⟩:=forest_on hall hf hB hW hab
     have hOl:(L.filter (onB L a b)).length≤1000000:=by
      have:=List.length_filter_le (onB L a b) L
      omega
     have hmay:∀ e∈L.filter (onB L a b),May e:=fun e he=>hall e (List.mem_filter.1 he).1
     obtain ⟨t,ht⟩:=refWay_r L a b ((up[a.toNat]?).getD 0) _ hO hOl hab ⟨e0,he0,by rw [touch_other (hmay e0 he0)]; exact hp0⟩ (fun e he hp=>by
      rw [touch_other (hmay e he)] at hp ⊢
      exact huq e he hp)
     refine ⟨(up[a.toNat]?).getD 0,0,?_,?_⟩
     ·simp only [e1,en,hn,show ((0:Int) !=0)=false from rfl,Bool.not_true,Bool.not_false,cond_true,cond_false,Bool.and_self,Bool.and_true,Bool.true_and]
     ·have hl2:(a::(up[a.toNat]?).getD 0::t).length=t.length+2:=rfl
      have hg:((a::(up[a.toNat]?).getD 0::t)[1]?).getD 0=(up[a.toNat]?).getD 0:=rfl
      simp only [er,e2,ebr,hlk,beqI hab,ht,hl2,hg,show (Int.toNat 1)=1 from rfl,decT (show (0:Int)≤1 by omega),decT (show 1<t.length+2 by omega),show ((0:Int) !=0)=false from rfl,Bool.not_true,Bool.not_false,cond_true,cond_false,Bool.and_self,Bool.and_true,Bool.true_and]
   ·rw [if_neg hW] at hn
    rw [decF (fun h=>hW (hiff.2 h))] at hlk
    refine ⟨0,9,?_,?_⟩
    ·simp only [e1,en,hn,show ((0:Int) !=0)=false from rfl,Bool.not_true,Bool.not_false,cond_true,cond_false,Bool.and_self,Bool.and_true,Bool.true_and]
    ·simp only [er,e2,ebr,hlk,show ((0:Int) !=0)=false from rfl,Bool.not_true,Bool.not_false,cond_true,cond_false,Bool.and_self,Bool.and_true,Bool.true_and]
  ·refine ⟨0,e,?_,?_⟩
   ·simp only [e1,en,bneI he,Bool.not_true,Bool.not_false,cond_true,cond_false,Bool.and_self,Bool.and_true,Bool.true_and]
   ·simp only [er,e2,bneI he,Bool.not_true,Bool.not_false,cond_true,cond_false,Bool.and_self,Bool.and_true,Bool.true_and]
 ·rw [decF hb] at en er
  refine ⟨0,1,?_,?_⟩
  ·simp only [e1,en,show ((1:Int) !=0)=true from rfl,Bool.not_true,Bool.not_false,cond_true,cond_false,Bool.and_self,Bool.and_true,Bool.true_and]
  ·simp only [er,Bool.not_true,Bool.not_false,cond_true,cond_false,Bool.and_self,Bool.and_true,Bool.true_and]
end Go.Proofs.Ytfeepbajipdfaaa.T
namespace Go.Proofs.Ytfeepbajipdfaaa.T
open Go.Vm Go.Tm
set_option linter.unusedVariables false
set_option linter.unusedSimpArgs false
theorem ints_r (a b:List Int) (hbig:a.length≤1152921504606846976):withyref05_Ints_r a b=(true,decide (a=b)):=by
 unfold withyref05_Ints_r
 by_cases hl:a.length=b.length
 ·have key:=loop_all (d:=HL.dflt [.bool,.bool,.bool]) (step:=withyref05_Ints_l0 a b) a.length (fun i=>decide ((a[i]?).getD 0=(b[i]?).getD 0)) (true,false,false,()) (false,false,true,())
   (fun i hi=>by
    have g1:(i:Int)<(a.length:Int):=by omega
    have hw:IntKind.i64.wrap ((i:Int)+1)=((i+1:Nat):Int):=by rw [wrap_i64 (by omega) (by omega)]; omega
    have hx:a[i]? =some a[i]:=List.getElem?_eq_getElem hi
    have hy:b[i]? =some (b[i]'(by omega)):=List.getElem?_eq_getElem (by omega)
    generalize a[i]=x at hx
    generalize b[i]'(by omega)=y at hy
    have hb:(x !=y)= !decide (x=y):=by
     by_cases hh:x=y
     ·rw [decT hh,hh]; simp
     ·rw [decF hh,bneI hh]; rfl
    unfold withyref05_Ints_l0
    simp only [decT g1,hw,Int.toNat_natCast,hx,hy,Option.getD_some,hb,decT hi,decT (show i<b.length by omega),decT (show (0:Int)≤(i:Int) by omega),cond_true,Bool.and_true,Bool.and_self,Bool.true_and,Bool.not_not,Bool.not_true]
    exact ⟨trivial,trivial,fun _=>trivial,fun h=>by rw [h]; rfl⟩)
   (by
    have g1:¬ (a.length:Int)<(a.length:Int):=by omega
    unfold withyref05_Ints_l0
    simp only [decF g1,cond_false,Bool.false_and,Bool.not_false]
    exact ⟨trivial,trivial,trivial⟩)
  have hne:((a.length:Int) !=(b.length:Int))=false:=by rw [hl]; simp
  have hall:(List.range a.length).all (fun i=>decide ((a[i]?).getD 0=(b[i]?).getD 0))=true↔a=b:=by
   rw [List.all_eq_true]
   constructor
   ·intro h
    apply List.ext_getElem hl
    intro i h1 h2
    have:=h i (List.mem_range.2 h1)
    rw [List.getElem?_eq_getElem h1,List.getElem?_eq_getElem h2] at this
    exact of_decide_eq_true this
   ·rintro rfl i _
    exact decide_eq_true rfl
  simp only [loopD_eq,key,hne,Bool.not_false,cond_true]
  by_cases hab:a=b
  ·rw [if_pos (hall.2 hab),decT hab]; rfl
  ·rw [if_neg (fun h=>hab (hall.1 h)),decF hab]; rfl
 ·have hne:((a.length:Int) !=(b.length:Int))=true:=bneI (by omega)
  have hab:¬ a=b:=fun h=>hl (by rw [h])
  simp only [hne,Bool.not_true,cond_false,decF hab]
abbrev Core:=Int × ((Int × Int) × (Int × (Int × ((List (Int × (Int × (Int × (Int × (Bool × (Bool × Int))))))) × ((List Int) × (((List Int) × (List (Int × (Int × (Int × (Int × Bool)))))) × (Int × (((List Int) × (List (Int × (Int × (Int × (Int × Bool)))))) × (Int × Bool)))))))))
theorem askTells_of (haw:withylaw24_awake_r=(true,true)) (c:Core) (to:Int):withylaw24_AskTells_r c to=(true,true):=by
 obtain ⟨id,⟨epoch,root⟩,top,parent,ties,wait,got,phase,table,limit,over⟩:=c
 unfold withylaw24_AskTells_r
 simp only [haw]
 by_cases h1:(table.1.length:Int)>70
 ·simp only [decT h1,Bool.not_true,Bool.not_false,cond_true,cond_false,Bool.and_self,Bool.and_true,Bool.true_and]
 ·by_cases h2:(table.2.length:Int)>60
  ·simp only [decF h1,decT h2,Bool.not_true,Bool.not_false,cond_true,cond_false,Bool.and_self,Bool.and_true,Bool.true_and]
  ·have hT:∀ z:Bool,cond z z true=true:=fun z=>by cases z<;>rfl
   have hT2:∀ z:Bool,cond z true (!z)=true:=fun z=>by cases z<;>rfl
   have hT3:∀ z:Bool,cond z (z && z) true=true:=fun z=>by cases z<;>rfl
   cases ho:over with
   | true=>
    have c1:ask_Stable_r (id,(epoch,root),top,parent,ties,wait,got,phase,table,limit,true)=(true,false):=by
     unfold ask_Stable_r
     cases hp:(phase==(4:Int))<;>simp only [hp,Bool.not_true,cond_true,cond_false,Bool.and_self]
    have c2:ask_check_r (id,(epoch,root),top,parent,ties,wait,got,phase,table,limit,true)=(true,10):=by
     unfold ask_check_r
     simp only [c1,Bool.not_true,Bool.not_false,cond_true,cond_false,Bool.and_self,Bool.and_false,Bool.false_and]
    have c3:withyref24_Check_r (id,(epoch,root),top,parent,ties,wait,got,phase,table,limit,true)=(true,10):=by
     unfold withyref24_Check_r
     simp only [Bool.not_true,cond_false]
    unfold ask_Leader_r ask_Next_r ask_Members_r withyref24_Next_r
    simp only [c1,c2,c3,decF h1,decF h2,bne_self_eq_false,show ((10:Int) !=0)=true from rfl,show ((10:Int)==0)=false from rfl,show ((0:Int)==0)=true from rfl,List.length_nil,show (((0:Nat):Int)==0)=true from rfl,show ((false:Bool)==false)=true from rfl,Bool.not_true,Bool.not_false,cond_true,cond_false,Bool.and_self,Bool.and_true,Bool.true_and]
   | false=>
    cases hp:(phase==(4:Int)) with
    | false=>
     have c1:ask_Stable_r (id,(epoch,root),top,parent,ties,wait,got,phase,table,limit,false)=(true,false):=by
      unfold ask_Stable_r
      simp only [hp,Bool.not_false,cond_true,cond_false,Bool.and_self]
     have c2:ask_check_r (id,(epoch,root),top,parent,ties,wait,got,phase,table,limit,false)=(true,8):=by
      unfold ask_check_r
      simp only [c1,Bool.not_true,Bool.not_false,cond_true,cond_false,Bool.and_self,Bool.and_false,Bool.false_and]
     have hp2:(phase !=(4:Int))=true:=by unfold bne; rw [hp]; rfl
     have c3:withyref24_Check_r (id,(epoch,root),top,parent,ties,wait,got,phase,table,limit,false)=(true,8):=by
      unfold withyref24_Check_r
      simp only [hp2,Bool.not_true,Bool.not_false,cond_true,cond_false]
     unfold ask_Leader_r ask_Next_r ask_Members_r withyref24_Next_r
     simp only [c1,c2,c3,decF h1,decF h2,bne_self_eq_false,show ((8:Int) !=0)=true from rfl,show ((8:Int)==0)=false from rfl,show ((0:Int)==0)=true from rfl,List.length_nil,show (((0:Nat):Int)==0)=true from rfl,show ((false:Bool)==false)=true from rfl,Bool.not_true,Bool.not_false,cond_true,cond_false,Bool.and_self,Bool.and_true,Bool.true_and]
    | true=>
     have c1:ask_Stable_r (id,(epoch,root),top,parent,ties,wait,got,phase,table,limit,false)=(true,true):=by
      unfold ask_Stable_r
      simp only [hp,Bool.not_false,cond_true,cond_false,Bool.and_self]
     have c2:ask_check_r (id,(epoch,root),top,parent,ties,wait,got,phase,table,limit,false)=(true,0):=by
      unfold ask_check_r
      simp only [c1,Bool.not_true,Bool.not_false,cond_true,cond_false,Bool.and_self,Bool.and_false,Bool.false_and]
     have hp2:(phase !=(4:Int))=false:=by unfold bne; rw [hp]; rfl
     have c3:withyref24_Check_r (id,(epoch,root),top,parent,ties,wait,got,phase,table,limit,false)=(true,0):=by
      unfold withyref24_Check_r
      simp only [hp2,Bool.not_true,Bool.not_false,cond_true,cond_false]
     obtain ⟨x,y,e1,e2⟩:=hop_r table (by omega) (by omega) id to
     have ei:=ints_r table.1 table.1 (by omega)
     rw [decT rfl] at ei
     unfold ask_Leader_r ask_Next_r ask_Members_r withyref24_Next_r slices_Clone_int_r
     simp only [c1,c2,c3,e1,e2,ei,decF h1,decF h2,decT (show table.1.length*8≤140737488355328 by omega),bne_self_eq_false,beq_self_eq_true,show ((0:Int) !=0)=false from rfl,show ((0:Int)==0)=true from rfl,show ((true:Bool)==true)=true from rfl,Bool.not_true,Bool.not_false,cond_true,cond_false,Bool.and_self,Bool.and_true,Bool.true_and]
end Go.Proofs.Ytfeepbajipdfaaa.T
namespace Go.Proofs.Ytfeepbajipdfaaa.T
open Go.Vm Go.Tm
set_option linter.unusedVariables false
set_option linter.unusedSimpArgs false
theorem loopD_end {σ ρ:List Ty} {tag:Nat} {step:HL σ→BoolD × BoolD × HL σ × HL ρ} {x:HL σ} (h1:(step x).1=true) (h2:(step x).2.1=false):loopD tag σ ρ step x=(true,(step x).2.2.2):=by
 have h:REnd (step x) (step x).2.2.2:=⟨h1,h2,rfl⟩
 exact h.end (d:=HL.dflt ρ)
abbrev vw0:V.Vw:=([],[])
abbrev vw3:V.Vw:=([3],[])
abbrev St9:=Core × List (Int × (Int × ((Int × Int) × (V.Vw × (Int × (Int × (Int × Int)))))))
abbrev core0:Core:=(3,((0,0),(0,(0,([],([],(vw0,(0,(vw0,(9,false))))))))))
abbrev core1:Core:=(3,((1,3),(1,(0,([],([],(vw0,(1,(vw0,(9,false))))))))))
abbrev core2:Core:=(3,((1,3),(1,(0,([],([],(vw0,(4,(vw3,(9,false))))))))))
theorem after0:withyref12_After_r 0 9 3=(true,((1,3),0)):=by kernel_rfl
theorem bound0:withyref22_bound_r core1 0=(true,[]):=by
 unfold withyref22_bound_r
 rw [loopD_end]<;>kernel_rfl
theorem own0:withyref22_Own_r core1=(true,([3],[])):=by
 unfold withyref22_Own_r
 rw [loopD_end]<;>kernel_rfl
theorem outer0:withyref09_Outer_r vw3=(true,[]):=by
 unfold withyref09_Outer_r
 rw [loopD_end]<;>kernel_rfl
theorem first0:withyref10_First_r []=(true,-1):=by
 unfold withyref10_First_r
 rw [loopD_end]<;>kernel_rfl
theorem inner0:withyref09_Inner_r vw3=(true,[]):=V.refInner_r vw3 (by simp)
theorem bnd0:withyref09_Bound_r vw3=(true,[]):=V.refBound_r vw3 (by simp)
theorem none0:NoneTo [] 0:=fun k e hk=>by omega
open Classical in
theorem forest0:withyref07_Forest_r []=(true,true):=by
 rw [refForest_r [] (fun e he=>by cases he) (by simp)]
 rw [decT (show NoneTo [] ([]:List Ed).length from none0)]
open Classical in
theorem may0':withyref09_May_r vw0=(true,true):=by
 rw [V.May_r vw0 (by simp) (by simp)]
 rw [decT (show V.mayP vw0 from ⟨fun i hi=>by simp at hi,fun i hi=>by simp at hi⟩)]
theorem merge0:withyref09_Merge_r vw3 vw0=(true,(true,([3],[]))):=by
 have key:=loopR_by (d:=HL.dflt [.bool,.bool,(.fl (.int .i64)),(.fl (.row (.prod (.int .i64) (.prod (.int .i64) (.prod (.int .i64) (.prod (.int .i64) .bool)))))),.bool,(.fl (.int .i64)),(.fl (.row (.prod (.int .i64) (.prod (.int .i64) (.prod (.int .i64) (.prod (.int .i64) .bool))))))]) (step:=withyref09_Merge_l0 vw3 vw0)
  (fun s:Int × List Int × List V.K × Unit=>∃ i:Nat,s=(((i+1:Nat):Int),(if 3≤i then [3] else []),[],())∧i≤64) (fun s=>65 - s.1.toNat)
  (fun r:Bool × Bool × List Int × List V.K × Bool × List Int × List V.K × Unit=>r.2.2.2.2=(true,[3],[],()))
  ((1:Int),[],[],()) ⟨0,rfl,Nat.zero_le _⟩ (by
  rintro _ ⟨i,rfl,h1⟩
  have q1:=V.in_r [3] ((i+1:Nat):Int) (by simp)
  have q2:=V.in_r [] ((i+1:Nat):Int) (by simp)
  rw [decF (show ¬ ((i+1:Nat):Int)∈([]:List Int) by simp)] at q2
  unfold withyref09_Merge_l0
  by_cases hi:i<64
  ·have g1:((i+1:Nat):Int)≤64:=by omega
   have hw:IntKind.i64.wrap (((i+1:Nat):Int)+1)=((i+1+1:Nat):Int):=by rw [wrap_i64 (by omega) (by omega)]; omega
   have e1:∀ (s:Int × List Int × List V.K × Unit) (ns:List Int),loopR (HL.dflt [.bool,(.fl (.int .i64)),(.fl (.row (.prod (.int .i64) (.prod (.int .i64) (.prod (.int .i64) (.prod (.int .i64) .bool))))))]) (withyref09_Merge_l1 vw3 vw0 s) ((0:Int),ns,[],())=(true,(true,ns,[],())):=fun s ns=>REnd.end ⟨rfl,rfl,rfl⟩
   have e2:∀ (s:Int × List Int × List V.K × Unit) (ns:List Int),loopR (HL.dflt [.bool,(.fl (.int .i64)),(.fl (.row (.prod (.int .i64) (.prod (.int .i64) (.prod (.int .i64) (.prod (.int .i64) .bool))))))]) (withyref09_Merge_l2 vw3 vw0 s) ((0:Int),ns,[],())=(true,(true,ns,[],())):=fun s ns=>REnd.end ⟨rfl,rfl,rfl⟩
   by_cases h3:i=2
   ·subst h3
    rw [decT (show ((2+1:Nat):Int)∈([3]:List Int) by simp)] at q1
    simp only [q1,q2,decT g1,hw,loopD_eq,e1,e2,cond_true,cond_false,Bool.not_true,Bool.not_false,Bool.and_self,Bool.and_true,Bool.true_and,Bool.and_false]
    exact ⟨rfl,fun _=>⟨⟨3,rfl,by omega⟩,by decide⟩,fun h=>by cases h⟩
   ·rw [decF (show ¬ ((i+1:Nat):Int)∈([3]:List Int) by simp; omega)] at q1
    simp only [q1,q2,decT g1,hw,loopD_eq,e1,e2,cond_true,cond_false,Bool.not_true,Bool.not_false,Bool.and_self,Bool.and_true,Bool.true_and,Bool.and_false]
    have hif:(if 3≤i then [(3:Int)] else [])=(if 3≤i+1 then [3] else []):=by
     by_cases hh:3≤i
     ·rw [if_pos hh,if_pos (by omega)]
     ·rw [if_neg hh,if_neg (by omega)]
    exact ⟨trivial,fun _=>⟨⟨i+1,by rw [hif],by omega⟩,by
     show 65 - (((i+1+1:Nat):Int)).toNat<65 - (((i+1:Nat):Int)).toNat
     omega⟩,fun h=>by cases h⟩
  ·have g1:¬ ((i+1:Nat):Int)≤64:=by omega
   have hil:i=64:=by omega
   subst hil
   simp only [decF g1,cond_false,Bool.false_and,Bool.not_false]
   exact ⟨trivial,fun h=>(by cases h),fun _=>rfl⟩)
 unfold withyref09_Merge_r
 simp only [loopD_eq]
 obtain ⟨k1,k2⟩:=key
 have k2:(loopR (HL.dflt [.bool,.bool,(.fl (.int .i64)),(.fl (.row (.prod (.int .i64) (.prod (.int .i64) (.prod (.int .i64) (.prod (.int .i64) .bool)))))),.bool,(.fl (.int .i64)),(.fl (.row (.prod (.int .i64) (.prod (.int .i64) (.prod (.int .i64) (.prod (.int .i64) .bool))))))]) (withyref09_Merge_l0 vw3 vw0) ((1:Int),[],[],())).2.2.2.2.2=(true,[3],[],()):=k2
 simp only [k1,k2,cond_true]
theorem choose0:withyref10_Choose_r vw3=(true,(1,(0,(0,0)))):=by
 unfold withyref10_Choose_r
 rw [loopD_end (step:=withyref10_Choose_l0 vw3)]
 ·simp only [inner0,bnd0,outer0]
  unfold withyref10_Choose_l0
  simp only [inner0,bnd0,first0]
  kernel_rfl
 ·unfold withyref10_Choose_l0
  simp only [inner0,bnd0]
  kernel_rfl
 ·unfold withyref10_Choose_l0
  simp only [inner0,bnd0]
  kernel_rfl
end Go.Proofs.Ytfeepbajipdfaaa.T
namespace Go.Proofs.Ytfeepbajipdfaaa.T
open Go.Vm Go.Tm
set_option linter.unusedVariables false
set_option linter.unusedSimpArgs false
theorem choice0 (g1:HL withyref22_begin_e.ins→Bool × HL withyref22_begin_e.outs) (g2:HL withyref22_settle_e.ins→Bool × HL withyref22_settle_e.outs):withyref22_choice_r g1 g2 (core1,[]) (1,(0,(0,0))) vw3=(true,(core2,[])):=by
 unfold withyref22_choice_r
 rw [loopD_end (step:=withyref22_choice_l0 g1 g2 (core1,[]) (1,(0,(0,0))) vw3)]
 ·unfold withyref22_choice_l0
  simp only [bound0]
  kernel_rfl
 ·unfold withyref22_choice_l0
  simp only [bound0]
  kernel_rfl
 ·unfold withyref22_choice_l0
  simp only [bound0]
  kernel_rfl
theorem settleS0 (g1:HL withyref22_begin_e.ins→Bool × HL withyref22_begin_e.outs) (g2:HL withyref22_settle_e.ins→Bool × HL withyref22_settle_e.outs):withyref22_settle_s_r g1 g2 (core1,[])=(true,(core2,[])):=by
 unfold withyref22_settle_s_r
 dsimp only
 rw [loopD_end (step:=withyref22_settle_s_l0 g1 g2 (core1,[]))]
 ·simp only [own0,merge0,may0',cond_true]
  simp only [bnd0,forest0,choose0,choice0]
  kernel_rfl
 ·kernel_rfl
 ·kernel_rfl
theorem settle0 (g1:HL withyref22_begin_e.ins→Bool × HL withyref22_begin_e.outs) (st:St9) (h:st=(core1,[])):withyref22_settle_r g1 st=(true,(core2,[])):=by
 subst h
 unfold withyref22_settle_r
 have key:=recF_by (e:=withyref22_settle_e) (step:=withyref22_settle_s g1) (fun y=>y=((core1,[]),())) (fun _=>0) (fun _=>((core2,[]),())) (fun g x hx _=>by
  subst hx
  unfold withyref22_settle_s
  have e:=settleS0 g1 g
  show ((withyref22_settle_s_r g1 g (core1,[])).1,((withyref22_settle_s_r g1 g (core1,[])).2,()))=_
  rw [e]
  rfl) ((core1,[]),()) rfl
 show ((recF withyref22_settle_e (withyref22_settle_s g1) ((core1,[]),())).1,(recF withyref22_settle_e (withyref22_settle_s g1) ((core1,[]),())).2.1)=_
 rw [key]
theorem bound0' (c:Core) (h:c=core1):withyref22_bound_r c 0=(true,[]):=by rw [h]; exact bound0
theorem adopt0 (g1:HL withyref22_begin_e.ins→Bool × HL withyref22_begin_e.outs) (e:Int × Int) (he:e=(1,3)):withyref22_adopt_r g1 (core0,[]) e 0=(true,(core2,[])):=by
 subst he
 unfold withyref22_adopt_r
 dsimp only
 rw [bound0' _ (by kernel_rfl)]
 rw [loopD_end (step:=withyref22_adopt_l0 g1 (core0,[]) (1,3) 0)]
 ·rw [loopD_end (step:=withyref22_adopt_l1 g1 (core0,[]) (1,3) 0)]
  ·rw [settle0 g1 _ (by kernel_rfl)]
   rfl
  ·kernel_rfl
  ·kernel_rfl
 ·kernel_rfl
 ·kernel_rfl
theorem beginS0 (g1:HL withyref22_begin_e.ins→Bool × HL withyref22_begin_e.outs):withyref22_begin_s_r g1 (core0,[])=(true,(core2,[])):=by
 unfold withyref22_begin_s_r
 dsimp only
 rw [adopt0 g1 _ (by kernel_rfl)]
 kernel_rfl
theorem new0:withyref22_New_r 3 9=(true,core2):=by
 unfold withyref22_New_r withyref22_begin_r
 have key:=recF_by (e:=withyref22_begin_e) (step:=withyref22_begin_s) (fun y=>y=((core0,[]),())) (fun _=>0) (fun _=>((core2,[]),())) (fun g x hx _=>by
  subst hx
  unfold withyref22_begin_s
  have e:=beginS0 g
  show ((withyref22_begin_s_r g (core0,[])).1,((withyref22_begin_s_r g (core0,[])).2,()))=_
  rw [e]
  rfl) ((core0,[]),()) rfl
 show ((recF withyref22_begin_e withyref22_begin_s ((core0,[]),())).1,(recF withyref22_begin_e withyref22_begin_s ((core0,[]),())).2.1.1)=_
 rw [key]
theorem chk0:chk []=0:=by
 unfold chk
 rw [if_pos (show AllMay [] from ⟨fun e he=>by (cases he),List.Pairwise.nil⟩)]
 rfl
theorem may3:V.mayP vw3:=by
 refine ⟨fun i hi=> ?_,fun i hi=>by simp at hi⟩
 have:i=0:=by simp at hi; omega
 subst this
 simp [V.nodeOk,V.nodeB]
open Classical in
theorem hop0:route_Hop_r vw3 3 4=(true,(0,9)):=by
 have eb:=V.bound_r vw3 (by simp) (by simp)
 rw [if_pos may3,if_pos may3] at eb
 have eb:view_Bound_r vw3=(true,(0,[])):=eb
 have ef:=forest_r [] (by simp)
 rw [decT (show chk []=0∧NoneTo [] ([]:List Ed).length from ⟨chk0,none0⟩)] at ef
 have ec:=V.contains_r [3] 3 (by simp)
 rw [decT (show (3:Int)∈([3]:List Int) by simp)] at ec
 obtain ⟨W,up,hB,hn⟩:=next_r [] chk0 none0 3 4 (by omega) (by omega)
 have hW:(3:Int) ∉ W:=fun h=>by
  have:=(hB.conn (fun e he=>by (cases he)) 3).1 h
  rw [conn_nil] at this
  omega
 rw [if_neg hW] at hn
 have en:edge_Node_r 3=(true,true):=by kernel_rfl
 have en4:edge_Node_r 4=(true,true):=by kernel_rfl
 unfold route_Hop_r route_bound_r
 simp only [eb,ef,ec,en,en4,hn,show ((0:Int) !=0)=false from rfl,Bool.not_true,Bool.not_false,cond_true,cond_false,Bool.and_self,Bool.and_true,Bool.true_and]
theorem awake24_r:withylaw24_awake_r=(true,true):=by
 unfold withylaw24_awake_r
 simp only [new0]
 unfold ask_Next_r
 simp only [hop0]
 kernel_rfl
theorem askTells_pure (c:Core) (to:Int):withylaw24_AskTells_r c to=(true,true):=askTells_of awake24_r c to
end Go.Proofs.Ytfeepbajipdfaaa.T
