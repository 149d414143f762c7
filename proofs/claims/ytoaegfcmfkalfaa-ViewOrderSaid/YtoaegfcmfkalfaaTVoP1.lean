/- Views that may be; links in order. -/
import Derived.Test.YtoaegfcmfkalfaaTVoF
namespace Go.Proofs.Ytoaegfcmfkalfaa.T
open Go.Vm Go.Tm
set_option linter.unusedVariables false
set_option linter.unusedSimpArgs false
abbrev K:=Int × Int × Int × Int × Bool
abbrev Vw:=List Int × List K
def cmpI (a b:Int):Int:=if a<b then -1 else if b<a then 1 else 0
theorem compare_r (a b:Int):cmp_Compare_int_r a b=(true,cmpI a b):=by
 unfold cmp_Compare_int_r cmp_isNaN_int_r cmpI
 by_cases h1:a<b<;>by_cases h2:b<a<;>simp [h1,h2]
theorem or_r (a b:Int):cmp_Or_int_r [a,b]=(true,if a=0 then b else a):=by
 have key:∃ x e,loopD 0 [.int .i64] [.bool,.int .i64,.bool] (cmp_Or_int_l0 [a,b]) ((0:Int),())=(true,x,(if a=0 then b else a),e,())∧(e=true→(if a=0 then b else a)=0):=by
  by_cases ha:a=0
  ·have h0:RGo (cmp_Or_int_l0 [a,b] ((0:Int),())) ((1:Int),()):=by
    unfold cmp_Or_int_l0 RGo; simp [ha,wrap_i64]<;>rfl
   have e0:=h0.go (d:=HL.dflt [.bool,.int .i64,.bool])
   by_cases hb:b=0
   ·have h1:RGo (cmp_Or_int_l0 [a,b] ((1:Int),())) ((2:Int),()):=by
     unfold cmp_Or_int_l0 RGo; simp [hb,wrap_i64]<;>rfl
    have e1:=h1.go (d:=HL.dflt [.bool,.int .i64,.bool])
    have h2:REnd (cmp_Or_int_l0 [a,b] ((2:Int),())) (false,(0:Int),true,()):=by
     unfold cmp_Or_int_l0 REnd; simp<;>rfl
    refine ⟨false,true,?_,fun _=>by simp [ha,hb]⟩
    rw [if_pos ha]
    conv=>rhs; rw [hb]
    exact ((e0.trans e1).trans (h2.end (d:=HL.dflt [.bool,.int .i64,.bool]))).trans rfl
   ·have h1:REnd (cmp_Or_int_l0 [a,b] ((1:Int),())) (true,b,false,()):=by
     unfold cmp_Or_int_l0 REnd; simp [hb,bneI hb]<;>rfl
    refine ⟨true,false,?_,fun h=>by cases h⟩
    rw [if_pos ha]
    exact e0.trans (h1.end (d:=HL.dflt [.bool,.int .i64,.bool]))
  ·have h0:REnd (cmp_Or_int_l0 [a,b] ((0:Int),())) (true,a,false,()):=by
    unfold cmp_Or_int_l0 REnd; simp [ha,bneI ha]<;>rfl
   refine ⟨true,false,?_,fun h=>by cases h⟩
   rw [if_neg ha]
   exact h0.end (d:=HL.dflt [.bool,.int .i64,.bool])
 obtain ⟨x,e,key,he⟩:=key
 unfold cmp_Or_int_r
 rw [key]
 cases e with
 | true=>simp [he rfl]
 | false=>rfl
def ordK (a b:K):Int:=if cmpI a.1 b.1=0 then cmpI a.2.1 b.2.1 else cmpI a.1 b.1
def aheadB (a b:K):Bool:=decide (a.1<b.1) || (decide (a.1=b.1) && decide (a.2.1<b.2.1))
theorem cmpI_cases (a b:Int):(cmpI a b= -1∧a<b)∨(cmpI a b=0∧a=b)∨(cmpI a b=1∧b<a):=by
 unfold cmpI
 rcases Int.lt_trichotomy a b with h | h | h
 ·simp [h]
 ·simp [h]
 ·have:¬ a<b:=by omega
  simp [h,this]
theorem order_r (a b:K):view_order_r a b=(true,ordK a b):=by
 unfold view_order_r ordK
 simp only [compare_r,or_r]
 simp
theorem ordK_lt (a b:K):(ordK a b<0↔aheadB a b=true)∧(ordK a b=0↔a.1=b.1∧a.2.1=b.2.1):=by
 unfold ordK aheadB
 rcases cmpI_cases a.1 b.1 with ⟨h,h'⟩ | ⟨h,h'⟩ | ⟨h,h'⟩<;>rcases cmpI_cases a.2.1 b.2.1 with ⟨k,k'⟩ | ⟨k,k'⟩ | ⟨k,k'⟩<;>rw [h]<;>simp [k,h']<;>omega
def nodeB (n:Int):Bool:=decide (1≤n∧n≤64)
theorem node_r (n:Int):edge_Node_r n=(true,nodeB n):=by
 unfold edge_Node_r nodeB
 by_cases h1:1≤n<;>by_cases h2:n≤64<;>simp [h1,h2]
theorem getD_at {α:Type} {l:List α} {i:Nat} (d:α) (h:i<l.length):(l[i]?).getD d=l[i]:=by simp [h]
theorem contains_r (l:List Int) (x:Int) (hl:l.length≤1000):slices_Contains_int_r l x=(true,decide (x∈l)):=by
 unfold slices_Contains_int_r slices_Index_int_r
 rcases loop_find (d:=HL.dflt [.bool,.int .i64,.bool]) (step:=slices_Index_int_l0 l x) l.length (fun i=>(l[i]?).getD 0=x) (fun i=>(true,(i:Int),false,())) (false,(l.length:Int),true,()) (fun i hi=>by
   unfold slices_Index_int_l0 RGo REnd
   constructor
   ·intro h; simp [hi] at h ⊢; simp [h]<;>rfl
   ·intro h
    simp [hi] at h ⊢
    have:¬ x=l[i]:=fun e=>h e.symm
    simp [this,beqI this,wrap_i64 (x:=(i:Int)+1) (by omega) (by omega)]<;>rfl) (by unfold slices_Index_int_l0 REnd; simp<;>rfl) with ⟨i,hi,h1,h2,h3⟩ | ⟨h1,h3⟩
 ·rw [show loopD 0 [.int .i64] [.bool,.int .i64,.bool] (slices_Index_int_l0 l x) ((0:Int),())=(true,true,(i:Int),false,()) from h3]
  have:x∈l:=by rw [getD_at 0 hi] at h1; rw [← h1]; exact List.getElem_mem hi
  simp [this]
 ·rw [show loopD 0 [.int .i64] [.bool,.int .i64,.bool] (slices_Index_int_l0 l x) ((0:Int),())=(true,false,(l.length:Int),true,()) from h3]
  have:x ∉ l:=fun hx=>by
   obtain ⟨i,hi,he⟩:=List.getElem_of_mem hx
   exact h1 i hi (by rw [getD_at 0 hi]; exact he)
  simp [this]
theorem cond_ct (c x:Bool):(cond c (c && x) true)=(!c || x):=by cases c<;>rfl
theorem cond_tc (c x:Bool):(cond c true x)=(c || x):=by cases c<;>rfl
theorem cond_cf (c x:Bool):(cond c x false)=(c && x):=by cases c<;>rfl
theorem cond_ft (c x:Bool):(cond c x true)=(!c || x):=by cases c<;>rfl
abbrev kd:K:=(0,0,0,0,false)
def nodeOk (l:List Int) (i:Nat):Prop:=nodeB ((l[i]?).getD 0)=true∧(0<i→(l[i - 1]?).getD 0<(l[i]?).getD 0)
def plainOk (ns:List Int) (k:K):Prop:=k.1∈ns∧nodeB k.2.1=true∧¬ k.2.1=k.1∧0≤k.2.2.1∧k.2.2.1≤2147483647∧1≤k.2.2.2.1∧k.2.2.2.1≤2147483647
def linkOk (v:Vw) (i:Nat):Prop:=plainOk v.1 ((v.2[i]?).getD kd)∧(0<i→aheadB ((v.2[i - 1]?).getD kd) ((v.2[i]?).getD kd)=true)
theorem wrap_pred {i:Nat} (h:0<i) (hi:i≤1000):IntKind.i64.wrap ((i:Int) - 1)=((i - 1:Nat):Int):=by
 rw [wrap_i64 (by omega) (by omega)]; omega
theorem check0 (v:Vw) (h1:v.1.length≤900) (i:Nat) (hi:i<v.1.length):(¬ nodeOk v.1 i→REnd (view_Check_l0 v ((i:Int),())) (true,(1:Int),false,()))∧(nodeOk v.1 i→RGo (view_Check_l0 v ((i:Int),())) (((i+1:Nat):Int),())):=by
 unfold view_Check_l0 REnd RGo nodeOk
 simp only [node_r]
 rcases Nat.eq_zero_or_pos i with rfl | hp
 ·cases a:nodeB ((v.1[0]?).getD 0)<;>simp [hi,wrap_i64,a] at a ⊢<;>simp [a]
 ·have e1:=wrap_pred hp (by omega)
  have e2:i - 1<v.1.length:=by omega
  have e3:=wrap_i64 (x:=(i:Int)+1) (by omega) (by omega)
  cases a:nodeB ((v.1[i]?).getD 0)
  ·simp [hi,hp,e1,e2,e3] at a ⊢; simp [a]
  ·by_cases b:(v.1[i - 1]?).getD 0<(v.1[i]?).getD 0
   ·simp [hi,hp,e1,e2,e3] at a b ⊢; simp [a,b]
   ·simp [hi,hp,e1,e2,e3] at a b ⊢; simp [a,b]
theorem check1 (v:Vw) (h1:v.1.length≤900) (h2:v.2.length≤900) (i:Nat) (hi:i<v.2.length):(¬ linkOk v i→REnd (view_Check_l1 v ((i:Int),())) (true,(1:Int),false,()))∧(linkOk v i→RGo (view_Check_l1 v ((i:Int),())) (((i+1:Nat):Int),())):=by
 unfold view_Check_l1 REnd RGo linkOk plainOk
 simp only [node_r,contains_r v.1 _ (by omega:v.1.length≤1000),order_r]
 have hw:=wrap_i64 (x:=(i:Int)+1) (by omega) (by omega)
 rcases Nat.eq_zero_or_pos i with rfl | hp
 ·generalize hk:(v.2[0]?).getD kd=k
  have hk':(v.2[0]?).getD ((0:Int),((0:Int),((0:Int),((0:Int),false))))=k:=hk
  simp only [Int.ofNat_zero,Int.toNat_natCast,Int.toNat_zero,hk']
  by_cases c0:nodeB k.2.1=true
  rotate_left
  ·simp [hi,hw,wrap_i64,c0]
  by_cases c1:¬ k.2.1=k.1
  rotate_left
  ·have c1':=Classical.not_not.1 c1
   simp [hi,hw,wrap_i64,c0,c1']
  by_cases c2:0≤k.2.2.1
  rotate_left
  ·simp [hi,hw,wrap_i64,c0,c1,beqI c1,beqI (fun e=>c1 e.symm),(fun e=>c1 e.symm:¬ k.1=k.2.1),c2,Int.not_le.1 c2]
  by_cases c3:k.2.2.1≤2147483647
  rotate_left
  ·simp [hi,hw,wrap_i64,c0,c1,c2,beqI c1,beqI (fun e=>c1 e.symm),(fun e=>c1 e.symm:¬ k.1=k.2.1),(Int.not_lt.2 c2),c3,Int.not_le.1 c3]
  by_cases c4:1≤k.2.2.2.1
  rotate_left
  ·simp [hi,hw,wrap_i64,c0,c1,c2,c3,beqI c1,beqI (fun e=>c1 e.symm),(fun e=>c1 e.symm:¬ k.1=k.2.1),(Int.not_lt.2 c2),(Int.not_lt.2 c3),c4,Int.not_le.1 c4]
  by_cases c5:k.2.2.2.1≤2147483647
  rotate_left
  ·simp [hi,hw,wrap_i64,c0,c1,c2,c3,c4,beqI c1,beqI (fun e=>c1 e.symm),(fun e=>c1 e.symm:¬ k.1=k.2.1),(Int.not_lt.2 c2),(Int.not_lt.2 c3),(Int.not_lt.2 c4),c5,Int.not_le.1 c5]
  by_cases c6:k.1∈v.1
  rotate_left
  ·simp [hi,hw,wrap_i64,c0,c1,c2,c3,c4,c5,beqI c1,beqI (fun e=>c1 e.symm),(fun e=>c1 e.symm:¬ k.1=k.2.1),(Int.not_lt.2 c2),(Int.not_lt.2 c3),(Int.not_lt.2 c4),(Int.not_lt.2 c5),c6]
  simp [hi,hw,wrap_i64,c0,c1,c2,c3,c4,c5,c6,beqI c1,beqI (fun e=>c1 e.symm),(fun e=>c1 e.symm:¬ k.1=k.2.1),(Int.not_lt.2 c2),(Int.not_lt.2 c3),(Int.not_lt.2 c4),(Int.not_lt.2 c5)]
 ·have e1:=wrap_pred hp (by omega)
  have e2:i - 1<v.2.length:=by omega
  generalize hk:(v.2[i]?).getD kd=k
  have hk':(v.2[i]?).getD ((0:Int),((0:Int),((0:Int),((0:Int),false))))=k:=hk
  generalize hj:(v.2[i - 1]?).getD kd=j
  have hj':(v.2[i - 1]?).getD ((0:Int),((0:Int),((0:Int),((0:Int),false))))=j:=hj
  simp only [Int.toNat_natCast,e1,hk',hj']
  clear hk hj hk' hj'
  by_cases c0:nodeB k.2.1=true
  rotate_left
  ·simp [hi,hw,hp,e1,e2,c0]
  by_cases c1:¬ k.2.1=k.1
  rotate_left
  ·have c1':=Classical.not_not.1 c1
   simp [hi,hw,hp,e1,e2,c0,c1']
  by_cases c2:0≤k.2.2.1
  rotate_left
  ·simp [hi,hw,hp,e1,e2,c0,c1,beqI c1,beqI (fun e=>c1 e.symm),(fun e=>c1 e.symm:¬ k.1=k.2.1),c2,Int.not_le.1 c2]
  by_cases c3:k.2.2.1≤2147483647
  rotate_left
  ·simp [hi,hw,hp,e1,e2,c0,c1,c2,beqI c1,beqI (fun e=>c1 e.symm),(fun e=>c1 e.symm:¬ k.1=k.2.1),(Int.not_lt.2 c2),c3,Int.not_le.1 c3]
  by_cases c4:1≤k.2.2.2.1
  rotate_left
  ·simp [hi,hw,hp,e1,e2,c0,c1,c2,c3,beqI c1,beqI (fun e=>c1 e.symm),(fun e=>c1 e.symm:¬ k.1=k.2.1),(Int.not_lt.2 c2),(Int.not_lt.2 c3),c4,Int.not_le.1 c4]
  by_cases c5:k.2.2.2.1≤2147483647
  rotate_left
  ·simp [hi,hw,hp,e1,e2,c0,c1,c2,c3,c4,beqI c1,beqI (fun e=>c1 e.symm),(fun e=>c1 e.symm:¬ k.1=k.2.1),(Int.not_lt.2 c2),(Int.not_lt.2 c3),(Int.not_lt.2 c4),c5,Int.not_le.1 c5]
  by_cases c6:k.1∈v.1
  rotate_left
  ·simp [hi,hw,hp,e1,e2,c0,c1,c2,c3,c4,c5,beqI c1,beqI (fun e=>c1 e.symm),(fun e=>c1 e.symm:¬ k.1=k.2.1),(Int.not_lt.2 c2),(Int.not_lt.2 c3),(Int.not_lt.2 c4),(Int.not_lt.2 c5),c6]
  have ho:=(ordK_lt j k).1
  by_cases d:aheadB j k=true
  ·have d':=ho.2 d
   simp [hi,hw,hp,e1,e2,c0,c1,c2,c3,c4,c5,c6,beqI c1,beqI (fun e=>c1 e.symm),(fun e=>c1 e.symm:¬ k.1=k.2.1),(Int.not_lt.2 c2),(Int.not_lt.2 c3),(Int.not_lt.2 c4),(Int.not_lt.2 c5),d,d',Int.not_le.2 d']
  ·have d':¬ ordK j k<0:=fun hh=>d (ho.1 hh)
   have d2:0≤ordK j k:=by omega
   simp [hi,hw,hp,e1,e2,c0,c1,c2,c3,c4,c5,c6,beqI c1,beqI (fun e=>c1 e.symm),(fun e=>c1 e.symm:¬ k.1=k.2.1),(Int.not_lt.2 c2),(Int.not_lt.2 c3),(Int.not_lt.2 c4),(Int.not_lt.2 c5),d,d',d2]
def mayP (v:Vw):Prop:=(∀ i,i<v.1.length→nodeOk v.1 i)∧(∀ i,i<v.2.length→linkOk v i)
open Classical in
theorem check_r (v:Vw) (h1:v.1.length≤900) (h2:v.2.length≤900):view_Check_r v=(true,if mayP v then 0 else 1):=by
 have e0:REnd (view_Check_l0 v ((v.1.length:Int),())) (false,(1:Int),true,()):=by
  unfold view_Check_l0 REnd; simp
 have e1:REnd (view_Check_l1 v ((v.2.length:Int),())) (false,(1:Int),true,()):=by
  unfold view_Check_l1 REnd; simp
 unfold view_Check_r
 rcases loop_find (d:=HL.dflt [.bool,.int .i64,.bool]) (step:=view_Check_l0 v) v.1.length (fun i=>¬ nodeOk v.1 i) (fun _=>(true,(1:Int),false,())) (false,(1:Int),true,()) (fun i hi=>by
   obtain ⟨k1,k2⟩:=check0 v h1 i hi
   exact ⟨k1,fun h=>k2 (Classical.not_not.1 h)⟩) e0 with ⟨i,hi,hp,_,h⟩ | ⟨hp,h⟩
 ·have hm:¬ mayP v:=fun hm=>hp (hm.1 i hi)
  rw [show loopD 0 [.int .i64] [.bool,.int .i64,.bool] (view_Check_l0 v) ((0:Int),())=(true,true,(1:Int),false,()) from h]
  simp [hm]
 ·rw [show loopD 0 [.int .i64] [.bool,.int .i64,.bool] (view_Check_l0 v) ((0:Int),())=(true,false,(1:Int),true,()) from h]
  rcases loop_find (d:=HL.dflt [.bool,.int .i64,.bool]) (step:=view_Check_l1 v) v.2.length (fun i=>¬ linkOk v i) (fun _=>(true,(1:Int),false,())) (false,(1:Int),true,()) (fun i hi=>by
   obtain ⟨k1,k2⟩:=check1 v h1 h2 i hi
   exact ⟨k1,fun h=>k2 (Classical.not_not.1 h)⟩) e1 with ⟨i,hi,hq,_,g⟩ | ⟨hq,g⟩
  ·have hm:¬ mayP v:=fun hm=>hq (hm.2 i hi)
   rw [show loopD 1 [.int .i64] [.bool,.int .i64,.bool] (view_Check_l1 v) ((0:Int),())=(true,true,(1:Int),false,()) from g]
   simp [hm]
  ·have hm:mayP v:=⟨fun i hi=>Classical.not_not.1 (hp i hi),fun i hi=>Classical.not_not.1 (hq i hi)⟩
   rw [show loopD 1 [.int .i64] [.bool,.int .i64,.bool] (view_Check_l1 v) ((0:Int),())=(true,false,(1:Int),true,()) from g]
   simp [hm]
def Sorted (l:List K):Prop:=∀ (i j:Nat) (hij:i<j) (h:j<l.length),aheadB (l[i]'(by omega)) l[j]=true
theorem ahead_trans {a b c:K} (h:aheadB a b=true) (k:aheadB b c=true):aheadB a c=true:=by
 unfold aheadB at*
 simp only [Bool.or_eq_true,Bool.and_eq_true,decide_eq_true_eq] at*
 omega
theorem sorted_of (v:Vw) (h:∀ i,i<v.2.length→linkOk v i):Sorted v.2:=by
 intro i j hij hj
 induction j with
 | zero=>omega
 | succ j ih=>
  have h1:=(h (j+1) hj).2 (by omega)
  simp only [Nat.add_sub_cancel] at h1
  rw [getD_at kd hj,getD_at kd (by omega:j<v.2.length)] at h1
  rcases Nat.lt_or_ge i j with hlt | hge
  ·exact ahead_trans (ih hlt (by omega)) h1
  ·have:i=j:=by omega
   subst this; exact h1
theorem half (i j:Nat) (h:i+j≤2000):IntKind.i64.wrap (iShr .u64 .u64 (IntKind.u64.wrap (IntKind.i64.wrap ((i:Int)+j))) (1:Int))=(((i+j) / 2:Nat):Int):=by
 have e1:IntKind.i64.wrap ((i:Int)+j)=(i:Int)+j:=wrap_i64 (by omega) (by omega)
 have e2:IntKind.u64.wrap ((i:Int)+j)=(i:Int)+j:=by
  unfold IntKind.wrap
  simp [IntKind.bits,IntKind.signed]
  omega
 rw [e1,e2]
 have e3:iShr .u64 .u64 ((i:Int)+j) (1:Int)=(((i+j) / 2:Nat):Int):=by
  show Int.fdiv ((i:Int)+j) (2 ^ (min (Int.toNat (1:Int)) 64))=_
  have:(2:Int) ^ (min (Int.toNat (1:Int)) 64)=2:=by decide
  rw [this,Int.fdiv_eq_ediv_of_nonneg _ (by omega)]
  omega
 rw [e3,wrap_i64 (by omega) (by omega)]
theorem search_r (l:List K) (t:K) (hl:l.length≤900) (hs:Sorted l):∃ i:Nat,i≤l.length∧(∀ k (hk:k<l.length),k<i→ordK l[k] t<0)∧(∀ k (hk:k<l.length),i≤k→¬ ordK l[k] t<0)∧
  slices_BinarySearchFunc_api_Known_r l t ()=(true,(i:Int),decide (i<l.length) && (ordK ((l[i]?).getD kd) t==0)):=by
 have key:=loopR_by (d:=HL.dflt [.bool,.int .i64]) (step:=slices_BinarySearchFunc_api_Known_l0 l t ()) (fun s=>∃ i j:Nat,s=((j:Int),(i:Int),())∧i≤j∧j≤l.length∧(∀ k (hk:k<l.length),k<i→ordK l[k] t<0)∧(∀ k (hk:k<l.length),j≤k→¬ ordK l[k] t<0))
  (fun s=>(s.1 - s.2.1).toNat) (fun r=>∃ i:Nat,r=(true,(i:Int),())∧i≤l.length∧(∀ k (hk:k<l.length),k<i→ordK l[k] t<0)∧(∀ k (hk:k<l.length),i≤k→¬ ordK l[k] t<0)) ((l.length:Int),(0:Int),()) ⟨0,l.length,rfl,by omega,by omega,fun k hk h=>by omega,fun k hk h=>by omega⟩ (by
   rintro _ ⟨i,j,rfl,hij,hj,ha,hb⟩
   unfold slices_BinarySearchFunc_api_Known_l0
   simp only [order_r,half i j (by omega)]
   rcases Nat.lt_or_ge i j with hlt | hge
   ·have hm:(i+j) / 2<l.length:=by omega
    have hg:(l[(i+j) / 2]?).getD ((0:Int),((0:Int),((0:Int),((0:Int),false))))=l[(i+j) / 2]:=getD_at kd hm
    have e1:decide ((i:Int)<(j:Int))=true:=decide_eq_true (by omega)
    simp only [Int.toNat_natCast,hg,e1,cond_true,decT hm]
    have hdiv:∀ a b:Nat,((a:Int)≤b)↔a≤b:=fun a b=>by omega
    refine ⟨by simp; omega,fun _=> ?_,fun h=>by cases h⟩
    by_cases hc:ordK l[(i+j) / 2] t<0
    ·rw [decT hc]
     simp only [cond_true]
     refine ⟨⟨(i+j) / 2+1,j,?_,by omega,hj,fun k hk hki=> ?_,hb⟩,by rw [wrap_i64 (by omega) (by omega)]; omega⟩
     ·rw [wrap_i64 (by omega) (by omega)]; rfl
     ·rcases Nat.lt_or_ge k ((i+j) / 2) with hkm | hkm
      ·have h1:=hs k _ hkm hm
       rw [(ordK_lt _ _).1] at hc ⊢
       exact ahead_trans h1 hc
      ·have:k=(i+j) / 2:=by omega
       subst this; exact hc
    ·rw [decF hc]
     simp only [cond_false]
     refine ⟨⟨i,(i+j) / 2,rfl,by omega,by omega,ha,fun k hk hki=> ?_⟩,by omega⟩
     intro hlt'
     rcases Nat.lt_or_ge ((i+j) / 2) k with hkm | hkm
     ·have h1:=hs _ k hkm hk
      rw [(ordK_lt _ _).1] at hc hlt'
      exact hc (ahead_trans h1 hlt')
     ·have:k=(i+j) / 2:=by omega
      subst this; exact hc hlt'
   ·have:j=i:=by omega
    subst this
    simp
    exact ⟨j,rfl,hj,ha,fun k hk h=>by have:=hb k hk h; omega⟩)
 obtain ⟨k1,i,k2,hi,k3,k4⟩:=key
 refine ⟨i,hi,k3,k4,?_⟩
 have hloop:loopD 0 [.int .i64,.int .i64] [.bool,.int .i64] (slices_BinarySearchFunc_api_Known_l0 l t ()) ((l.length:Int),(0:Int),())=(true,true,(i:Int),()):=Prod.ext k1 k2
 unfold slices_BinarySearchFunc_api_Known_r
 rw [hloop]
 simp only [order_r]
 by_cases hlt:i<l.length
 ·simp [hlt]
 ·simp [hlt]
def mate (a b:K):Bool:=decide (a.1<a.2.1) && ((a.1==b.2.1) && ((a.2.1==b.1) && ((a.2.2.1==b.2.2.1) && (a.2.2.2.1==b.2.2.2.1))))
def joined (a b:K):K:=(a.1,a.2.1,a.2.2.1,a.2.2.2.1,a.2.2.2.2 && b.2.2.2.2)
def pairs (l:List K) (a:K):List K:=l.flatMap fun b=>if mate a b then [joined a b] else []
def inner (l:List K):List K:=l.flatMap (pairs l)
def bodyK (l:List K) (a:K):List K:=if (decide (a.1<a.2.1) || decide (a.1=a.2.1))=true then
  (match l.find? (fun b=>b.1==a.2.1 && b.2.1==a.1) with
   | some b=>if a.2.2.1=b.2.2.1∧a.2.2.2.1=b.2.2.2.1 then [joined a b] else []
   | none=> []) else []
theorem sorted_key {l:List K} (hs:Sorted l) {i j:Nat} (hi:i<l.length) (hj:j<l.length) (h1:l[i].1=l[j].1) (h2:l[i].2.1=l[j].2.1):i=j:=by
 have hn:∀ a b:K,a.1=b.1→a.2.1=b.2.1→aheadB a b=true→False:=fun a b e1 e2 h=>by
  unfold aheadB at h
  simp only [Bool.or_eq_true,Bool.and_eq_true,decide_eq_true_eq] at h
  omega
 rcases Nat.lt_trichotomy i j with h | h | h
 ·exact (hn _ _ h1 h2 (hs i j h hj)).elim
 ·exact h
 ·exact (hn _ _ h1.symm h2.symm (hs j i h hi)).elim
theorem pairs_len {l:List K} (hs:Sorted l) (a:K):(pairs l a).length≤1:=by
 by_cases h:∃ i,∃ hi:i<l.length,mate a l[i]=true
 ·obtain ⟨i,hi,hm⟩:=h
  unfold pairs
  rw [flatMap_one _ l i hi (fun j hj hne=>by
   have:mate a l[j]=false:=by
    cases hmj:mate a l[j] with
    | false=>rfl
    | true=>
     unfold mate at hm hmj
     simp only [Bool.and_eq_true,decide_eq_true_eq,beq_iff_eq] at hm hmj
     exact absurd (sorted_key hs hj hi (by omega) (by omega)) hne
   simp [this])]
  split<;>simp
 ·have:pairs l a= []:=by
   unfold pairs
   apply flatMap_none
   intro b hb
   obtain ⟨i,hi,rfl⟩:=List.getElem_of_mem hb
   have:mate a l[i]=false:=by
    cases hm:mate a l[i] with
    | false=>rfl
    | true=>exact absurd ⟨i,hi,hm⟩ h
   simp [this]
  rw [this]; simp
theorem inner0 (v:Vw) (h2:v.2.length≤900) (hs:Sorted v.2) (hne:∀ i (hi:i<v.2.length),¬ v.2[i].2.1=v.2[i].1) (i:Nat) (hi:i<v.2.length) (acc:List K) (hN:acc.length+(pairs v.2 v.2[i]).length≤1000):
  RGo (view_Inner_l0 v ((i:Int),acc,())) (((i+1:Nat):Int),acc++pairs v.2 v.2[i],()):=by
 unfold view_Inner_l0 RGo
 have hw:=wrap_i64 (x:=(i:Int)+1) (by omega) (by omega)
 have hk:(v.2[i]?).getD ((0:Int),((0:Int),((0:Int),((0:Int),false))))=v.2[i]:=getD_at kd hi
 have hne':=hne i hi
 simp only [Int.toNat_natCast,hk]
 generalize ha:v.2[i]=a at*
 obtain ⟨j,hj,j1,j2,j3⟩:=search_r v.2 (a.2.1,a.1,0,0,false) h2 hs
 simp only [j3,Int.toNat_natCast]
 by_cases hjl:j<v.2.length
 ·have hg:(v.2[j]?).getD ((0:Int),((0:Int),((0:Int),((0:Int),false))))=v.2[j]:=getD_at kd hjl
  have hg':(v.2[j]?).getD kd=v.2[j]:=getD_at kd hjl
  simp only [hg,hg']
  by_cases hf:ordK v.2[j] (a.2.1,a.1,0,0,false)=0
  ·have hkey:=(ordK_lt _ _).2.1 hf
   simp only at hkey
   have hp:pairs v.2 a=if mate a v.2[j] then [joined a v.2[j]] else []:=by
    unfold pairs
    rw [flatMap_one _ v.2 j hjl (fun m hm hne=>by
     have:mate a v.2[m]=false:=by
      cases hmj:mate a v.2[m] with
      | false=>rfl
      | true=>
       unfold mate at hmj
       simp only [Bool.and_eq_true,decide_eq_true_eq,beq_iff_eq] at hmj
       exact absurd (sorted_key hs hm hjl (by omega) (by omega)) hne
     simp [this])]
   rw [hp] at hN ⊢
   generalize v.2[j]=b at*
   unfold mate joined
   obtain ⟨a1,a2,a3,a4,a5⟩:=a
   obtain ⟨b1,b2,b3,b4,b5⟩:=b
   simp only at*
   obtain ⟨rfl,rfl⟩:=hkey
   have hacc:acc.length≤1000:=by omega
   have hfit:(acc.length+1)*40≤140737488355328:=by omega
   by_cases q1:b2>b1
   ·have q1':¬ b2<b1:=by omega
    simp [hi,hw,hjl,hf,q1,q1']
   ·have q1':b2<b1:=by omega
    have q2:¬ b1<b2:=by omega
    by_cases q3:b3=a3
    ·subst q3
     by_cases q4:b4=a4
     ·subst q4
      cases a5<;>simp [hi,hw,hjl,hf,q1',q2,hfit]
     ·have q4':¬ a4=b4:=fun e=>q4 e.symm
      simp [hi,hw,hjl,hf,q1',q2,q4,q4',bneI q4,beqI q4']
    ·have q3':¬ a3=b3:=fun e=>q3 e.symm
     simp [hi,hw,hjl,hf,q1',q2,q3,q3',bneI q3,beqI q3']
  ·have hp:pairs v.2 a= []:=by
    unfold pairs
    apply flatMap_none
    intro b hb
    obtain ⟨m,hm,rfl⟩:=List.getElem_of_mem hb
    have:mate a v.2[m]=false:=by
     cases hmj:mate a v.2[m] with
     | false=>rfl
     | true=>
      unfold mate at hmj
      simp only [Bool.and_eq_true,decide_eq_true_eq,beq_iff_eq] at hmj
      exfalso
      have hz:ordK v.2[m] (a.2.1,a.1,0,0,false)=0:=(ordK_lt _ _).2.2 ⟨hmj.2.2.1.symm,hmj.2.1.symm⟩
      rcases Nat.lt_trichotomy m j with h | h | h
      ·have:=j1 m hm h; omega
      ·subst h; exact hf hz
      ·have h1:=hs j m h hm
       have h3:=j2 j hjl (Nat.le_refl _)
       rw [(ordK_lt _ _).1] at h3
       apply h3
       unfold aheadB at h1 ⊢
       simp only [Bool.or_eq_true,Bool.and_eq_true,decide_eq_true_eq] at h1 ⊢
       omega
    simp [this]
   rw [hp]
   have hbf:(ordK v.2[j] (a.2.1,a.1,0,0,false)==0)=false:=by simpa using hf
   by_cases q1:a.1>a.2.1<;>simp [hi,hw,hbf,q1]
 ·have hp:pairs v.2 a= []:=by
   unfold pairs
   apply flatMap_none
   intro b hb
   obtain ⟨m,hm,rfl⟩:=List.getElem_of_mem hb
   have:mate a v.2[m]=false:=by
    cases hmj:mate a v.2[m] with
    | false=>rfl
    | true=>
     unfold mate at hmj
     simp only [Bool.and_eq_true,decide_eq_true_eq,beq_iff_eq] at hmj
     exfalso
     have hz:ordK v.2[m] (a.2.1,a.1,0,0,false)=0:=(ordK_lt _ _).2.2 ⟨hmj.2.2.1.symm,hmj.2.1.symm⟩
     have:=j1 m hm (by omega)
     omega
   simp [this]
  rw [hp]
  by_cases q1:a.1>a.2.1<;>simp [hi,hw,hjl,q1]
theorem inner_len {l:List K} (hs:Sorted l):(inner l).length≤l.length:=by
 have:=flatMap_length_le (pairs l) 1 l (fun a _=>pairs_len hs a)
 unfold inner; omega
open Classical in
theorem inner_r (v:Vw) (h1:v.1.length≤900) (h2:v.2.length≤900):view_Inner_r v=(true,(if mayP v then 0 else 1),(if mayP v then inner v.2 else [])):=by
 unfold view_Inner_r
 simp only [check_r v h1 h2]
 by_cases hm:mayP v
 ·have hs:=sorted_of v hm.2
  have hne:∀ i (hi:i<v.2.length),¬ v.2[i].2.1=v.2[i].1:=fun i hi=>by
   have:=(hm.2 i hi).1
   rw [getD_at kd hi] at this
   exact this.2.2.1
  have key:=loop_acc (d:=HL.dflt [.bool,(.fl (.row (.prod (.int .i64) (.prod (.int .i64) (.prod (.int .i64) (.prod (.int .i64) .bool))))))]) (step:=view_Inner_l0 v) v.2 (pairs v.2) 1000 (fun acc=>(true,acc,())) (fun i hi acc hN=>inner0 v h2 hs hne i hi acc hN) (fun acc _=>by
   unfold view_Inner_l0 REnd; simp) [] (by have:=inner_len hs; unfold inner at this; rw [List.length_nil]; omega)
  rw [show loopD 0 [.int .i64,(.fl (.row (.prod (.int .i64) (.prod (.int .i64) (.prod (.int .i64) (.prod (.int .i64) .bool))))))] [.bool,(.fl (.row (.prod (.int .i64) (.prod (.int .i64) (.prod (.int .i64) (.prod (.int .i64) .bool))))))] (view_Inner_l0 v) ((0:Int),([]:List (Int × (Int × (Int × (Int × Bool))))),())=(true,true,inner v.2,()) from key]
  simp [hm]
 ·simp [hm]
def outer (v:Vw):List K:=v.2.filter fun k=> !decide (k.2.1∈v.1)
theorem outer1_r (v:Vw) (h1:v.1.length≤900) (k:K):view_Outer_1_r k v=(true,decide (k.2.1∈v.1)):=by
 unfold view_Outer_1_r
 simp only [contains_r v.1 _ (by omega:v.1.length≤1000)]
theorem indexFunc_r (v:Vw) (h1:v.1.length≤900) (l:List K) (hl:l.length≤900):(∃ i:Nat,∃ hi:i<l.length,l[i].2.1∈v.1∧(∀ j (hj:j<i),l[j].2.1 ∉ v.1)∧slices_IndexFunc_api_Known_r () l v=(true,(i:Int)))∨
  ((∀ i (hi:i<l.length),l[i].2.1 ∉ v.1)∧slices_IndexFunc_api_Known_r () l v=(true,-1)):=by
 unfold slices_IndexFunc_api_Known_r
 rcases loop_find (d:=HL.dflt [.bool,.int .i64,.bool]) (step:=slices_IndexFunc_api_Known_l0 () l v) l.length (fun i=>((l[i]?).getD kd).2.1∈v.1) (fun i=>(true,(i:Int),false,())) (false,(l.length:Int),true,()) (fun i hi=>by
   unfold slices_IndexFunc_api_Known_l0 REnd RGo
   have hw:=wrap_i64 (x:=(i:Int)+1) (by omega) (by omega)
   simp only [outer1_r v h1]
   constructor
   ·intro h; simp [hi] at h ⊢; simp [h]
   ·intro h; simp [hi] at h ⊢; simp [h,hw]) (by unfold slices_IndexFunc_api_Known_l0 REnd; simp) with ⟨i,hi,k1,k2,k3⟩ | ⟨k1,k3⟩
 ·left
  refine ⟨i,hi,by rw [getD_at kd hi] at k1; exact k1,fun j hj=> ?_,?_⟩
  ·have:=k2 j hj
   rw [getD_at kd (by omega)] at this; exact this
  ·rw [show loopD 0 [.int .i64] [.bool,.int .i64,.bool] (slices_IndexFunc_api_Known_l0 () l v) ((0:Int),())=(true,true,(i:Int),false,()) from k3]
   simp
 ·right
  refine ⟨fun i hi=>by have:=k1 i hi; rw [getD_at kd hi] at this; exact this,?_⟩
  rw [show loopD 0 [.int .i64] [.bool,.int .i64,.bool] (slices_IndexFunc_api_Known_l0 () l v) ((0:Int),())=(true,false,(l.length:Int),true,()) from k3]
  simp
theorem delete_r (v:Vw) (h1:v.1.length≤900) (l:List K) (hl:l.length≤900):∃ (i:Nat) (L:List K),slices_DeleteFunc_api_Known_r () l v=(true,0,i,L)∧i≤L.length∧L.take i=l.filter (fun k=> !decide (k.2.1∈v.1)):=by
 unfold slices_DeleteFunc_api_Known_r
 rcases indexFunc_r v h1 l hl with ⟨i,hi,k1,k2,k3⟩ | ⟨k1,k3⟩
 ·rw [k3]
  have hi1:((i:Int)== -1)=false:=by simp
  have hw:=wrap_i64 (x:=(i:Int)+1) (by omega) (by omega)
  obtain ⟨i',L,e1,e2,e3,e4⟩:=delete_loop (d:=HL.dflt [.bool,.int .i64,(.fl (.row (.prod (.int .i64) (.prod (.int .i64) (.prod (.int .i64) (.prod (.int .i64) .bool))))))]) (step:=slices_DeleteFunc_api_Known_l0 () l v) (fun k:K=> !decide (k.2.1∈v.1)) l i hi
   (fun j hj=>by have:=k2 j hj; simp [this]) (by simp [k1]) (fun i L=>(true,i,L,())) (fun j i L hj hi hlen=>by
    unfold slices_DeleteFunc_api_Known_l0 RGo
    have hw1:=wrap_i64 (x:=(j:Int)+1) (by omega) (by omega)
    have hw2:=wrap_i64 (x:=(i:Int)+1) (by omega) (by omega)
    have hk:(L[j]?).getD ((0:Int),((0:Int),((0:Int),((0:Int),false))))=L[j]:=getD_at kd hj
    simp only [outer1_r v h1,Int.toNat_natCast,hk]
    by_cases hq:L[j].2.1∈v.1
    ·simp [hj,hi,hq,hw1]
    ·simp [hj,hi,hq,hw1,hw2]) (fun i L hlen hi=>by
    unfold slices_DeleteFunc_api_Known_l0 REnd
    simp [hlen])
  have e1':loopD 0 [.int .i64,.int .i64,(.fl (.row (.prod (.int .i64) (.prod (.int .i64) (.prod (.int .i64) (.prod (.int .i64) .bool))))))] [.bool,.int .i64,(.fl (.row (.prod (.int .i64) (.prod (.int .i64) (.prod (.int .i64) (.prod (.int .i64) .bool))))))] (slices_DeleteFunc_api_Known_l0 () l v) (((i:Int)+1),(i:Int),l,())=(true,true,(i':Int),L,()):=e1
  simp only [hw,e1',hi1]
  refine ⟨i',L.take i'++(List.replicate (L.length - i') kd++L.drop (i'+(List.replicate (L.length - i') kd).length)),?_,?_,?_⟩
  ·have:i'≤L.length:=by omega
   simp [this]
  ·simp; omega
  ·rw [List.take_append_of_le_length (by rw [List.length_take]; omega),List.take_take,Nat.min_self,e4]
 ·rw [k3]
  refine ⟨l.length,l,by simp,Nat.le_refl _,?_⟩
  rw [List.take_length,List.filter_eq_self.2]
  intro a ha
  obtain ⟨j,hj,rfl⟩:=List.getElem_of_mem ha
  simp [k1 j hj]
open Classical in
theorem outer_r (v:Vw) (h1:v.1.length≤900) (h2:v.2.length≤900):∃ (i:Nat) (L:List K),view_Outer_r v=(true,0,i,(if mayP v then 0 else 1),L)∧i≤L.length∧L.take i=(if mayP v then outer v else []):=by
 unfold view_Outer_r
 simp only [check_r v h1 h2]
 by_cases hm:mayP v
 ·obtain ⟨i,L,e1,e2,e3⟩:=delete_r v h1 v.2 h2
  have hc:slices_Clone_api_Known_r v.2=(true,v.2):=by
   unfold slices_Clone_api_Known_r
   rw [decT (by omega)]
  refine ⟨i,L,?_,e2,?_⟩
  ·simp only [hc,e1]; simp [hm]
  ·rw [if_pos hm]; exact e3
 ·exact ⟨0,[],by simp [hm],Nat.le_refl _,by simp [hm]⟩
end Go.Proofs.Ytoaegfcmfkalfaa.T
namespace Go.Tm
set_option linter.unusedVariables false
theorem swap_perm {α:Type} {l:List α} {i j:Nat} {d:α} (hi:i<l.length) (hj:j<l.length):((l.set i ((l[j]?).getD d)).set j ((l[i]?).getD d)).Perm l:=by
 have h1:(l[j]?).getD d=l[j]:=by rw [List.getElem?_eq_getElem hj]; rfl
 have h2:(l[i]?).getD d=l[i]:=by rw [List.getElem?_eq_getElem hi]; rfl
 rw [h1,h2]
 exact List.set_set_perm hi hj
theorem perm_sorted_eq {α:Type} {R:α→α→Prop} (hanti:∀ a b,R a b→R b a→a=b):∀ {l m:List α},l.Perm m→l.Pairwise R→m.Pairwise R→l=m
 | [],m,h,_,_=>by rw [List.nil_perm.1 h]
 | a::l,[],h,_,_=>by have:=h.length_eq; simp at this
 | a::l,b::m,h,hl,hm=>by
  rw [List.pairwise_cons] at hl hm
  have hab:a=b:=by
   have ha:a∈b::m:=h.subset (.head _)
   have hb:b∈a::l:=h.symm.subset (.head _)
   cases ha with
   | head=>rfl
   | tail _ ha=>cases hb with
    | head=>rfl
    | tail _ hb=>exact hanti _ _ (hl.1 b hb) (hm.1 a ha)
  subst hab
  rw [perm_sorted_eq hanti ((List.perm_cons a).1 h) hl.2 hm.2]
structure RP {α:Type} (a b:Nat) (l m:List α):Prop where
 len:m.length=l.length
 out:∀ i,i<a∨b≤i→m[i]? =l[i]?
 perm:m.Perm l
theorem RP.refl {α:Type} (a b:Nat) (l:List α):RP a b l l:=⟨rfl,fun _ _=>rfl,.refl _⟩
theorem RP.trans {α:Type} {a b:Nat} {l m k:List α} (h:RP a b l m) (h':RP a b m k):RP a b l k:=
 ⟨h'.len.trans h.len,fun i hi=>(h'.out i hi).trans (h.out i hi),h'.perm.trans h.perm⟩
theorem RP.mono {α:Type} {a b a' b':Nat} {l m:List α} (h:RP a b l m) (h1:a'≤a) (h2:b≤b'):RP a' b' l m:=
 ⟨h.len,fun i hi=>h.out i (by omega),h.perm⟩
theorem RP.swap {α:Type} {a b i j:Nat} {l:List α} {d:α} (hi:a≤i) (hi':i<b) (hj:a≤j) (hj':j<b) (hb:b≤l.length):RP a b l ((l.set i ((l[j]?).getD d)).set j ((l[i]?).getD d)):=by
 refine ⟨by simp,fun k hk=> ?_,swap_perm (by omega) (by omega)⟩
 rw [List.getElem?_set_ne (by omega),List.getElem?_set_ne (by omega)]
theorem split3 {α:Type} (a b:Nat) (l:List α) (hab:a≤b):l=l.take a++((l.take b).drop a++l.drop b):=by
 have h1:(l.take b).take a=l.take a:=by rw [List.take_take,Nat.min_eq_left hab]
 have h2:l.take b=l.take a++(l.take b).drop a:=by rw [← h1,List.take_append_drop]
 rw [← List.append_assoc,← h2,List.take_append_drop]
theorem RP.mid {α:Type} {a b:Nat} {l m:List α} (h:RP a b l m) (hab:a≤b):((m.take b).drop a).Perm ((l.take b).drop a):=by
 have h1:m.take a=l.take a:=List.ext_getElem? fun i=>by
  rw [List.getElem?_take,List.getElem?_take]
  split
  ·exact h.out i (by omega)
  ·rfl
 have h2:m.drop b=l.drop b:=List.ext_getElem? fun i=>by
  rw [List.getElem?_drop,List.getElem?_drop]
  exact h.out _ (by omega)
 have:=h.perm
 rw [split3 a b m hab,split3 a b l hab,h1,h2] at this
 exact (List.perm_append_right_iff _).1 ((List.perm_append_left_iff _).1 this)
theorem RP.all {α:Type} {a b:Nat} {l m:List α} (h:RP a b l m) {P:α→Prop} (hP:∀ i x,a≤i→i<b→l[i]? =some x→P x):∀ i x,a≤i→i<b→m[i]? =some x→P x:=fun i x h1 h2 hx=>by
 have hm:x∈(m.take b).drop a:=by
  refine List.mem_iff_getElem?.2 ⟨i - a,?_⟩
  rw [List.getElem?_drop,List.getElem?_take,if_pos (by omega),show a+(i - a)=i by omega]; exact hx
 have hl:=(h.mid (by omega)).subset hm
 obtain ⟨k,hk⟩:=List.mem_iff_getElem?.1 hl
 rw [List.getElem?_drop,List.getElem?_take] at hk
 split at hk
 ·exact hP (a+k) x (by omega) (by assumption) hk
 ·cases hk
def InOrder {α:Type} (lt:α→α→Prop) (a b:Nat) (l:List α):Prop:=∀ i j x y,a≤i→i<j→j<b→l[i]? =some x→l[j]? =some y→¬ lt y x
structure InsAt {α:Type} (lt:α→α→Prop) (a b j:Nat) (l:List α):Prop where
 rest:∀ p q x y,a≤p→p<q→q<b→p≠j→q≠j→l[p]? =some x→l[q]? =some y→¬ lt y x
 back:∀ q x y,j<q→q<b→l[j]? =some x→l[q]? =some y→¬ lt y x
theorem InsAt.start {α:Type} {lt:α→α→Prop} {a j:Nat} {l:List α} (h:InOrder lt a j l):InsAt lt a (j+1) j l:=
 ⟨fun p q x y h1 h2 h3 h4 h5 hx hy=>h p q x y h1 h2 (by omega) hx hy,fun q x y h1 h2=>by omega⟩
theorem InsAt.step {α:Type} {lt:α→α→Prop} (hasym:∀ x y,lt x y→¬ lt y x) {a b j:Nat} {l:List α} {x y:α} (h:InsAt lt a b (j+1) l) (ha:a≤j) (hb:j+1<b) (hx:l[j]? =some x) (hy:l[j+1]? =some y) (hlt:lt y x):
  InsAt lt a b j ((l.set (j+1) x).set j y):=by
 have hlen:j+1<l.length:=(List.getElem?_eq_some_iff.1 hy).1
 have h0:((l.set (j+1) x).set j y)[j]? =some y:=List.getElem?_set_self (by simp; omega)
 have h1:((l.set (j+1) x).set j y)[j+1]? =some x:=by rw [List.getElem?_set_ne (by omega),List.getElem?_set_self hlen]
 have h2:∀ k,k≠j→k≠j+1→((l.set (j+1) x).set j y)[k]? =l[k]? :=fun k hk hk'=>by
  rw [List.getElem?_set_ne (by omega),List.getElem?_set_ne (by omega)]
 refine ⟨fun p q u v k1 k2 k3 k4 k5 hu hv=> ?_,fun q u v k1 k2 hu hv=> ?_⟩
 ·by_cases hp:p=j+1
  ·subst hp
   rw [h1] at hu; injection hu with hu; subst hu
   rw [h2 q k5 (by omega)] at hv
   exact h.rest j q x v ha (by omega) k3 (by omega) (by omega) hx hv
  ·rw [h2 p k4 hp] at hu
   by_cases hq:q=j+1
   ·subst hq
    rw [h1] at hv; injection hv with hv; subst hv
    exact h.rest p j u x k1 (by omega) (by omega) hp (by omega) hu hx
   ·rw [h2 q k5 hq] at hv
    exact h.rest p q u v k1 k2 k3 hp hq hu hv
 ·rw [h0] at hu; injection hu with hu; subst hu
  by_cases hq:q=j+1
  ·subst hq
   rw [h1] at hv; injection hv with hv; subst hv
   exact hasym _ _ hlt
  ·rw [h2 q (by omega) hq] at hv
   exact h.back q y v (by omega) k2 hy hv
theorem InsAt.stop {α:Type} {lt:α→α→Prop} (htr:∀ x y z,¬ lt y x→¬ lt z y→¬ lt z x) {a b j:Nat} {l:List α} (h:InsAt lt a b j l) (hb:b≤l.length) (hs:j=a∨∃ x y,a<j∧l[j - 1]? =some x∧l[j]? =some y∧¬ lt y x):InOrder lt a b l:=by
 intro p q u v k1 k2 k3 hu hv
 by_cases hp:p=j
 ·subst hp; exact h.back q u v k2 k3 hu hv
 ·by_cases hq:q=j
  ·subst hq
   rcases hs with hs | ⟨x,y,h1,h2,h3,h4⟩
   ·omega
   ·rw [h3] at hv; injection hv with hv; subst hv
    by_cases hpj:p=q - 1
    ·subst hpj; rw [h2] at hu; injection hu with hu; subst hu; exact h4
    ·exact htr u x y (h.rest p (q - 1) u x k1 (by omega) (by omega) hp (by omega) hu h2) h4
  ·exact h.rest p q u v k1 k2 k3 hp hq hu hv
def Heaped {α:Type} (lt:α→α→Prop) (f lo hi:Nat) (l:List α):Prop:=∀ r c x y,lo≤r→(c=2*r+1∨c=2*r+2)→c<hi→l[f+r]? =some x→l[f+c]? =some y→¬ lt x y
structure SiftAt {α:Type} (lt:α→α→Prop) (f lo hi k:Nat) (l:List α):Prop where
 rest:∀ r c x y,lo≤r→r≠k→(c=2*r+1∨c=2*r+2)→c<hi→l[f+r]? =some x→l[f+c]? =some y→¬ lt x y
 over:∀ r c x y,lo≤r→(k=2*r+1∨k=2*r+2)→(c=2*k+1∨c=2*k+2)→c<hi→l[f+r]? =some x→l[f+c]? =some y→¬ lt x y
theorem SiftAt.start {α:Type} {lt:α→α→Prop} {f lo hi:Nat} {l:List α} (h:Heaped lt f (lo+1) hi l):SiftAt lt f lo hi lo l:=
 ⟨fun r c x y h1 h2 h3 h4 hx hy=>h r c x y (by omega) h3 h4 hx hy,fun r c x y h1 h2=>by omega⟩
theorem SiftAt.stop {α:Type} {lt:α→α→Prop} {f lo hi k:Nat} {l:List α} (h:SiftAt lt f lo hi k l) (hk:∀ c x y,(c=2*k+1∨c=2*k+2)→c<hi→l[f+k]? =some x→l[f+c]? =some y→¬ lt x y):Heaped lt f lo hi l:=by
 intro r c x y h1 h2 h3 hx hy
 by_cases hr:r=k
 ·subst hr; exact hk c x y h2 h3 hx hy
 ·exact h.rest r c x y h1 hr h2 h3 hx hy
theorem SiftAt.step {α:Type} {lt:α→α→Prop} (hasym:∀ x y,lt x y→¬ lt y x) {f lo hi k c:Nat} {l:List α} {x y:α} (h:SiftAt lt f lo hi k l) (hlo:lo≤k) (hc:c=2*k+1∨c=2*k+2) (hch:c<hi) (hx:l[f+k]? =some x) (hy:l[f+c]? =some y) (hlt:lt x y)
  (hmax:∀ d z,(d=2*k+1∨d=2*k+2)→d<hi→l[f+d]? =some z→¬ lt y z):SiftAt lt f lo hi c ((l.set (f+k) y).set (f+c) x):=by
 have hlk:f+k<l.length:=(List.getElem?_eq_some_iff.1 hx).1
 have hlc:f+c<l.length:=(List.getElem?_eq_some_iff.1 hy).1
 have e0:((l.set (f+k) y).set (f+c) x)[f+c]? =some x:=List.getElem?_set_self (by simp; omega)
 have e1:((l.set (f+k) y).set (f+c) x)[f+k]? =some y:=by rw [List.getElem?_set_ne (by omega),List.getElem?_set_self hlk]
 have e2:∀ d,d≠k→d≠c→((l.set (f+k) y).set (f+c) x)[f+d]? =l[f+d]? :=fun d h1 h2=>by
  rw [List.getElem?_set_ne (by omega),List.getElem?_set_ne (by omega)]
 refine ⟨fun r d u v k1 k2 k3 k4 hu hv=> ?_,fun r d u v k1 k2 k3 k4 hu hv=> ?_⟩
 ·by_cases hr:r=k
  ·subst hr
   rw [e1] at hu; injection hu with hu; subst hu
   by_cases hd:d=c
   ·subst hd
    rw [e0] at hv; injection hv with hv; subst hv
    exact hasym _ _ hlt
   ·rw [e2 d (by omega) hd] at hv
    exact hmax d v k3 k4 hv
  ·rw [e2 r hr k2] at hu
   by_cases hd:d=k
   ·subst hd
    rw [e1] at hv; injection hv with hv; subst hv
    exact h.over r c u y k1 k3 hc hch hu hy
   ·rw [e2 d hd (by omega)] at hv
    exact h.rest r d u v k1 hr k3 k4 hu hv
 ·have hr:r=k:=by omega
  subst hr
  rw [e1] at hu; injection hu with hu; subst hu
  rw [e2 d (by omega) (by omega)] at hv
  exact h.rest c d y v (by omega) (by omega) k3 k4 hy hv
theorem heap_top {α:Type} {lt:α→α→Prop} (hirr:∀ x,¬ lt x x) (htr:∀ x y z,¬ lt y x→¬ lt z y→¬ lt z x) {f hi:Nat} {l:List α} (h:Heaped lt f 0 hi l) {x:α} (hx:l[f]? =some x) (hhi:f+hi≤l.length):∀ r y,r<hi→l[f+r]? =some y→¬ lt x y:=by
 intro r
 induction r using Nat.strongRecOn with
 | ind r ih=>
  intro y hr hy
  by_cases h0:r=0
  ·subst h0
   rw [Nat.add_zero,hx] at hy; injection hy with hy; subst hy; exact hirr _
  ·have hp:(r - 1) / 2<r:=by omega
   have hz:l[f+(r - 1) / 2]? =some (l[f+(r - 1) / 2]'(by omega)):=List.getElem?_eq_getElem (by omega)
   exact htr y _ x (h ((r - 1) / 2) r _ y (Nat.zero_le _) (by omega) hr hz hy) (ih _ hp _ (by omega) hz)
theorem scan_up {ρ:Type} {d:ρ} {step:Int × Unit→Bool × Bool × (Int × Unit) × ρ} (n:Nat) (P:Nat→Prop) (R:Nat→ρ) (i0:Nat) (h:i0≤n)
  (hgo:∀ i,i0≤i→i<n→P i→RGo (step ((i:Int),())) (((i+1:Nat):Int),()))
  (hend:∀ i,i0≤i→i≤n→(i=n∨¬ P i)→REnd (step ((i:Int),())) (R i)):
  ∃ i,i0≤i∧i≤n∧(∀ k,i0≤k→k<i→P k)∧(i=n∨¬ P i)∧loopR d step ((i0:Int),())=(true,R i):=by
 have key:∀ k i,i+k=n→i0≤i→(∀ q,i0≤q→q<i→P q)→∃ i',i0≤i'∧i'≤n∧(∀ q,i0≤q→q<i'→P q)∧(i'=n∨¬ P i')∧loopR d step ((i:Int),())=(true,R i'):=by
  intro k
  induction k with
  | zero=>
   intro i hi h0 hP
   have:i=n:=by omega
   subst this
   exact ⟨i,h0,Nat.le_refl _,hP,.inl rfl,(hend i h0 (Nat.le_refl _) (.inl rfl)).end⟩
  | succ k ih=>
   intro i hi h0 hP
   by_cases hp:P i
   ·rw [(hgo i h0 (by omega) hp).go]
    exact ih (i+1) (by omega) (by omega) (fun q h1 h2=>by
     rcases Nat.lt_or_ge q i with hlt | hge
     ·exact hP q h1 hlt
     ·have:q=i:=by omega
      rw [this]; exact hp)
   ·exact ⟨i,h0,by omega,hP,.inr hp,(hend i h0 (by omega) (.inr hp)).end⟩
 exact key (n - i0) i0 (by omega) (Nat.le_refl _) (fun q h1 h2=>by omega)
theorem scan_down {ρ:Type} {d:ρ} {step:Int × Unit→Bool × Bool × (Int × Unit) × ρ} (n:Nat) (P:Nat→Prop) (R:Nat→ρ) (j0:Nat) (h:n≤j0)
  (hgo:∀ j,n≤j→j<j0→P j→RGo (step (((j+1:Nat):Int) - 1,())) ((j:Int) - 1,()))
  (hend:∀ j,n≤j→j≤j0→(j=n∨∃ k,j=k+1∧n≤k∧¬ P k)→REnd (step ((j:Int) - 1,())) (R j)):
  ∃ j,n≤j∧j≤j0∧(∀ k,j≤k→k<j0→P k)∧(j=n∨∃ k,j=k+1∧n≤k∧¬ P k)∧loopR d step ((j0:Int) - 1,())=(true,R j):=by
 have key:∀ k j,n+k=j→j≤j0→(∀ q,j≤q→q<j0→P q)→∃ j',n≤j'∧j'≤j0∧(∀ q,j'≤q→q<j0→P q)∧(j'=n∨∃ k,j'=k+1∧n≤k∧¬ P k)∧loopR d step ((j:Int) - 1,())=(true,R j'):=by
  intro k
  induction k with
  | zero=>
   intro j hj h0 hP
   have:j=n:=by omega
   subst this
   exact ⟨j,Nat.le_refl _,h0,hP,.inl rfl,(hend j (Nat.le_refl _) h0 (.inl rfl)).end⟩
  | succ k ih=>
   intro j hj h0 hP
   obtain ⟨i,rfl⟩:∃ i,j=i+1:=⟨j - 1,by omega⟩
   by_cases hp:P i
   ·rw [(hgo i (by omega) (by omega) hp).go]
    exact ih i (by omega) (by omega) (fun q h1 h2=>by
     rcases Nat.lt_or_ge i q with hlt | hge
     ·exact hP q hlt h2
     ·have:q=i:=by omega
      rw [this]; exact hp)
   ·exact ⟨i+1,by omega,h0,hP,.inr ⟨i,rfl,by omega,hp⟩,(hend (i+1) (by omega) h0 (.inr ⟨i,rfl,by omega,hp⟩)).end⟩
 exact key (j0 - n) j0 (by omega) (Nat.le_refl _) (fun q h1 h2=>by omega)
structure PartAt {α:Type} (P:α→Prop) (a i j b:Nat) (m:List α):Prop where
 left:∀ p x,a≤p→p<i→m[p]? =some x→P x
 right:∀ q x,j≤q→q<b→m[q]? =some x→¬ P x
theorem PartAt.start {α:Type} {P:α→Prop} {a b:Nat} {m:List α} :PartAt P a a b b m:=⟨fun p x h1 h2=>by omega,fun p x h1 h2=>by omega⟩
theorem PartAt.scan {α:Type} {P:α→Prop} {a i j b i' j':Nat} {m:List α} (h:PartAt P a i j b m) (h1:∀ k,i≤k→k<i'→∃ x,m[k]? =some x∧P x) (h2:∀ k,j'≤k→k<j→∃ x,m[k]? =some x∧¬ P x):PartAt P a i' j' b m:=
 ⟨fun p x e1 e2 e3=>by
  rcases Nat.lt_or_ge p i with hlt | hge
  ·exact h.left p x e1 hlt e3
  ·obtain ⟨y,k1,k2⟩:=h1 p hge e2
   rw [k1] at e3; injection e3 with e3; subst e3; exact k2,fun q x e1 e2 e3=>by
  rcases Nat.lt_or_ge q j with hlt | hge
  ·obtain ⟨y,k1,k2⟩:=h2 q e1 hlt
   rw [k1] at e3; injection e3 with e3; subst e3; exact k2
  ·exact h.right q x hge e2 e3⟩
theorem PartAt.swap {α:Type} {P:α→Prop} {a i k b:Nat} {m:List α} {x y:α} (h:PartAt P a i (k+1) b m) (hik:i<k) (hk:k<m.length) (hx:m[i]? =some x) (hy:m[k]? =some y) (hpx:¬ P x) (hpy:P y):PartAt P a (i+1) k b ((m.set i y).set k x):=by
 refine ⟨fun p z e1 e2 e3=> ?_,fun q z e1 e2 e3=> ?_⟩
 ·rw [List.getElem?_set_ne (by omega)] at e3
  by_cases hp:p=i
  ·subst hp
   rw [List.getElem?_set_self (by omega)] at e3
   injection e3 with e3; subst e3; exact hpy
  ·rw [List.getElem?_set_ne (by omega)] at e3
   exact h.left p z e1 (by omega) e3
 ·by_cases hq:q=k
  ·subst hq
   rw [List.getElem?_set_self (by simp; omega)] at e3
   injection e3 with e3; subst e3; exact hpx
  ·rw [List.getElem?_set_ne (by omega),List.getElem?_set_ne (by omega)] at e3
   exact h.right q z (by omega) e2 e3
theorem swap_at {α:Type} {l:List α} {i j:Nat} {x y:α} (hx:l[i]? =some x) (hy:l[j]? =some y) (k:Nat):((l.set i y).set j x)[k]? =if k=j then some x else if k=i then some y else l[k]? :=by
 have hi:i<l.length:=(List.getElem?_eq_some_iff.1 hx).1
 have hj:j<l.length:=(List.getElem?_eq_some_iff.1 hy).1
 by_cases h1:k=j
 ·subst h1; rw [if_pos rfl]; exact List.getElem?_set_self (by simp; omega)
 ·rw [if_neg h1,List.getElem?_set_ne (by omega)]
  by_cases h2:k=i
  ·subst h2; rw [if_pos rfl]; exact List.getElem?_set_self hi
  ·rw [if_neg h2]; exact List.getElem?_set_ne (by omega)
theorem RP.swap' {α:Type} {a b i j:Nat} {l:List α} {x y:α} (hx:l[i]? =some x) (hy:l[j]? =some y) (hi:a≤i) (hi':i<b) (hj:a≤j) (hj':j<b):RP a b l ((l.set i y).set j x):=by
 refine ⟨by simp,fun k hk=> ?_,?_⟩
 ·rw [List.getElem?_set_ne (by omega),List.getElem?_set_ne (by omega)]
 ·have h1:i<l.length:=(List.getElem?_eq_some_iff.1 hx).1
  have h2:j<l.length:=(List.getElem?_eq_some_iff.1 hy).1
  have:=swap_perm (d:=x) h1 h2
  rw [hx,hy] at this
  exact this
theorem InOrder.join {α:Type} {lt:α→α→Prop} {a k b:Nat} {l:List α} (h1:InOrder lt a k l) (h2:InOrder lt k b l) (h3:∀ p q x y,a≤p→p<k→k≤q→q<b→l[p]? =some x→l[q]? =some y→¬ lt y x):InOrder lt a b l:=by
 intro i j x y e1 e2 e3 hx hy
 rcases Nat.lt_or_ge j k with hlt | hge
 ·exact h1 i j x y e1 e2 hlt hx hy
 ·rcases Nat.lt_or_ge i k with hlt | hge'
  ·exact h3 i j x y e1 hlt hge e3 hx hy
  ·exact h2 i j x y hge' e2 e3 hx hy
theorem InOrder.of_out {α:Type} {lt:α→α→Prop} {a b c d:Nat} {l m:List α} (h:InOrder lt a b l) (hr:RP c d l m) (hd:b≤c∨d≤a):InOrder lt a b m:=by
 intro i j x y e1 e2 e3 hx hy
 rw [hr.out i (by omega)] at hx
 rw [hr.out j (by omega)] at hy
 exact h i j x y e1 e2 e3 hx hy
end Go.Tm
namespace Go.Tm
open Go.Vm
set_option linter.unusedVariables false
theorem iterN_cong {σ ρ:Type} {step step':σ→Bool × Bool × σ × ρ} (I:σ→Prop) (h:∀ x,I x→step' x=step x∧((step x).2.1=true→I (step x).2.2.1)):∀ n x,I x→iterN step' n x=iterN step n x
 | 0,_,_=>rfl
 | n+1,x,hI=>by
  obtain ⟨h1,h2⟩:=h x hI
  simp only [iterN,h1]
  generalize step x=z at h2
  obtain ⟨a,b,c,e⟩:=z
  cases a
  ·rfl
  ·cases b
   ·rfl
   ·exact iterN_cong I h n c (h2 rfl)
theorem loopR_cong {σ ρ:Type} {d:ρ} {step step':σ→Bool × Bool × σ × ρ} (I:σ→Prop) (x:σ) (hx:I x) (h:∀ x,I x→step' x=step x∧((step x).2.1=true→I (step x).2.2.1)):loopR d step' x=loopR d step x:=by
 have key:∀ n,iterN step' n x=iterN step n x:=fun n=>iterN_cong I h n x hx
 have aux:∀ f g:Nat→Option ρ,f=g→(open Classical in if h:∃ r n,f n=some r then (true,h.choose) else (false,d))=(open Classical in if h:∃ r n,g n=some r then (true,h.choose) else (false,d)):=fun f g e=>by subst e; rfl
 exact aux (fun n=>iterN step' n x) (fun n=>iterN step n x) (funext key)
theorem recF_any {e:Ent} {step:(HL e.ins→Bool × HL e.outs)→HL e.ins→Bool × HL e.outs} (I:HL e.ins→Prop) (μ:HL e.ins→Nat) (P:HL e.ins→HL e.outs→Prop)
  (h:∀ g g' x,I x→(∀ y,I y→μ y<μ x→(g y).1=true∧P y (g y).2∧g' y=g y)→(step g x).1=true∧P x (step g x).2∧step g' x=step g x) (x:HL e.ins) (hx:I x):(recF e step x).1=true∧P x (recF e step x).2:=by
 have key:∀ k n m x,I x→μ x<k→k≤n→k≤m→(recN (HL.dflt e.outs) step n x).1=true∧P x (recN (HL.dflt e.outs) step n x).2∧recN (HL.dflt e.outs) step m x=recN (HL.dflt e.outs) step n x:=by
  intro k
  induction k with
  | zero=>intro _ _ _ _ hk; omega
  | succ k ih=>
   intro n m x hI hk hn hm
   obtain ⟨n,rfl⟩:∃ n',n=n'+1:=⟨n - 1,by omega⟩
   obtain ⟨m,rfl⟩:∃ m',m=m'+1:=⟨m - 1,by omega⟩
   exact h _ _ x hI fun y hy hlt=>ih n m y hy (by omega) (by omega) (by omega)
 obtain ⟨h1,h2,_⟩:=key (μ x+1) (μ x+1) (μ x+1) x hx (by omega) (Nat.le_refl _) (Nat.le_refl _)
 have:recF e step x=(true,(recN (HL.dflt e.outs) step (μ x+1) x).2):=limR_of (μ x+1) fun m hm=>by
  obtain ⟨_,_,k3⟩:=key (μ x+1) (μ x+1) m x hx (by omega) (Nat.le_refl _) hm
  rw [k3]
  exact Prod.ext h1 rfl
 rw [this]
 exact ⟨rfl,h2⟩
end Go.Tm
namespace Go.Proofs.Ytoaegfcmfkalfaa.T.Q
open Go.Vm Go.Tm Go.Proofs.Ytoaegfcmfkalfaa.T
set_option linter.unusedVariables false
set_option linter.unusedSimpArgs false
abbrev Ed:=K
abbrev lt (a b:Ed):Prop:=ordK a b<0
theorem lt_iff (a b:Ed):lt a b↔(a.1<b.1∨a.1=b.1∧a.2.1<b.2.1):=by
 unfold lt
 rw [(ordK_lt a b).1]
 unfold aheadB
 simp
theorem lt_asym (a b:Ed) (h:lt a b):¬ lt b a:=by rw [lt_iff] at*; omega
theorem le_trans' (a b c:Ed) (h:¬ lt b a) (h':¬ lt c b):¬ lt c a:=by rw [lt_iff] at*; omega
theorem ins_l1 (a:Nat) (b:Int) (L l:List Ed) (i:Nat) (hai:a≤i) (hi:i<l.length) (hbig:l.length≤4611686018427387904) (h:InOrder lt a i l):
  (loopR (HL.dflt [.bool,(.fl (.row (.prod (.int .i64) (.prod (.int .i64) (.prod (.int .i64) (.prod (.int .i64) .bool))))))]) (slices_insertionSortCmpFunc_api_Known_l1 (a:Int) b () L) ((i:Int),l,())).1=true∧
  (fun r:Bool × List Ed × Unit=>RP a (i+1) l r.2.1∧InOrder lt a (i+1) r.2.1) (loopR (HL.dflt [.bool,(.fl (.row (.prod (.int .i64) (.prod (.int .i64) (.prod (.int .i64) (.prod (.int .i64) .bool))))))]) (slices_insertionSortCmpFunc_api_Known_l1 (a:Int) b () L) ((i:Int),l,())).2:=by
 refine loopR_by (d:=HL.dflt [.bool,(.fl (.row (.prod (.int .i64) (.prod (.int .i64) (.prod (.int .i64) (.prod (.int .i64) .bool))))))]) (step:=slices_insertionSortCmpFunc_api_Known_l1 (a:Int) b () L) (fun s:Int × List Ed × Unit=>∃ (j:Nat) (m:List Ed),s=((j:Int),m,())∧a≤j∧j≤i∧RP a (i+1) l m∧InsAt lt a (i+1) j m) (fun s=>s.1.toNat) (fun r:Bool × List Ed × Unit=>RP a (i+1) l r.2.1∧InOrder lt a (i+1) r.2.1) ((i:Int),l,()) ⟨i,l,rfl,hai,Nat.le_refl _,RP.refl _ _ _,InsAt.start h⟩ ?_
 rintro _ ⟨j,m,rfl,h1,h2,h3,h4⟩
 have hlen:=h3.len
 by_cases hj:a<j
 ·obtain ⟨k,rfl⟩:∃ k,j=k+1:=⟨j - 1,by omega⟩
  have hw:IntKind.i64.wrap (((k+1:Nat):Int) - 1)=(k:Int):=by rw [wrap_i64 (by omega) (by omega)]; omega
  have hx:m[k]? =some (m[k]'(by omega)):=List.getElem?_eq_getElem (by omega)
  have hy:m[k+1]? =some (m[k+1]'(by omega)):=List.getElem?_eq_getElem (by omega)
  generalize m[k]'(by omega)=x at hx
  generalize m[k+1]'(by omega)=y at hy
  have g1:(((k+1:Nat):Int)>(a:Int)):=by omega
  have g2:k+1<m.length:=by omega
  have g3:(0:Int)≤((k+1:Nat):Int):=by omega
  have g4:k<m.length:=by omega
  unfold slices_insertionSortCmpFunc_api_Known_l1
  simp only [hw,Int.toNat_natCast,hx,hy,Option.getD_some,order_r,decT g1,decT g2,decT g3,decT g4,decT (show (0:Int)≤(k:Int) by omega),cond_true,Bool.and_true,Bool.true_and,List.length_set]
  by_cases hlt:lt y x
  ·simp only [decT hlt,cond_true,Bool.and_true]
   refine ⟨trivial,fun _=>⟨⟨k,_,rfl,by omega,by omega,h3.trans ?_,h4.step lt_asym (by omega) (by omega) hx hy hlt⟩,?_⟩,fun h=>by cases h⟩
   ·have:=RP.swap (d:=y) (l:=m) (a:=a) (b:=i+1) (i:=k+1) (j:=k) (by omega) (by omega) (by omega) (by omega) (by omega)
    rw [hx,hy] at this
    exact this
   ·show ((k:Int)).toNat<(((k+1:Nat):Int)).toNat
    omega
  ·simp only [decF hlt,cond_false,Bool.and_true]
   exact ⟨trivial,fun h=>(by cases h),fun _=>⟨h3,h4.stop le_trans' (by omega) (.inr ⟨x,y,hj,hx,hy,hlt⟩)⟩⟩
 ·have:j=a:=by omega
  subst this
  have g1:¬ ((j:Int)>(j:Int)):=by omega
  unfold slices_insertionSortCmpFunc_api_Known_l1
  simp only [decF g1,cond_false,Bool.and_true]
  exact ⟨trivial,fun h=>(by cases h),fun _=>⟨h3,h4.stop le_trans' (by omega) (.inl rfl)⟩⟩
theorem ins_r (a b:Nat) (l:List Ed) (hb:b≤l.length) (hab:a≤b) (hbig:l.length≤4611686018427387904):
  ∃ m,slices_insertionSortCmpFunc_api_Known_r (a:Int) (b:Int) () l=(true,m)∧RP a b l m∧InOrder lt a b m:=by
 have key:=loopR_by (d:=HL.dflt [.bool,(.fl (.row (.prod (.int .i64) (.prod (.int .i64) (.prod (.int .i64) (.prod (.int .i64) .bool))))))]) (step:=slices_insertionSortCmpFunc_api_Known_l0 (a:Int) (b:Int) () l)
  (fun s:Int × List Ed × Unit=>∃ (i:Nat) (m:List Ed),s=((i:Int),m,())∧a<i∧(i≤b∨i=a+1)∧RP a b l m∧InOrder lt a i m) (fun s=>b - s.1.toNat) (fun r:Bool × List Ed × Unit=>RP a b l r.2.1∧InOrder lt a b r.2.1)
  (((a+1:Nat):Int),l,()) ⟨a+1,l,rfl,by omega,.inr rfl,RP.refl _ _ _,fun p q x y h1 h2 h3=>by omega⟩ (by
   rintro _ ⟨i,m,rfl,h1,h2,h3,h4⟩
   have hlen:=h3.len
   unfold slices_insertionSortCmpFunc_api_Known_l0
   by_cases hi:i<b
   ·have g1:((i:Int)<(b:Int)):=by omega
    have hw:IntKind.i64.wrap ((i:Int)+1)=((i+1:Nat):Int):=by rw [wrap_i64 (by omega) (by omega)]; omega
    obtain ⟨k1,k2,k3⟩:=ins_l1 a (b:Int) l m i (by omega) (by omega) (by omega) h4
    simp only [decT g1,cond_true,hw,loopD_eq]
    exact ⟨k1,fun _=>⟨⟨i+1,_,rfl,by omega,by omega,h3.trans (k2.mono (Nat.le_refl _) (by omega)),k3⟩,by show b - (((i+1:Nat):Int)).toNat<b - ((i:Int)).toNat; omega⟩,fun h=>by cases h⟩
   ·have g1:¬ ((i:Int)<(b:Int)):=by omega
    simp only [decF g1,cond_false]
    exact ⟨trivial,fun h=>(by cases h),fun _=>⟨h3,fun p q x y e1 e2 e3=>h4 p q x y e1 e2 (by omega)⟩⟩)
 have hw:IntKind.i64.wrap ((a:Int)+1)=((a+1:Nat):Int):=by rw [wrap_i64 (by omega) (by omega)]; omega
 unfold slices_insertionSortCmpFunc_api_Known_r
 simp only [hw,loopD_eq]
 exact ⟨_,Prod.ext key.1 rfl,key.2⟩
theorem rev_r (a b:Nat) (l:List Ed) (hb:b≤l.length) (hab:a≤b) (hbig:l.length≤4611686018427387904):
  ∃ m,slices_reverseRangeCmpFunc_api_Known_r (a:Int) (b:Int) () l=(true,m)∧RP a b l m:=by
 have key:=loopR_by (d:=HL.dflt [.bool,(.fl (.row (.prod (.int .i64) (.prod (.int .i64) (.prod (.int .i64) (.prod (.int .i64) .bool))))))]) (step:=slices_reverseRangeCmpFunc_api_Known_l0 (a:Int) (b:Int) () l)
  (fun s:Int × Int × List Ed × Unit=>∃ (j:Int) (i:Nat) (m:List Ed),s=(j,(i:Int),m,())∧a≤i∧i≤b∧j<b∧ -1≤j∧RP a b l m) (fun s=>(s.1 - s.2.1).toNat) (fun r:Bool × List Ed × Unit=>RP a b l r.2.1)
  ((b:Int) - 1,(a:Int),l,()) ⟨(b:Int) - 1,a,l,rfl,by omega,hab,by omega,by omega,RP.refl _ _ _⟩ (by
   rintro _ ⟨j,i,m,rfl,h1,h2,h3,h4,h5⟩
   have hlen:=h5.len
   unfold slices_reverseRangeCmpFunc_api_Known_l0
   by_cases hi:(i:Int)<j
   ·obtain ⟨k,rfl⟩:∃ k:Nat,j=(k:Int):=⟨j.toNat,by omega⟩
    have hw1:IntKind.i64.wrap ((k:Int) - 1)=(k:Int) - 1:=wrap_i64 (by omega) (by omega)
    have hw2:IntKind.i64.wrap ((i:Int)+1)=((i+1:Nat):Int):=by rw [wrap_i64 (by omega) (by omega)]; omega
    simp only [decT hi,cond_true,hw1,hw2,Int.toNat_natCast,List.length_set,decT (show k<m.length by omega),decT (show i<m.length by omega),decT (show (0:Int)≤(k:Int) by omega),decT (show (0:Int)≤(i:Int) by omega),Bool.and_true]
    refine ⟨trivial,fun _=>⟨⟨(k:Int) - 1,i+1,_,rfl,by omega,by omega,by omega,by omega,h5.trans (RP.swap (by omega) (by omega) (by omega) (by omega) (by omega))⟩,?_⟩,fun h=>by cases h⟩
    show ((k:Int) - 1 - ((i+1:Nat):Int)).toNat<((k:Int) - (i:Int)).toNat
    omega
   ·simp only [decF hi,cond_false]
    exact ⟨trivial,fun h=>(by cases h),fun _=>h5⟩)
 have hw:IntKind.i64.wrap ((b:Int) - 1)=(b:Int) - 1:=wrap_i64 (by omega) (by omega)
 unfold slices_reverseRangeCmpFunc_api_Known_r
 simp only [hw,loopD_eq]
 exact ⟨_,Prod.ext key.1 rfl,key.2⟩
theorem sift_r (f lo hi:Nat) (l:List Ed) (hf:f+hi≤l.length) (hlo:lo≤hi) (hbig:l.length≤1152921504606846976) (h:Heaped lt f (lo+1) hi l):
  ∃ m,slices_siftDownCmpFunc_api_Known_r (lo:Int) (hi:Int) (f:Int) () l=(true,m)∧RP f (f+hi) l m∧Heaped lt f lo hi m:=by
 have key:=loopR_by (d:=HL.dflt [.bool,(.fl (.row (.prod (.int .i64) (.prod (.int .i64) (.prod (.int .i64) (.prod (.int .i64) .bool)))))),.bool,(.fl (.row (.prod (.int .i64) (.prod (.int .i64) (.prod (.int .i64) (.prod (.int .i64) .bool))))))]) (step:=slices_siftDownCmpFunc_api_Known_l0 (lo:Int) (hi:Int) (f:Int) () l)
  (fun s:Int × List Ed × Unit=>∃ (k:Nat) (m:List Ed),s=((k:Int),m,())∧lo≤k∧k≤hi∧RP f (f+hi) l m∧SiftAt lt f lo hi k m) (fun s=>hi - s.1.toNat) (fun r:Bool × List Ed × Bool × List Ed × Unit=>RP f (f+hi) l (cond r.2.2.1 r.2.2.2.1 r.2.1)∧Heaped lt f lo hi (cond r.2.2.1 r.2.2.2.1 r.2.1))
  ((lo:Int),l,()) ⟨lo,l,rfl,Nat.le_refl _,hlo,RP.refl _ _ _,SiftAt.start h⟩ (by
   rintro _ ⟨k,m,rfl,h1,h2,h3,h4⟩
   have hlen:=h3.len
   have w1:IntKind.i64.wrap ((2:Int)*(k:Int))=((2*k:Nat):Int):=by rw [wrap_i64 (by omega) (by omega)]; omega
   have w2:IntKind.i64.wrap (((2*k:Nat):Int)+1)=((2*k+1:Nat):Int):=by rw [wrap_i64 (by omega) (by omega)]; omega
   have w3:IntKind.i64.wrap (((2*k+1:Nat):Int)+1)=((2*k+2:Nat):Int):=by rw [wrap_i64 (by omega) (by omega)]; omega
   have w4:IntKind.i64.wrap ((f:Int)+((2*k+1:Nat):Int))=((f+(2*k+1):Nat):Int):=by rw [wrap_i64 (by omega) (by omega)]; omega
   have w5:IntKind.i64.wrap (((f+(2*k+1):Nat):Int)+1)=((f+(2*k+2):Nat):Int):=by rw [wrap_i64 (by omega) (by omega)]; omega
   have w6:IntKind.i64.wrap ((f:Int)+(k:Int))=((f+k:Nat):Int):=by rw [wrap_i64 (by omega) (by omega)]; omega
   have w7:IntKind.i64.wrap ((f:Int)+((2*k+2:Nat):Int))=((f+(2*k+2):Nat):Int):=by rw [wrap_i64 (by omega) (by omega)]; omega
   have nn:∀ n:Nat,(0:Int)≤(n:Int):=fun n=>by omega
   unfold slices_siftDownCmpFunc_api_Known_l0
   by_cases hc:hi≤2*k+1
   ·have g1:((2*k+1:Nat):Int)≥(hi:Int):=by omega
    simp only [w1,w2,decT g1,Bool.not_true,cond_false,Bool.false_and]
    exact ⟨trivial,fun h=>(by cases h),fun _=>⟨h3,h4.stop fun c x y e1 e2=>by omega⟩⟩
   ·have g1:¬ ((2*k+1:Nat):Int)≥(hi:Int):=by omega
    have hx:m[f+k]? =some (m[f+k]'(by omega)):=List.getElem?_eq_getElem (by omega)
    have hy:m[f+(2*k+1)]? =some (m[f+(2*k+1)]'(by omega)):=List.getElem?_eq_getElem (by omega)
    generalize m[f+k]'(by omega)=x at hx
    generalize m[f+(2*k+1)]'(by omega)=y at hy
    have g2:f+(2*k+1)<m.length:=by omega
    have g3:f+k<m.length:=by omega
    have fin:∀ (c:Nat) (v:Ed),(c=2*k+1∨c=2*k+2)→c<hi→m[f+c]? =some v→(∀ d z,(d=2*k+1∨d=2*k+2)→d<hi→m[f+d]? =some z→¬ lt v z)→
      (lt x v→(RP f (f+hi) l ((m.set (f+k) v).set (f+c) x)∧SiftAt lt f lo hi c ((m.set (f+k) v).set (f+c) x)))∧(¬ lt x v→Heaped lt f lo hi m):=by
     intro c v e1 e2 e3 e4
     refine ⟨fun hlt=>⟨h3.trans ?_,h4.step lt_asym h1 e1 e2 hx e3 hlt e4⟩,fun hlt=>h4.stop fun d u z d1 d2 d3 d4=> ?_⟩
     ·have:=RP.swap (d:=x) (l:=m) (a:=f) (b:=f+hi) (i:=f+k) (j:=f+c) (by omega) (by omega) (by omega) (by omega) (by omega)
      rw [hx,e3] at this
      exact this
     ·rw [hx] at d3; injection d3 with d3; subst d3
      exact le_trans' z v x (e4 d z d1 d2 d4) hlt
    by_cases hc2:2*k+2<hi
    ·have g4:((2*k+2:Nat):Int)<(hi:Int):=by omega
     have hz:m[f+(2*k+2)]? =some (m[f+(2*k+2)]'(by omega)):=List.getElem?_eq_getElem (by omega)
     generalize m[f+(2*k+2)]'(by omega)=z at hz
     have g5:f+(2*k+2)<m.length:=by omega
     by_cases hyz:lt y z
     ·have hfin:=fin (2*k+2) z (.inr rfl) hc2 hz (fun d u d1 d2 d3=>by
       rcases d1 with rfl | rfl
       ·rw [hy] at d3; injection d3 with d3; subst d3; exact lt_asym _ _ hyz
       ·rw [hz] at d3; injection d3 with d3; subst d3; exact fun hh=>lt_asym _ _ hh hh)
      simp only [w1,w2,w3,w4,w5,w6,w7,decF g1,decT g4,Int.toNat_natCast,hx,hy,hz,Option.getD_some,order_r,decT hyz,cond_true,decT (nn _),decT g2,decT g3,decT g5,Bool.not_false,Bool.and_true,Bool.true_and,List.length_set]
      by_cases hlt:lt x z
      ·simp only [decT hlt,Bool.not_true,Bool.not_false,cond_true]
       exact ⟨trivial,fun _=>⟨⟨2*k+2,_,rfl,by omega,by omega,(hfin.1 hlt).1,(hfin.1 hlt).2⟩,by show hi - (((2*k+2:Nat):Int)).toNat<hi - ((k:Int)).toNat; omega⟩,fun h=>by cases h⟩
      ·simp only [decF hlt,Bool.not_true,Bool.not_false,cond_false]
       exact ⟨trivial,fun h=>(by cases h),fun _=>⟨h3,hfin.2 hlt⟩⟩
     ·have hfin:=fin (2*k+1) y (.inl rfl) (by omega) hy (fun d u d1 d2 d3=>by
       rcases d1 with rfl | rfl
       ·rw [hy] at d3; injection d3 with d3; subst d3; exact fun hh=>lt_asym _ _ hh hh
       ·rw [hz] at d3; injection d3 with d3; subst d3; exact hyz)
      simp only [w1,w2,w3,w4,w5,w6,w7,decF g1,decT g4,Int.toNat_natCast,hx,hy,hz,Option.getD_some,order_r,decF hyz,cond_true,cond_false,decT (nn _),decT g2,decT g3,decT g5,Bool.not_false,Bool.and_true,Bool.true_and,List.length_set]
      by_cases hlt:lt x y
      ·simp only [decT hlt,Bool.not_true,Bool.not_false,cond_true]
       exact ⟨trivial,fun _=>⟨⟨2*k+1,_,rfl,by omega,by omega,(hfin.1 hlt).1,(hfin.1 hlt).2⟩,by show hi - (((2*k+1:Nat):Int)).toNat<hi - ((k:Int)).toNat; omega⟩,fun h=>by cases h⟩
      ·simp only [decF hlt,Bool.not_true,Bool.not_false,cond_false]
       exact ⟨trivial,fun h=>(by cases h),fun _=>⟨h3,hfin.2 hlt⟩⟩
    ·have g4:¬ ((2*k+2:Nat):Int)<(hi:Int):=by omega
     have hfin:=fin (2*k+1) y (.inl rfl) (by omega) hy (fun d u d1 d2 d3=>by
      rcases d1 with rfl | rfl
      ·rw [hy] at d3; injection d3 with d3; subst d3; exact fun hh=>lt_asym _ _ hh hh
      ·omega)
     simp only [w1,w2,w3,w4,w5,w6,w7,decF g1,decF g4,Int.toNat_natCast,hx,hy,Option.getD_some,order_r,cond_true,cond_false,decT (nn _),decT g2,decT g3,Bool.not_false,Bool.and_true,Bool.true_and,Bool.false_and,List.length_set]
     by_cases hlt:lt x y
     ·simp only [decT hlt,Bool.not_true,Bool.not_false,cond_true]
      exact ⟨trivial,fun _=>⟨⟨2*k+1,_,rfl,by omega,by omega,(hfin.1 hlt).1,(hfin.1 hlt).2⟩,by show hi - (((2*k+1:Nat):Int)).toNat<hi - ((k:Int)).toNat; omega⟩,fun h=>by cases h⟩
     ·simp only [decF hlt,Bool.not_true,Bool.not_false,cond_false]
      exact ⟨trivial,fun h=>(by cases h),fun _=>⟨h3,hfin.2 hlt⟩⟩)
 unfold slices_siftDownCmpFunc_api_Known_r
 simp only [loopD_eq]
 exact ⟨_,Prod.ext key.1 rfl,key.2⟩
theorem heap_l0 (a b:Nat) (L l:List Ed) (hb:b≤l.length) (hab:a≤b) (hbig:l.length≤1152921504606846976) (i0:Nat) (hi0:i0≤b - a) (h0:Heaped lt a (i0+1) (b - a) l):
  (loopR (HL.dflt [.bool,(.fl (.row (.prod (.int .i64) (.prod (.int .i64) (.prod (.int .i64) (.prod (.int .i64) .bool))))))]) (slices_heapSortCmpFunc_api_Known_l0 (a:Int) (b:Int) () L) ((i0:Int),l,())).1=true∧
  (fun r:Bool × List Ed × Unit=>RP a b l r.2.1∧Heaped lt a 0 (b - a) r.2.1) (loopR (HL.dflt [.bool,(.fl (.row (.prod (.int .i64) (.prod (.int .i64) (.prod (.int .i64) (.prod (.int .i64) .bool))))))]) (slices_heapSortCmpFunc_api_Known_l0 (a:Int) (b:Int) () L) ((i0:Int),l,())).2:=by
 refine loopR_by (d:=HL.dflt [.bool,(.fl (.row (.prod (.int .i64) (.prod (.int .i64) (.prod (.int .i64) (.prod (.int .i64) .bool))))))]) (step:=slices_heapSortCmpFunc_api_Known_l0 (a:Int) (b:Int) () L)
  (fun s:Int × List Ed × Unit=>∃ (i:Int) (m:List Ed),s=(i,m,())∧ -1≤i∧i≤((b - a:Nat):Int)∧RP a b l m∧Heaped lt a (i+1).toNat (b - a) m) (fun s=>(s.1+1).toNat) (fun r:Bool × List Ed × Unit=>RP a b l r.2.1∧Heaped lt a 0 (b - a) r.2.1) ((i0:Int),l,())
  ⟨i0,l,rfl,by omega,by omega,RP.refl _ _ _,by rw [show ((i0:Int)+1).toNat=i0+1 by omega]; exact h0⟩ ?_
 rintro _ ⟨i,m,rfl,h1,h2,h3,h4⟩
 have hlen:=h3.len
 have w1:IntKind.i64.wrap ((b:Int) - (a:Int))=((b - a:Nat):Int):=by rw [wrap_i64 (by omega) (by omega)]; omega
 unfold slices_heapSortCmpFunc_api_Known_l0
 by_cases hi:i≥0
 ·obtain ⟨k,rfl⟩:∃ k:Nat,i=(k:Int):=⟨i.toNat,by omega⟩
  have w2:IntKind.i64.wrap ((k:Int) - 1)=(k:Int) - 1:=wrap_i64 (by omega) (by omega)
  obtain ⟨m',e1,e2,e3⟩:=sift_r a k (b - a) m (by omega) (by omega) (by omega) (by rw [show ((k:Int)+1).toNat=k+1 by omega] at h4; exact h4)
  simp only [decT hi,cond_true,w1,w2,e1]
  refine ⟨trivial,fun _=>⟨⟨(k:Int) - 1,m',rfl,by omega,by omega,h3.trans (e2.mono (Nat.le_refl _) (by omega)),by rw [show ((k:Int) - 1+1).toNat=k by omega]; exact e3⟩,?_⟩,fun h=>by cases h⟩
  show ((k:Int) - 1+1).toNat<((k:Int)+1).toNat
  omega
 ·simp only [decF hi,cond_false]
  exact ⟨trivial,fun h=>(by cases h),fun _=>⟨h3,by rw [show (i+1).toNat=0 by omega] at h4; exact h4⟩⟩
theorem lt_irr (x:Ed):¬ lt x x:=fun h=>lt_asym _ _ h h
structure Out1 (a b n:Nat) (m:List Ed):Prop where
 heap:Heaped lt a 0 n m
 back:InOrder lt (a+n) b m
 cross:∀ p q x y,a≤p→p<a+n→a+n≤q→q<b→m[p]? =some x→m[q]? =some y→¬ lt y x
theorem Out1.step {a b k:Nat} {m m':List Ed} {x0 z:Ed} (h:Out1 a b (k+1) m) (hb:b≤m.length) (hk:a+k<b) (hx:m[a]? =some x0) (hz:m[a+k]? =some z) (hrp:RP a (a+k) ((m.set a z).set (a+k) x0) m') (hhp:Heaped lt a 0 k m'):Out1 a b k m':=by
 have e0:((m.set a z).set (a+k) x0)[a+k]? =some x0:=List.getElem?_set_self (by simp; omega)
 have e1:∀ p,p≠a→p≠a+k→((m.set a z).set (a+k) x0)[p]? =m[p]? :=fun p h1 h2=>by
  rw [List.getElem?_set_ne (by omega),List.getElem?_set_ne (by omega)]
 have hback:∀ q,a+k≤q→m'[q]? =((m.set a z).set (a+k) x0)[q]? :=fun q hq=>hrp.out q (.inr hq)
 have htop:∀ p x,a≤p→p<a+(k+1)→m[p]? =some x→¬ lt x0 x:=fun p x h1 h2 hp=>
  heap_top lt_irr le_trans' h.heap hx (by omega) (p - a) x (by omega) (by rw [show a+(p - a)=p by omega]; exact hp)
 refine ⟨hhp,fun p q x y h1 h2 h3 hp hq=> ?_,fun p q x y h1 h2 h3 h4 hp hq=> ?_⟩
 ·rw [hback p h1] at hp
  rw [hback q (by omega),e1 q (by omega) (by omega)] at hq
  by_cases hpk:p=a+k
  ·subst hpk
   rw [e0] at hp; injection hp with hp; subst hp
   exact h.cross a q x0 y (Nat.le_refl _) (by omega) (by omega) h3 hx hq
  ·rw [e1 p (by omega) hpk] at hp
   exact h.back p q x y (by omega) h2 h3 hp hq
 ·rw [hback q h3] at hq
  refine hrp.all (P:=fun x=>¬ lt y x) (fun p x h1 h2 hp=> ?_) p x h1 h2 hp
  have hm:∃ p',a≤p'∧p'<a+(k+1)∧m[p']? =some x:=by
   by_cases hpa:p=a
   ·subst hpa
    rw [List.getElem?_set_ne (by omega),List.getElem?_set_self (by omega)] at hp
    injection hp with hp; subst hp
    exact ⟨p+k,by omega,by omega,hz⟩
   ·rw [e1 p hpa (by omega)] at hp
    exact ⟨p,h1,by omega,hp⟩
  obtain ⟨p',g1,g2,g3⟩:=hm
  by_cases hqk:q=a+k
  ·subst hqk
   rw [e0] at hq; injection hq with hq; subst hq
   exact htop p' x g1 g2 g3
  ·rw [e1 q (by omega) hqk] at hq
   exact h.cross p' q x y g1 g2 (by omega) h4 g3 hq
theorem heap_l1 (a b:Nat) (L l:List Ed) (hb:b≤l.length) (hab:a≤b) (hbig:l.length≤1152921504606846976) (h0:Heaped lt a 0 (b - a) l):
  (loopR (HL.dflt [.bool,(.fl (.row (.prod (.int .i64) (.prod (.int .i64) (.prod (.int .i64) (.prod (.int .i64) .bool))))))]) (slices_heapSortCmpFunc_api_Known_l1 (a:Int) (b:Int) () L) (((b - a:Nat):Int) - 1,l,())).1=true∧
  (fun r:Bool × List Ed × Unit=>RP a b l r.2.1∧InOrder lt a b r.2.1) (loopR (HL.dflt [.bool,(.fl (.row (.prod (.int .i64) (.prod (.int .i64) (.prod (.int .i64) (.prod (.int .i64) .bool))))))]) (slices_heapSortCmpFunc_api_Known_l1 (a:Int) (b:Int) () L) (((b - a:Nat):Int) - 1,l,())).2:=by
 refine loopR_by (d:=HL.dflt [.bool,(.fl (.row (.prod (.int .i64) (.prod (.int .i64) (.prod (.int .i64) (.prod (.int .i64) .bool))))))]) (step:=slices_heapSortCmpFunc_api_Known_l1 (a:Int) (b:Int) () L)
  (fun s:Int × List Ed × Unit=>∃ (n:Nat) (m:List Ed),s=((n:Int) - 1,m,())∧n≤b - a∧RP a b l m∧Out1 a b n m) (fun s=>(s.1+1).toNat) (fun r:Bool × List Ed × Unit=>RP a b l r.2.1∧InOrder lt a b r.2.1) (((b - a:Nat):Int) - 1,l,())
  ⟨b - a,l,rfl,Nat.le_refl _,RP.refl _ _ _,⟨h0,fun p q x y h1 h2 h3=>by omega,fun p q x y h1 h2 h3 h4=>by omega⟩⟩ ?_
 rintro _ ⟨n,m,rfl,h2,h3,h4⟩
 have hlen:=h3.len
 unfold slices_heapSortCmpFunc_api_Known_l1
 cases n with
 | zero=>
  have g:¬ ((0:Nat):Int) - 1≥0:=by omega
  simp only [decF g,cond_false]
  exact ⟨trivial,fun h=>(by cases h),fun _=>⟨h3,h4.back⟩⟩
 | succ k=>
  have hk:((k+1:Nat):Int) - 1=(k:Int):=by omega
  have g:(k:Int)≥0:=by omega
  have w1:IntKind.i64.wrap ((a:Int)+(k:Int))=((a+k:Nat):Int):=by rw [wrap_i64 (by omega) (by omega)]; omega
  have w2:IntKind.i64.wrap ((k:Int) - 1)=(k:Int) - 1:=wrap_i64 (by omega) (by omega)
  have hx:m[a]? =some (m[a]'(by omega)):=List.getElem?_eq_getElem (by omega)
  have hz:m[a+k]? =some (m[a+k]'(by omega)):=List.getElem?_eq_getElem (by omega)
  generalize m[a]'(by omega)=x0 at hx
  generalize m[a+k]'(by omega)=z at hz
  have hsw:RP a b m ((m.set a z).set (a+k) x0):=by
   have:=RP.swap (d:=z) (l:=m) (a:=a) (b:=b) (i:=a) (j:=a+k) (by omega) (by omega) (by omega) (by omega) (by omega)
   rw [hx,hz] at this
   exact this
  obtain ⟨m',e1,e2,e3⟩:=sift_r a 0 k ((m.set a z).set (a+k) x0) (by simp; omega) (by omega) (by simp; omega) (fun r c x y k1 k2 k3 hr hc=>by
   rw [List.getElem?_set_ne (by omega),List.getElem?_set_ne (by omega)] at hr hc
   exact h4.heap r c x y (by omega) k2 (by omega) hr hc)
  have e1':slices_siftDownCmpFunc_api_Known_r (0:Int) (k:Int) (a:Int) () ((m.set a z).set (a+k) x0)=(true,m'):=e1
  simp only [hk,decT g,cond_true,w1,w2,Int.toNat_natCast,hx,hz,Option.getD_some,e1',decT (show (0:Int)≤((a+k:Nat):Int) by omega),decT (show (0:Int)≤(a:Int) by omega),List.length_set,decT (show a+k<m.length by omega),decT (show a<m.length by omega),Bool.and_true]
  refine ⟨trivial,fun _=>⟨⟨k,m',rfl,by omega,(h3.trans hsw).trans (e2.mono (Nat.le_refl _) (by omega)),h4.step (by omega) (by omega) hx hz e2 e3⟩,?_⟩,fun h=>by cases h⟩
  show ((k:Int) - 1+1).toNat<((k:Int)+1).toNat
  omega
theorem heap_r (a b:Nat) (l:List Ed) (hb:b≤l.length) (hab:a≤b) (hbig:l.length≤1152921504606846976):
  ∃ m,slices_heapSortCmpFunc_api_Known_r (a:Int) (b:Int) () l=(true,m)∧RP a b l m∧InOrder lt a b m:=by
 have w1:IntKind.i64.wrap ((b:Int) - (a:Int))=((b - a:Nat):Int):=by rw [wrap_i64 (by omega) (by omega)]; omega
 have w2:IntKind.i64.wrap (((b - a:Nat):Int) - 1)=((b - a:Nat):Int) - 1:=wrap_i64 (by omega) (by omega)
 have hd:Int.tdiv (((b - a:Nat):Int) - 1) 2=(((b - a - 1) / 2:Nat):Int):=by
  by_cases h0:b - a=0
  ·rw [h0]; rfl
  ·rw [show ((b - a:Nat):Int) - 1=((b - a - 1:Nat):Int) by omega]; rfl
 have w3:IntKind.i64.wrap ((((b - a - 1) / 2:Nat):Int))=(((b - a - 1) / 2:Nat):Int):=wrap_i64 (by omega) (by omega)
 obtain ⟨k1,k2,k3⟩:=heap_l0 a b l l hb hab hbig ((b - a - 1) / 2) (by omega) (fun r c x y h1 h2 h3=>by omega)
 have hlen:=k2.len
 obtain ⟨m1,m2,m3⟩:=heap_l1 a b l _ (by omega) hab (by omega) k3
 unfold slices_heapSortCmpFunc_api_Known_r
 simp only [w1,w2,hd,w3,loopD_eq]
 exact ⟨_,Prod.ext (by show ((((2:Int) !=(0:Int)) && _) && _)=true; rw [k1,m1]; rfl) rfl,k2.trans m2,m3⟩
theorem part_l3 (a:Nat) (b' pv:Int) (L m:List Ed) (i0 J:Nat) (p:Ed) (hp:m[a]? =some p) (hi:i0≤J) (hJ:J≤m.length) (hbig:m.length≤1152921504606846976):
  ∃ i,i0≤i∧i≤J∧(∀ k,i0≤k→k<i→∃ x,m[k]? =some x∧lt x p)∧(i=J∨¬ ∃ x,m[i]? =some x∧lt x p)∧
   loopR (HL.dflt [.bool,.int .i64]) (slices_partitionCmpFunc_api_Known_l3 (a:Int) b' pv () L ((i0:Int),(J:Int) - 1,m,())) ((i0:Int),())=(true,(true,(i:Int),())):=by
 have ha:a<m.length:=(List.getElem?_eq_some_iff.1 hp).1
 refine scan_up J (fun k=>∃ x,m[k]? =some x∧lt x p) (fun i=>(true,(i:Int),())) i0 hi (fun i h1 h2 h3=> ?_) (fun i h1 h2 h3=> ?_)
 ·obtain ⟨x,hx,hlt⟩:=h3
  have g1:(i:Int)≤(J:Int) - 1:=by omega
  have hw:IntKind.i64.wrap ((i:Int)+1)=((i+1:Nat):Int):=by rw [wrap_i64 (by omega) (by omega)]; omega
  unfold slices_partitionCmpFunc_api_Known_l3 RGo
  simp only [decT g1,hw,Int.toNat_natCast,hx,hp,Option.getD_some,order_r,decT hlt,decT ha,decT (show i<m.length by omega),decT (show (0:Int)≤(i:Int) by omega),decT (show (0:Int)≤(a:Int) by omega),cond_true,Bool.and_true,Bool.not_true,and_self]
 ·unfold slices_partitionCmpFunc_api_Known_l3 REnd
  rcases Nat.lt_or_ge i J with hlt | hge
  ·have g1:(i:Int)≤(J:Int) - 1:=by omega
   have hx:m[i]? =some (m[i]'(by omega)):=List.getElem?_eq_getElem (by omega)
   generalize m[i]'(by omega)=x at hx
   have hn:¬ lt x p:=fun hh=>by
    rcases h3 with h3 | h3
    ·omega
    ·exact h3 ⟨x,hx,hh⟩
   simp only [decT g1,Int.toNat_natCast,hx,hp,Option.getD_some,order_r,decF hn,decT ha,decT (show i<m.length by omega),decT (show (0:Int)≤(i:Int) by omega),decT (show (0:Int)≤(a:Int) by omega),cond_true,Bool.and_true,Bool.not_false,and_self]
  ·have g1:¬ (i:Int)≤(J:Int) - 1:=by omega
   simp only [decF g1,cond_false,Bool.and_true,Bool.not_false,and_self]
theorem part_l4 (a:Nat) (b' pv:Int) (L m:List Ed) (i0 i J:Nat) (p:Ed) (hp:m[a]? =some p) (hi:i≤J) (hJ:J≤m.length) (hbig:m.length≤1152921504606846976)
  (h3:loopR (HL.dflt [.bool,.int .i64]) (slices_partitionCmpFunc_api_Known_l3 (a:Int) b' pv () L ((i0:Int),(J:Int) - 1,m,())) ((i0:Int),())=(true,(true,(i:Int),()))):
  ∃ j,i≤j∧j≤J∧(∀ k,j≤k→k<J→¬ ∃ x,m[k]? =some x∧lt x p)∧(j=i∨∃ k,j=k+1∧i≤k∧¬ ¬ ∃ x,m[k]? =some x∧lt x p)∧
   loopR (HL.dflt [.bool,.int .i64]) (slices_partitionCmpFunc_api_Known_l4 (a:Int) b' pv () L ((i0:Int),(J:Int) - 1,m,())) ((J:Int) - 1,())=(true,(true,(j:Int) - 1,())):=by
 have ha:a<m.length:=(List.getElem?_eq_some_iff.1 hp).1
 refine scan_down i (fun k=>¬ ∃ x,m[k]? =some x∧lt x p) (fun j=>(true,(j:Int) - 1,())) J hi (fun j h1 h2 h4=> ?_) (fun j h1 h2 h4=> ?_)
 ·have hx:m[j]? =some (m[j]'(by omega)):=List.getElem?_eq_getElem (by omega)
  generalize m[j]'(by omega)=x at hx
  have hn:¬ lt x p:=fun hh=>h4 ⟨x,hx,hh⟩
  have g1:(i:Int)≤((j+1:Nat):Int) - 1:=by omega
  have hw:IntKind.i64.wrap (((j+1:Nat):Int) - 1 - 1)=(j:Int) - 1:=by rw [wrap_i64 (by omega) (by omega)]; omega
  have hj:(((j+1:Nat):Int) - 1).toNat=j:=by omega
  unfold slices_partitionCmpFunc_api_Known_l4 RGo
  simp only [loopD_eq,h3,decT g1,hw,hj,hx,hp,Int.toNat_natCast,Option.getD_some,order_r,decF hn,decT ha,decT (show j<m.length by omega),decT (show (0:Int)≤((j+1:Nat):Int) - 1 by omega),decT (show (0:Int)≤(a:Int) by omega),cond_true,Bool.and_true,Bool.not_false,Bool.not_true,and_self]
 ·unfold slices_partitionCmpFunc_api_Known_l4 REnd
  rcases h4 with h4 | ⟨k,rfl,h5,h6⟩
  ·have g1:¬ (i:Int)≤(j:Int) - 1:=by omega
   simp only [loopD_eq,h3,decF g1,cond_false,Bool.and_true,Bool.not_false,and_self]
  ·obtain ⟨x,hx,hlt⟩:=Classical.not_not.1 h6
   have g1:(i:Int)≤((k+1:Nat):Int) - 1:=by omega
   have hj:(((k+1:Nat):Int) - 1).toNat=k:=by omega
   simp only [loopD_eq,h3,decT g1,hj,hx,hp,Int.toNat_natCast,Option.getD_some,order_r,decT hlt,decT ha,decT (show k<m.length by omega),decT (show (0:Int)≤((k+1:Nat):Int) - 1 by omega),decT (show (0:Int)≤(a:Int) by omega),cond_true,Bool.and_true,Bool.not_false,Bool.not_true,and_self]
theorem part_l2 (a b:Nat) (b' pv:Int) (L l:List Ed) (i0 J:Nat) (p:Ed) (hi0:a<i0) (hi:i0≤J) (hJ:J≤b) (hb:b≤l.length) (hbig:l.length≤1152921504606846976) (hp:l[a]? =some p) (hpa:PartAt (fun x=>lt x p) (a+1) i0 J b l):
  ∃ (k:Nat) (m:List Ed),loopR (HL.dflt [.bool,.int .i64,(.fl (.row (.prod (.int .i64) (.prod (.int .i64) (.prod (.int .i64) (.prod (.int .i64) .bool))))))]) (slices_partitionCmpFunc_api_Known_l2 (a:Int) b' pv () L) ((i0:Int),(J:Int) - 1,l,())=(true,(true,(k:Int),m,()))∧
   a≤k∧k<b∧RP (a+1) b l m∧PartAt (fun x=>lt x p) (a+1) (k+1) (k+1) b m:=by
 have key:=loopR_by (d:=HL.dflt [.bool,.int .i64,(.fl (.row (.prod (.int .i64) (.prod (.int .i64) (.prod (.int .i64) (.prod (.int .i64) .bool))))))]) (step:=slices_partitionCmpFunc_api_Known_l2 (a:Int) b' pv () L)
  (fun s:Int × Int × List Ed × Unit=>∃ (i j:Nat) (m:List Ed),s=((i:Int),(j:Int) - 1,m,())∧a<i∧i≤j∧j≤b∧RP (a+1) b l m∧PartAt (fun x=>lt x p) (a+1) i j b m) (fun s=>(s.2.1+1 - s.1).toNat)
  (fun r:Bool × Int × List Ed × Unit=>∃ (k:Nat) (m:List Ed),r=(true,(k:Int),m,())∧a≤k∧k<b∧RP (a+1) b l m∧PartAt (fun x=>lt x p) (a+1) (k+1) (k+1) b m)
  ((i0:Int),(J:Int) - 1,l,()) ⟨i0,J,l,rfl,hi0,hi,hJ,RP.refl _ _ _,hpa⟩ (by
   rintro _ ⟨i,j,m,rfl,h1,h2,h3,h4,h5⟩
   have hlen:=h4.len
   have hpm:m[a]? =some p:=by rw [h4.out a (.inl (by omega))]; exact hp
   obtain ⟨i',e1,e2,e3,e4,e5⟩:=part_l3 a b' pv L m i j p hpm h2 (by omega) (by omega)
   obtain ⟨j',f1,f2,f3,f4,f5⟩:=part_l4 a b' pv L m i i' j p hpm e2 (by omega) (by omega) e5
   have hsc:PartAt (fun x=>lt x p) (a+1) i' j' b m:=h5.scan e3 (fun k k1 k2=>by
    have hx:m[k]? =some (m[k]'(by omega)):=List.getElem?_eq_getElem (by omega)
    exact ⟨_,hx,fun hh=>f3 k k1 k2 ⟨_,hx,hh⟩⟩)
   unfold slices_partitionCmpFunc_api_Known_l2
   simp only [loopD_eq,e5,f5]
   rcases f4 with f4 | ⟨k,rfl,f6,f7⟩
   ·subst f4
    have g1:(j':Int)>(j':Int) - 1:=by omega
    simp only [decT g1,Bool.not_true,cond_false,Bool.and_true]
    refine ⟨trivial,fun h=>(by cases h),fun _=>⟨j' - 1,m,?_,by omega,by omega,h4,?_⟩⟩
    ·rw [show ((j' - 1:Nat):Int)=(j':Int) - 1 by omega]
    ·rw [show j' - 1+1=j' by omega]; exact hsc
   ·obtain ⟨y,hy,hlt⟩:=Classical.not_not.1 f7
    have hik:i'<k:=by
     rcases Nat.lt_or_ge i' k with hh | hh
     ·exact hh
     ·have:i'=k:=by omega
      subst this
      rcases e4 with e4 | e4
      ·omega
      ·exact absurd ⟨y,hy,hlt⟩ e4
    have hx:m[i']? =some (m[i']'(by omega)):=List.getElem?_eq_getElem (by omega)
    generalize m[i']'(by omega)=x at hx
    have hn:¬ lt x p:=fun hh=>by
     rcases e4 with e4 | e4
     ·omega
     ·exact e4 ⟨x,hx,hh⟩
    have g1:¬ (i':Int)>((k+1:Nat):Int) - 1:=by omega
    have hw1:IntKind.i64.wrap ((i':Int)+1)=((i'+1:Nat):Int):=by rw [wrap_i64 (by omega) (by omega)]; omega
    have hw2:IntKind.i64.wrap (((k+1:Nat):Int) - 1 - 1)=(k:Int) - 1:=by rw [wrap_i64 (by omega) (by omega)]; omega
    have hk:(((k+1:Nat):Int) - 1).toNat=k:=by omega
    simp only [decF g1,hw1,hw2,hk,hx,hy,Int.toNat_natCast,Option.getD_some,Bool.not_false,cond_true,List.length_set,decT (show k<m.length by omega),decT (show i'<m.length by omega),decT (show (0:Int)≤(i':Int) by omega),decT (show (0:Int)≤((k+1:Nat):Int) - 1 by omega),Bool.and_true]
    exact ⟨trivial,fun _=>⟨⟨i'+1,k,_,rfl,by omega,by omega,by omega,h4.trans (RP.swap' hx hy (by omega) (by omega) (by omega) (by omega)),hsc.swap hik (by omega) hx hy hn hlt⟩,by
     show ((k:Int) - 1+1 - ((i'+1:Nat):Int)).toNat<((j:Int) - 1+1 - (i:Int)).toNat
     omega⟩,fun h=>by cases h⟩)
 obtain ⟨h1,k,m,h2,h3,h4,h5,h6⟩:=key
 exact ⟨k,m,Prod.ext h1 h2,h3,h4,h5,h6⟩
theorem part_l0 (a b pv:Nat) (L:List Ed) (p q:Ed) (hp:L[pv]? =some p) (hq:L[a]? =some q) (hab:a<b) (hb:b≤L.length) (hbig:L.length≤1152921504606846976) (m:List Ed) (hm:m=(L.set a p).set pv q) (hpm:m[a]? =some p):
  ∃ i,a+1≤i∧i≤b∧(∀ k,a+1≤k→k<i→∃ x,m[k]? =some x∧lt x p)∧(i=b∨¬ ∃ x,m[i]? =some x∧lt x p)∧
   loopR (HL.dflt [.bool,.int .i64]) (slices_partitionCmpFunc_api_Known_l0 (a:Int) (b:Int) (pv:Int) () L) (((a+1:Nat):Int),())=(true,(true,(i:Int),())):=by
 have hlen:m.length=L.length:=by rw [hm]; simp
 have hwb:IntKind.i64.wrap ((b:Int) - 1)=(b:Int) - 1:=wrap_i64 (by omega) (by omega)
 refine scan_up b (fun k=>∃ x,m[k]? =some x∧lt x p) (fun i=>(true,(i:Int),())) (a+1) (by omega) (fun i h1 h2 h3=> ?_) (fun i h1 h2 h3=> ?_)
 ·obtain ⟨x,hx,hlt⟩:=h3
  have g1:(i:Int)≤(b:Int) - 1:=by omega
  have hw:IntKind.i64.wrap ((i:Int)+1)=((i+1:Nat):Int):=by rw [wrap_i64 (by omega) (by omega)]; omega
  unfold slices_partitionCmpFunc_api_Known_l0 RGo
  simp only [hwb,Int.toNat_natCast,hp,hq,Option.getD_some,← hm,decT g1,hw,hx,hpm,order_r,decT hlt,decT (show a<m.length by omega),decT (show i<m.length by omega),decT (show (0:Int)≤(i:Int) by omega),decT (show (0:Int)≤(a:Int) by omega),cond_true,Bool.and_true,Bool.not_true,and_self]
 ·unfold slices_partitionCmpFunc_api_Known_l0 REnd
  rcases Nat.lt_or_ge i b with hlt | hge
  ·have g1:(i:Int)≤(b:Int) - 1:=by omega
   have hx:m[i]? =some (m[i]'(by omega)):=List.getElem?_eq_getElem (by omega)
   generalize m[i]'(by omega)=x at hx
   have hn:¬ lt x p:=fun hh=>by
    rcases h3 with h3 | h3
    ·omega
    ·exact h3 ⟨x,hx,hh⟩
   simp only [hwb,Int.toNat_natCast,hp,hq,Option.getD_some,← hm,decT g1,hx,hpm,order_r,decF hn,decT (show a<m.length by omega),decT (show i<m.length by omega),decT (show (0:Int)≤(i:Int) by omega),decT (show (0:Int)≤(a:Int) by omega),cond_true,Bool.and_true,Bool.not_false,and_self]
  ·have g1:¬ (i:Int)≤(b:Int) - 1:=by omega
   simp only [hwb,decF g1,cond_false,Bool.and_true,Bool.not_false,and_self]
theorem part_l1 (a b pv:Nat) (L:List Ed) (p q:Ed) (hp:L[pv]? =some p) (hq:L[a]? =some q) (hab:a<b) (hb:b≤L.length) (hbig:L.length≤1152921504606846976) (m:List Ed) (hm:m=(L.set a p).set pv q) (hpm:m[a]? =some p) (i:Nat) (hi:i≤b)
  (h3:loopR (HL.dflt [.bool,.int .i64]) (slices_partitionCmpFunc_api_Known_l0 (a:Int) (b:Int) (pv:Int) () L) (((a+1:Nat):Int),())=(true,(true,(i:Int),()))):
  ∃ j,i≤j∧j≤b∧(∀ k,j≤k→k<b→¬ ∃ x,m[k]? =some x∧lt x p)∧(j=i∨∃ k,j=k+1∧i≤k∧¬ ¬ ∃ x,m[k]? =some x∧lt x p)∧
   loopR (HL.dflt [.bool,.int .i64]) (slices_partitionCmpFunc_api_Known_l1 (a:Int) (b:Int) (pv:Int) () L) ((b:Int) - 1,())=(true,(true,(j:Int) - 1,())):=by
 have hlen:m.length=L.length:=by rw [hm]; simp
 have hwa:IntKind.i64.wrap ((a:Int)+1)=((a+1:Nat):Int):=by rw [wrap_i64 (by omega) (by omega)]; omega
 refine scan_down i (fun k=>¬ ∃ x,m[k]? =some x∧lt x p) (fun j=>(true,(j:Int) - 1,())) b hi (fun j h1 h2 h4=> ?_) (fun j h1 h2 h4=> ?_)
 ·have hx:m[j]? =some (m[j]'(by omega)):=List.getElem?_eq_getElem (by omega)
  generalize m[j]'(by omega)=x at hx
  have hn:¬ lt x p:=fun hh=>h4 ⟨x,hx,hh⟩
  have g1:(i:Int)≤((j+1:Nat):Int) - 1:=by omega
  have hw:IntKind.i64.wrap (((j+1:Nat):Int) - 1 - 1)=(j:Int) - 1:=by rw [wrap_i64 (by omega) (by omega)]; omega
  have hj:(((j+1:Nat):Int) - 1).toNat=j:=by omega
  unfold slices_partitionCmpFunc_api_Known_l1 RGo
  simp only [loopD_eq,hwa,h3,decT g1,hw,hj,Int.toNat_natCast,hp,hq,Option.getD_some,← hm,hx,hpm,order_r,decF hn,decT (show a<m.length by omega),decT (show j<m.length by omega),decT (show (0:Int)≤((j+1:Nat):Int) - 1 by omega),decT (show (0:Int)≤(a:Int) by omega),cond_true,Bool.and_true,Bool.not_false,Bool.not_true,and_self]
 ·unfold slices_partitionCmpFunc_api_Known_l1 REnd
  rcases h4 with h4 | ⟨k,rfl,h5,h6⟩
  ·have g1:¬ (i:Int)≤(j:Int) - 1:=by omega
   simp only [loopD_eq,hwa,h3,decF g1,cond_false,Bool.and_true,Bool.not_false,and_self]
  ·obtain ⟨x,hx,hlt⟩:=Classical.not_not.1 h6
   have g1:(i:Int)≤((k+1:Nat):Int) - 1:=by omega
   have hj:(((k+1:Nat):Int) - 1).toNat=k:=by omega
   simp only [loopD_eq,hwa,h3,decT g1,hj,Int.toNat_natCast,hp,hq,Option.getD_some,← hm,hx,hpm,order_r,decT hlt,decT (show a<m.length by omega),decT (show k<m.length by omega),decT (show (0:Int)≤((k+1:Nat):Int) - 1 by omega),decT (show (0:Int)≤(a:Int) by omega),cond_true,Bool.and_true,Bool.not_false,Bool.not_true,and_self]
structure Split (a k b:Nat) (m:List Ed) (p:Ed):Prop where
 at':m[k]? =some p
 left:∀ i x,a≤i→i<k→m[i]? =some x→lt x p
 right:∀ i x,k<i→i<b→m[i]? =some x→¬ lt x p
theorem Split.of {a k b:Nat} {m:List Ed} {p y:Ed} (hak:a≤k) (hkb:k<b) (hb:b≤m.length) (hp:m[a]? =some p) (hy:m[k]? =some y) (h:PartAt (fun x=>lt x p) (a+1) (k+1) (k+1) b m):Split a k b ((m.set k p).set a y) p:=by
 have hs:=swap_at hy hp
 refine ⟨?_,fun i x h1 h2 h3=> ?_,fun i x h1 h2 h3=> ?_⟩
 ·rw [hs]
  by_cases hka:k=a
  ·rw [if_pos hka,← hy,hka,hp]
  ·rw [if_neg hka,if_pos rfl]
 ·rw [hs] at h3
  by_cases hia:i=a
  ·rw [if_pos hia] at h3
   injection h3 with h3; subst h3
   exact h.left k y (by omega) (by omega) hy
  ·rw [if_neg hia,if_neg (by omega)] at h3
   exact h.left i x (by omega) (by omega) h3
 ·rw [hs,if_neg (by omega),if_neg (by omega)] at h3
  exact h.right i x (by omega) h2 h3
theorem part_r (a b pv:Nat) (l:List Ed) (h1:a≤pv) (h2:pv<b) (hb:b≤l.length) (hbig:l.length≤1152921504606846976):
  ∃ (k:Nat) (c:Bool) (m:List Ed) (p:Ed),slices_partitionCmpFunc_api_Known_r (a:Int) (b:Int) (pv:Int) () l=(true,((k:Int),c,m))∧a≤k∧k<b∧RP a b l m∧Split a k b m p:=by
 have hp:l[pv]? =some (l[pv]'(by omega)):=List.getElem?_eq_getElem (by omega)
 have hq:l[a]? =some (l[a]'(by omega)):=List.getElem?_eq_getElem (by omega)
 generalize l[pv]'(by omega)=p at hp
 generalize l[a]'(by omega)=q at hq
 generalize hm:(l.set a p).set pv q=m
 have hlen:m.length=l.length:=by rw [← hm]; simp
 have hpm:m[a]? =some p:=by
  rw [← hm,swap_at hq hp]
  by_cases hh:a=pv
  ·rw [if_pos hh]; rw [← hh,hq] at hp; exact hp
  ·rw [if_neg hh,if_pos rfl]
 have hrp:RP a b l m:=by rw [← hm]; exact RP.swap' hq hp (by omega) (by omega) h1 h2
 have hwa:IntKind.i64.wrap ((a:Int)+1)=((a+1:Nat):Int):=by rw [wrap_i64 (by omega) (by omega)]; omega
 have hwb:IntKind.i64.wrap ((b:Int) - 1)=(b:Int) - 1:=wrap_i64 (by omega) (by omega)
 obtain ⟨i',e1,e2,e3,e4,e5⟩:=part_l0 a b pv l p q hp hq (by omega) hb hbig m hm.symm hpm
 obtain ⟨j',f1,f2,f3,f4,f5⟩:=part_l1 a b pv l p q hp hq (by omega) hb hbig m hm.symm hpm i' e2 e5
 have hsc:PartAt (fun x=>lt x p) (a+1) i' j' b m:=PartAt.scan (i:=a+1) (j:=b) ⟨fun p x h1 h2=>by omega,fun p x h1 h2=>by omega⟩ e3 (fun k k1 k2=>by
  have hx:m[k]? =some (m[k]'(by omega)):=List.getElem?_eq_getElem (by omega)
  exact ⟨_,hx,fun hh=>f3 k k1 k2 ⟨_,hx,hh⟩⟩)
 unfold slices_partitionCmpFunc_api_Known_r
 simp only [loopD_eq,hwa,hwb,Int.toNat_natCast,hp,hq,Option.getD_some,hm,e5,f5,hpm]
 have hset:∀ k:Nat,a≤k→k<b→∀ n:List Ed,n.length=l.length→decide (k<n.length)=true:=fun k _ hk n hn=>decT (by omega)
 rcases f4 with f4 | ⟨k,rfl,f6,f7⟩
 ·subst f4
  obtain ⟨k,rfl⟩:∃ k,j'=k+1:=⟨j' - 1,by omega⟩
  have g1:((k+1:Nat):Int)>((k+1:Nat):Int) - 1:=by omega
  have hk:(((k+1:Nat):Int) - 1).toNat=k:=by omega
  have hy:m[k]? =some (m[k]'(by omega)):=List.getElem?_eq_getElem (by omega)
  generalize m[k]'(by omega)=y at hy
  simp only [decT g1,hk,hy,Option.getD_some,Bool.not_true,cond_true,cond_false,List.length_set,decT (show pv<l.length by omega),decT (show a<l.length by omega),decT (show a<m.length by omega),decT (show k<m.length by omega),decT (show (0:Int)≤(pv:Int) by omega),decT (show (0:Int)≤(a:Int) by omega),decT (show (0:Int)≤((k+1:Nat):Int) - 1 by omega),Bool.and_true]
  refine ⟨k,true,(m.set k p).set a y,p,?_,by omega,by omega,hrp.trans (RP.swap' hy hpm (by omega) (by omega) (by omega) (by omega)),Split.of (by omega) (by omega) (by omega) hpm hy hsc⟩
  rw [show ((k+1:Nat):Int) - 1=(k:Int) by omega]
 ·obtain ⟨y,hy,hlt⟩:=Classical.not_not.1 f7
  have hik:i'<k:=by
   rcases Nat.lt_or_ge i' k with hh | hh
   ·exact hh
   ·have:i'=k:=by omega
    subst this
    rcases e4 with e4 | e4
    ·omega
    ·exact absurd ⟨y,hy,hlt⟩ e4
  have hx:m[i']? =some (m[i']'(by omega)):=List.getElem?_eq_getElem (by omega)
  generalize m[i']'(by omega)=x at hx
  have hn:¬ lt x p:=fun hh=>by
   rcases e4 with e4 | e4
   ·omega
   ·exact e4 ⟨x,hx,hh⟩
  have g1:¬ (i':Int)>((k+1:Nat):Int) - 1:=by omega
  have hw1:IntKind.i64.wrap ((i':Int)+1)=((i'+1:Nat):Int):=by rw [wrap_i64 (by omega) (by omega)]; omega
  have hw2:IntKind.i64.wrap (((k+1:Nat):Int) - 1 - 1)=(k:Int) - 1:=by rw [wrap_i64 (by omega) (by omega)]; omega
  have hk:(((k+1:Nat):Int) - 1).toNat=k:=by omega
  have hsw:RP (a+1) b m ((m.set i' y).set k x):=RP.swap' hx hy (by omega) (by omega) (by omega) (by omega)
  have hps:=hsc.swap hik (by omega) hx hy hn hlt
  generalize hm2:(m.set i' y).set k x=m2 at hsw hps
  have hlen2:m2.length=l.length:=by rw [← hm2]; simp [hlen]
  have hp2:m2[a]? =some p:=by rw [hsw.out a (.inl (by omega))]; exact hpm
  obtain ⟨k2,m3,r1,r2,r3,r4,r5⟩:=part_l2 a b (b:Int) (pv:Int) l m2 (i'+1) k p (by omega) (by omega) (by omega) (by omega) (by omega) hp2 hps
  have hlen3:=r4.len
  have hp3:m3[a]? =some p:=by rw [r4.out a (.inl (by omega))]; exact hp2
  have hz:m3[k2]? =some (m3[k2]'(by omega)):=List.getElem?_eq_getElem (by omega)
  generalize m3[k2]'(by omega)=z at hz
  simp only [decF g1,hw1,hw2,hk,hx,hy,Option.getD_some,hm2,r1,hp3,hz,Int.toNat_natCast,Bool.not_false,cond_true,cond_false,List.length_set,decT (show pv<l.length by omega),decT (show a<l.length by omega),decT (show a<m.length by omega),decT (show a<m3.length by omega),decT (show k2<m3.length by omega),decT (show k<m.length by omega),decT (show i'<m.length by omega),decT (show (0:Int)≤(pv:Int) by omega),decT (show (0:Int)≤(k2:Int) by omega),decT (show (0:Int)≤(i':Int) by omega),decT (show (0:Int)≤(a:Int) by omega),decT (show (0:Int)≤((k+1:Nat):Int) - 1 by omega),Bool.and_true]
  exact ⟨k2,false,(m3.set k2 p).set a z,p,rfl,r2,r3,hrp.trans ((hsw.trans r4).mono (by omega) (Nat.le_refl _) |>.trans (RP.swap' hz hp3 (by omega) (by omega) (by omega) (by omega))),Split.of (by omega) (by omega) (by omega) hp3 hz r5⟩
theorem peq_l1 (a:Nat) (b' pv:Int) (L m:List Ed) (i0 J:Nat) (p:Ed) (hp:m[a]? =some p) (hi:i0≤J) (hJ:J≤m.length) (hbig:m.length≤1152921504606846976):
  ∃ i,i0≤i∧i≤J∧(∀ k,i0≤k→k<i→∃ x,m[k]? =some x∧¬ lt p x)∧(i=J∨¬ ∃ x,m[i]? =some x∧¬ lt p x)∧
   loopR (HL.dflt [.bool,.int .i64]) (slices_partitionEqualCmpFunc_api_Known_l1 (a:Int) b' pv () L ((i0:Int),(J:Int) - 1,m,())) ((i0:Int),())=(true,(true,(i:Int),())):=by
 have ha:a<m.length:=(List.getElem?_eq_some_iff.1 hp).1
 refine scan_up J (fun k=>∃ x,m[k]? =some x∧¬ lt p x) (fun i=>(true,(i:Int),())) i0 hi (fun i h1 h2 h3=> ?_) (fun i h1 h2 h3=> ?_)
 ·obtain ⟨x,hx,hlt⟩:=h3
  have g1:(i:Int)≤(J:Int) - 1:=by omega
  have hw:IntKind.i64.wrap ((i:Int)+1)=((i+1:Nat):Int):=by rw [wrap_i64 (by omega) (by omega)]; omega
  unfold slices_partitionEqualCmpFunc_api_Known_l1 RGo
  simp only [decT g1,hw,Int.toNat_natCast,hx,hp,Option.getD_some,order_r,decF hlt,decT ha,decT (show i<m.length by omega),decT (show (0:Int)≤(i:Int) by omega),decT (show (0:Int)≤(a:Int) by omega),cond_true,Bool.and_true,Bool.not_true,Bool.not_false,and_self]
 ·unfold slices_partitionEqualCmpFunc_api_Known_l1 REnd
  rcases Nat.lt_or_ge i J with hlt | hge
  ·have g1:(i:Int)≤(J:Int) - 1:=by omega
   have hx:m[i]? =some (m[i]'(by omega)):=List.getElem?_eq_getElem (by omega)
   generalize m[i]'(by omega)=x at hx
   have hn:lt p x:=by
    rcases h3 with h3 | h3
    ·omega
    ·exact Classical.not_not.1 fun hh=>h3 ⟨x,hx,hh⟩
   simp only [decT g1,Int.toNat_natCast,hx,hp,Option.getD_some,order_r,decT hn,decT ha,decT (show i<m.length by omega),decT (show (0:Int)≤(i:Int) by omega),decT (show (0:Int)≤(a:Int) by omega),cond_true,Bool.and_true,Bool.not_false,Bool.not_true,and_self]
  ·have g1:¬ (i:Int)≤(J:Int) - 1:=by omega
   simp only [decF g1,cond_false,Bool.and_true,Bool.not_false,and_self]
theorem peq_l2 (a:Nat) (b' pv:Int) (L m:List Ed) (i0 i J:Nat) (p:Ed) (hp:m[a]? =some p) (hi:i≤J) (hJ:J≤m.length) (hbig:m.length≤1152921504606846976)
  (h3:loopR (HL.dflt [.bool,.int .i64]) (slices_partitionEqualCmpFunc_api_Known_l1 (a:Int) b' pv () L ((i0:Int),(J:Int) - 1,m,())) ((i0:Int),())=(true,(true,(i:Int),()))):
  ∃ j,i≤j∧j≤J∧(∀ k,j≤k→k<J→¬ ∃ x,m[k]? =some x∧¬ lt p x)∧(j=i∨∃ k,j=k+1∧i≤k∧¬ ¬ ∃ x,m[k]? =some x∧¬ lt p x)∧
   loopR (HL.dflt [.bool,.int .i64]) (slices_partitionEqualCmpFunc_api_Known_l2 (a:Int) b' pv () L ((i0:Int),(J:Int) - 1,m,())) ((J:Int) - 1,())=(true,(true,(j:Int) - 1,())):=by
 have ha:a<m.length:=(List.getElem?_eq_some_iff.1 hp).1
 refine scan_down i (fun k=>¬ ∃ x,m[k]? =some x∧¬ lt p x) (fun j=>(true,(j:Int) - 1,())) J hi (fun j h1 h2 h4=> ?_) (fun j h1 h2 h4=> ?_)
 ·have hx:m[j]? =some (m[j]'(by omega)):=List.getElem?_eq_getElem (by omega)
  generalize m[j]'(by omega)=x at hx
  have hn:lt p x:=Classical.not_not.1 fun hh=>h4 ⟨x,hx,hh⟩
  have g1:(i:Int)≤((j+1:Nat):Int) - 1:=by omega
  have hw:IntKind.i64.wrap (((j+1:Nat):Int) - 1 - 1)=(j:Int) - 1:=by rw [wrap_i64 (by omega) (by omega)]; omega
  have hj:(((j+1:Nat):Int) - 1).toNat=j:=by omega
  unfold slices_partitionEqualCmpFunc_api_Known_l2 RGo
  simp only [loopD_eq,h3,decT g1,hw,hj,hx,hp,Int.toNat_natCast,Option.getD_some,order_r,decT hn,decT ha,decT (show j<m.length by omega),decT (show (0:Int)≤((j+1:Nat):Int) - 1 by omega),decT (show (0:Int)≤(a:Int) by omega),cond_true,Bool.and_true,Bool.not_false,Bool.not_true,and_self]
 ·unfold slices_partitionEqualCmpFunc_api_Known_l2 REnd
  rcases h4 with h4 | ⟨k,rfl,h5,h6⟩
  ·have g1:¬ (i:Int)≤(j:Int) - 1:=by omega
   simp only [loopD_eq,h3,decF g1,cond_false,Bool.and_true,Bool.not_false,and_self]
  ·obtain ⟨x,hx,hlt⟩:=Classical.not_not.1 h6
   have g1:(i:Int)≤((k+1:Nat):Int) - 1:=by omega
   have hj:(((k+1:Nat):Int) - 1).toNat=k:=by omega
   simp only [loopD_eq,h3,decT g1,hj,hx,hp,Int.toNat_natCast,Option.getD_some,order_r,decF hlt,decT ha,decT (show k<m.length by omega),decT (show (0:Int)≤((k+1:Nat):Int) - 1 by omega),decT (show (0:Int)≤(a:Int) by omega),cond_true,Bool.and_true,Bool.not_false,Bool.not_true,and_self]
theorem peq_l0 (a b:Nat) (b' pv:Int) (L l:List Ed) (p:Ed) (hab:a<b) (hb:b≤l.length) (hbig:l.length≤1152921504606846976) (hp:l[a]? =some p):
  ∃ (k:Nat) (m:List Ed),loopR (HL.dflt [.bool,.int .i64,(.fl (.row (.prod (.int .i64) (.prod (.int .i64) (.prod (.int .i64) (.prod (.int .i64) .bool))))))]) (slices_partitionEqualCmpFunc_api_Known_l0 (a:Int) b' pv () L) (((a+1:Nat):Int),(b:Int) - 1,l,())=(true,(true,(k:Int),m,()))∧
   a<k∧k≤b∧RP (a+1) b l m∧PartAt (fun x=>¬ lt p x) (a+1) k k b m:=by
 have key:=loopR_by (d:=HL.dflt [.bool,.int .i64,(.fl (.row (.prod (.int .i64) (.prod (.int .i64) (.prod (.int .i64) (.prod (.int .i64) .bool))))))]) (step:=slices_partitionEqualCmpFunc_api_Known_l0 (a:Int) b' pv () L)
  (fun s:Int × Int × List Ed × Unit=>∃ (i j:Nat) (m:List Ed),s=((i:Int),(j:Int) - 1,m,())∧a<i∧i≤j∧j≤b∧RP (a+1) b l m∧PartAt (fun x=>¬ lt p x) (a+1) i j b m) (fun s=>(s.2.1+1 - s.1).toNat)
  (fun r:Bool × Int × List Ed × Unit=>∃ (k:Nat) (m:List Ed),r=(true,(k:Int),m,())∧a<k∧k≤b∧RP (a+1) b l m∧PartAt (fun x=>¬ lt p x) (a+1) k k b m)
  (((a+1:Nat):Int),(b:Int) - 1,l,()) ⟨a+1,b,l,rfl,by omega,by omega,by omega,RP.refl _ _ _,⟨fun p x h1 h2=>by omega,fun p x h1 h2=>by omega⟩⟩ (by
   rintro _ ⟨i,j,m,rfl,h1,h2,h3,h4,h5⟩
   have hlen:=h4.len
   have hpm:m[a]? =some p:=by rw [h4.out a (.inl (by omega))]; exact hp
   obtain ⟨i',e1,e2,e3,e4,e5⟩:=peq_l1 a b' pv L m i j p hpm h2 (by omega) (by omega)
   obtain ⟨j',f1,f2,f3,f4,f5⟩:=peq_l2 a b' pv L m i i' j p hpm e2 (by omega) (by omega) e5
   have hsc:PartAt (fun x=>¬ lt p x) (a+1) i' j' b m:=h5.scan e3 (fun k k1 k2=>by
    have hx:m[k]? =some (m[k]'(by omega)):=List.getElem?_eq_getElem (by omega)
    exact ⟨_,hx,fun hh=>f3 k k1 k2 ⟨_,hx,hh⟩⟩)
   unfold slices_partitionEqualCmpFunc_api_Known_l0
   simp only [loopD_eq,e5,f5]
   rcases f4 with f4 | ⟨k,rfl,f6,f7⟩
   ·subst f4
    have g1:(j':Int)>(j':Int) - 1:=by omega
    simp only [decT g1,Bool.not_true,cond_false,Bool.and_true]
    exact ⟨trivial,fun h=>(by cases h),fun _=>⟨j',m,rfl,by omega,by omega,h4,hsc⟩⟩
   ·obtain ⟨y,hy,hlt⟩:=Classical.not_not.1 f7
    have hik:i'<k:=by
     rcases Nat.lt_or_ge i' k with hh | hh
     ·exact hh
     ·have:i'=k:=by omega
      subst this
      rcases e4 with e4 | e4
      ·omega
      ·exact absurd ⟨y,hy,hlt⟩ e4
    have hx:m[i']? =some (m[i']'(by omega)):=List.getElem?_eq_getElem (by omega)
    generalize m[i']'(by omega)=x at hx
    have hn:¬ ¬ lt p x:=fun hh=>by
     rcases e4 with e4 | e4
     ·omega
     ·exact e4 ⟨x,hx,hh⟩
    have g1:¬ (i':Int)>((k+1:Nat):Int) - 1:=by omega
    have hw1:IntKind.i64.wrap ((i':Int)+1)=((i'+1:Nat):Int):=by rw [wrap_i64 (by omega) (by omega)]; omega
    have hw2:IntKind.i64.wrap (((k+1:Nat):Int) - 1 - 1)=(k:Int) - 1:=by rw [wrap_i64 (by omega) (by omega)]; omega
    have hk:(((k+1:Nat):Int) - 1).toNat=k:=by omega
    simp only [decF g1,hw1,hw2,hk,hx,hy,Int.toNat_natCast,Option.getD_some,Bool.not_false,cond_true,List.length_set,decT (show k<m.length by omega),decT (show i'<m.length by omega),decT (show (0:Int)≤(i':Int) by omega),decT (show (0:Int)≤((k+1:Nat):Int) - 1 by omega),Bool.and_true]
    exact ⟨trivial,fun _=>⟨⟨i'+1,k,_,rfl,by omega,by omega,by omega,h4.trans (RP.swap' hx hy (by omega) (by omega) (by omega) (by omega)),hsc.swap hik (by omega) hx hy hn hlt⟩,by
     show ((k:Int) - 1+1 - ((i'+1:Nat):Int)).toNat<((j:Int) - 1+1 - (i:Int)).toNat
     omega⟩,fun h=>by cases h⟩)
 obtain ⟨h1,k,m,h2,h3,h4,h5,h6⟩:=key
 exact ⟨k,m,Prod.ext h1 h2,h3,h4,h5,h6⟩
theorem peq_r (a b pv:Nat) (l:List Ed) (h1:a≤pv) (h2:pv<b) (hb:b≤l.length) (hbig:l.length≤1152921504606846976) (p:Ed) (hp:l[pv]? =some p):
  ∃ (k:Nat) (m:List Ed),slices_partitionEqualCmpFunc_api_Known_r (a:Int) (b:Int) (pv:Int) () l=(true,((k:Int),m))∧a<k∧k≤b∧RP a b l m∧PartAt (fun x=>¬ lt p x) a k k b m:=by
 have hq:l[a]? =some (l[a]'(by omega)):=List.getElem?_eq_getElem (by omega)
 generalize l[a]'(by omega)=q at hq
 generalize hm:(l.set a p).set pv q=m
 have hlen:m.length=l.length:=by rw [← hm]; simp
 have hpm:m[a]? =some p:=by
  rw [← hm,swap_at hq hp]
  by_cases hh:a=pv
  ·rw [if_pos hh]; rw [← hh,hq] at hp; exact hp
  ·rw [if_neg hh,if_pos rfl]
 have hrp:RP a b l m:=by rw [← hm]; exact RP.swap' hq hp (by omega) (by omega) h1 h2
 have hwa:IntKind.i64.wrap ((a:Int)+1)=((a+1:Nat):Int):=by rw [wrap_i64 (by omega) (by omega)]; omega
 have hwb:IntKind.i64.wrap ((b:Int) - 1)=(b:Int) - 1:=wrap_i64 (by omega) (by omega)
 obtain ⟨k,m2,e1,e2,e3,e4,e5⟩:=peq_l0 a b (b:Int) (pv:Int) l m p (by omega) (by omega) (by omega) hpm
 unfold slices_partitionEqualCmpFunc_api_Known_r
 simp only [loopD_eq,hwa,hwb,Int.toNat_natCast,hp,hq,Option.getD_some,hm,e1,List.length_set,decT (show pv<l.length by omega),decT (show a<l.length by omega),decT (show (0:Int)≤(pv:Int) by omega),decT (show (0:Int)≤(a:Int) by omega),Bool.and_true]
 refine ⟨k,m2,rfl,e2,e3,hrp.trans (e4.mono (by omega) (Nat.le_refl _)),⟨fun i x k1 k2 hx=> ?_,e5.right⟩⟩
 by_cases hia:i=a
 ·subst hia
  rw [e4.out i (.inl (by omega)),hpm] at hx
  injection hx with hx; subst hx
  exact lt_irr _
 ·exact e5.left i x (by omega) k2 hx
def Low (a b:Nat) (l:List Ed):Prop:=a=0∨∀ i x z,a≤i→i<b→l[i]? =some x→l[a - 1]? =some z→¬ lt x z
theorem Low.of {a b:Nat} {l m:List Ed} (h:Low a b l) (hr:RP a b l m):Low a b m:=by
 rcases h with h | h
 ·exact .inl h
 ·by_cases h0:a=0
  ·exact .inl h0
  ·refine .inr fun i x z h1 h2 h3 h4=> ?_
   rw [hr.out (a - 1) (.inl (by omega))] at h4
   exact hr.all (P:=fun x=>¬ lt x z) (fun j y k1 k2 k3=>h j y z k1 k2 k3 h4) i x h1 h2 h3
theorem pis_l1 (a':Int) (b:Nat) (L m:List Ed) (i0:Nat) (c:Int) (h0:1≤i0) (hi:i0≤b) (hb:b≤m.length) (hbig:m.length≤1152921504606846976):
  ∃ i,i0≤i∧i≤b∧(∀ k,i0≤k→k<i→∃ x y,m[k - 1]? =some x∧m[k]? =some y∧¬ lt y x)∧(i=b∨¬ ∃ x y,m[i - 1]? =some x∧m[i]? =some y∧¬ lt y x)∧
   loopR (HL.dflt [.bool,.int .i64]) (slices_partialInsertionSortCmpFunc_api_Known_l1 a' (b:Int) () L ((i0:Int),c,m,())) ((i0:Int),())=(true,(true,(i:Int),())):=by
 refine scan_up b (fun k=>∃ x y,m[k - 1]? =some x∧m[k]? =some y∧¬ lt y x) (fun i=>(true,(i:Int),())) i0 hi (fun i h1 h2 h3=> ?_) (fun i h1 h2 h3=> ?_)
 ·obtain ⟨x,y,hx,hy,hlt⟩:=h3
  have g1:(i:Int)<(b:Int):=by omega
  have hw:IntKind.i64.wrap ((i:Int)+1)=((i+1:Nat):Int):=by rw [wrap_i64 (by omega) (by omega)]; omega
  have hw2:IntKind.i64.wrap ((i:Int) - 1)=((i - 1:Nat):Int):=by rw [wrap_i64 (by omega) (by omega)]; omega
  unfold slices_partialInsertionSortCmpFunc_api_Known_l1 RGo
  simp only [decT g1,hw,hw2,Int.toNat_natCast,hx,hy,Option.getD_some,order_r,decF hlt,decT (show i<m.length by omega),decT (show i - 1<m.length by omega),decT (show (0:Int)≤(i:Int) by omega),decT (show (0:Int)≤((i - 1:Nat):Int) by omega),cond_true,Bool.and_true,Bool.not_true,Bool.not_false,and_self]
 ·unfold slices_partialInsertionSortCmpFunc_api_Known_l1 REnd
  rcases Nat.lt_or_ge i b with hlt | hge
  ·have g1:(i:Int)<(b:Int):=by omega
   have hx:m[i - 1]? =some (m[i - 1]'(by omega)):=List.getElem?_eq_getElem (by omega)
   generalize m[i - 1]'(by omega)=x at hx
   have hy:m[i]? =some (m[i]'(by omega)):=List.getElem?_eq_getElem (by omega)
   generalize m[i]'(by omega)=y at hy
   have hn:lt y x:=by
    rcases h3 with h3 | h3
    ·omega
    ·exact Classical.not_not.1 fun hh=>h3 ⟨x,y,hx,hy,hh⟩
   have hw2:IntKind.i64.wrap ((i:Int) - 1)=((i - 1:Nat):Int):=by rw [wrap_i64 (by omega) (by omega)]; omega
   simp only [decT g1,hw2,Int.toNat_natCast,hx,hy,Option.getD_some,order_r,decT hn,decT (show i<m.length by omega),decT (show i - 1<m.length by omega),decT (show (0:Int)≤(i:Int) by omega),decT (show (0:Int)≤((i - 1:Nat):Int) by omega),cond_true,Bool.and_true,Bool.not_true,Bool.not_false,and_self]
  ·have g1:¬ (i:Int)<(b:Int):=by omega
   simp only [decF g1,cond_false,Bool.and_true,Bool.not_false,and_self]
theorem pis_l2 (a b i:Nat) (b':Int) (L l:List Ed) (hai:a+1≤i) (hib:i≤b) (hb:b≤l.length) (hbig:l.length≤1152921504606846976) (hlow:Low a b l) (h:InOrder lt a (i - 1) l):
  ∃ m,loopR (HL.dflt [.bool,(.fl (.row (.prod (.int .i64) (.prod (.int .i64) (.prod (.int .i64) (.prod (.int .i64) .bool))))))]) (slices_partialInsertionSortCmpFunc_api_Known_l2 (a:Int) b' () L) (((i - 1:Nat):Int),l,())=(true,(true,m,()))∧RP a i l m∧InOrder lt a i m:=by
 have key:=loopR_by (d:=HL.dflt [.bool,(.fl (.row (.prod (.int .i64) (.prod (.int .i64) (.prod (.int .i64) (.prod (.int .i64) .bool))))))]) (step:=slices_partialInsertionSortCmpFunc_api_Known_l2 (a:Int) b' () L)
  (fun s:Int × List Ed × Unit=>∃ (j:Nat) (m:List Ed),s=((j:Int),m,())∧a≤j∧j<i∧RP a i l m∧InsAt lt a i j m) (fun s=>s.1.toNat)
  (fun r:Bool × List Ed × Unit=>∃ m,r=(true,m,())∧RP a i l m∧InOrder lt a i m) (((i - 1:Nat):Int),l,())
  ⟨i - 1,l,rfl,by omega,by omega,RP.refl _ _ _,by have:=InsAt.start h; rw [show i - 1+1=i by omega] at this; exact this⟩ (by
   rintro _ ⟨j,m,rfl,h1,h2,h3,h4⟩
   have hlen:=h3.len
   have hlow2:=hlow.of (h3.mono (Nat.le_refl _) hib)
   unfold slices_partialInsertionSortCmpFunc_api_Known_l2
   cases j with
   | zero=>
    have g1:¬ ((0:Nat):Int)≥1:=by omega
    simp only [decF g1,cond_false,Bool.false_and,Bool.not_false]
    exact ⟨trivial,fun h=>(by cases h),fun _=>⟨m,rfl,h3,h4.stop le_trans' (by omega) (.inl (by omega))⟩⟩
   | succ k=>
    have g1:((k+1:Nat):Int)≥1:=by omega
    have hw:IntKind.i64.wrap (((k+1:Nat):Int) - 1)=(k:Int):=by rw [wrap_i64 (by omega) (by omega)]; omega
    have hx:m[k]? =some (m[k]'(by omega)):=List.getElem?_eq_getElem (by omega)
    have hy:m[k+1]? =some (m[k+1]'(by omega)):=List.getElem?_eq_getElem (by omega)
    generalize m[k]'(by omega)=x at hx
    generalize m[k+1]'(by omega)=y at hy
    simp only [decT g1,hw,Int.toNat_natCast,hx,hy,Option.getD_some,order_r,decT (show k+1<m.length by omega),decT (show k<m.length by omega),decT (show (0:Int)≤((k+1:Nat):Int) by omega),decT (show (0:Int)≤(k:Int) by omega),cond_true,Bool.and_true,Bool.true_and,List.length_set]
    by_cases hlt:lt y x
    ·have hk:a≤k:=by
      rcases Nat.lt_or_ge k a with hka | hka
      ·exfalso
       rcases hlow2 with h0 | h0
       ·omega
       ·exact h0 (k+1) y x (by omega) (by omega) hy (by rw [show a - 1=k by omega]; exact hx) hlt
      ·exact hka
     simp only [decT hlt,Bool.not_true,Bool.not_false,cond_true]
     exact ⟨trivial,fun _=>⟨⟨k,_,rfl,by omega,by omega,h3.trans (RP.swap' hy hx (by omega) (by omega) (by omega) (by omega)),h4.step lt_asym (by omega) (by omega) hx hy hlt⟩,by
      show ((k:Int)).toNat<(((k+1:Nat):Int)).toNat
      omega⟩,fun h=>by cases h⟩
    ·simp only [decF hlt,Bool.not_true,Bool.not_false,cond_false]
     refine ⟨trivial,fun h=>(by cases h),fun _=>⟨m,rfl,h3,h4.stop le_trans' (by omega) ?_⟩⟩
     by_cases hka:k+1=a
     ·exact .inl hka
     ·exact .inr ⟨x,y,by omega,hx,hy,hlt⟩)
 obtain ⟨h1,m,h2,h3,h4⟩:=key
 exact ⟨m,Prod.ext h1 h2,h3,h4⟩
theorem pis_l3 (a':Int) (b i:Nat) (L l:List Ed) (hi:1≤i) (hib:i≤b) (hb:b≤l.length) (hbig:l.length≤1152921504606846976):
  ∃ m,loopR (HL.dflt [.bool,(.fl (.row (.prod (.int .i64) (.prod (.int .i64) (.prod (.int .i64) (.prod (.int .i64) .bool))))))]) (slices_partialInsertionSortCmpFunc_api_Known_l3 a' (b:Int) () L) (((i+1:Nat):Int),l,())=(true,(true,m,()))∧RP i b l m:=by
 have key:=loopR_by (d:=HL.dflt [.bool,(.fl (.row (.prod (.int .i64) (.prod (.int .i64) (.prod (.int .i64) (.prod (.int .i64) .bool))))))]) (step:=slices_partialInsertionSortCmpFunc_api_Known_l3 a' (b:Int) () L)
  (fun s:Int × List Ed × Unit=>∃ (j:Nat) (m:List Ed),s=((j:Int),m,())∧i<j∧j≤b+1∧RP i b l m) (fun s=>b+1 - s.1.toNat)
  (fun r:Bool × List Ed × Unit=>∃ m,r=(true,m,())∧RP i b l m) (((i+1:Nat):Int),l,())
  ⟨i+1,l,rfl,by omega,by omega,RP.refl _ _ _⟩ (by
   rintro _ ⟨j,m,rfl,h1,h2,h3⟩
   have hlen:=h3.len
   unfold slices_partialInsertionSortCmpFunc_api_Known_l3
   by_cases hj:j<b
   ·obtain ⟨k,rfl⟩:∃ k,j=k+1:=⟨j - 1,by omega⟩
    have g1:((k+1:Nat):Int)<(b:Int):=by omega
    have hw:IntKind.i64.wrap (((k+1:Nat):Int) - 1)=(k:Int):=by rw [wrap_i64 (by omega) (by omega)]; omega
    have hw2:IntKind.i64.wrap (((k+1:Nat):Int)+1)=((k+1+1:Nat):Int):=by rw [wrap_i64 (by omega) (by omega)]; omega
    have hx:m[k]? =some (m[k]'(by omega)):=List.getElem?_eq_getElem (by omega)
    have hy:m[k+1]? =some (m[k+1]'(by omega)):=List.getElem?_eq_getElem (by omega)
    generalize m[k]'(by omega)=x at hx
    generalize m[k+1]'(by omega)=y at hy
    simp only [decT g1,hw,hw2,Int.toNat_natCast,hx,hy,Option.getD_some,order_r,decT (show k+1<m.length by omega),decT (show k<m.length by omega),decT (show (0:Int)≤((k+1:Nat):Int) by omega),decT (show (0:Int)≤(k:Int) by omega),cond_true,Bool.and_true,Bool.true_and,List.length_set]
    by_cases hlt:lt y x
    ·simp only [decT hlt,Bool.not_true,Bool.not_false,cond_true]
     exact ⟨trivial,fun _=>⟨⟨k+1+1,_,rfl,by omega,by omega,h3.trans (RP.swap' hy hx (by omega) (by omega) (by omega) (by omega))⟩,by
      show b+1 - (((k+1+1:Nat):Int)).toNat<b+1 - (((k+1:Nat):Int)).toNat
      omega⟩,fun h=>by cases h⟩
    ·simp only [decF hlt,Bool.not_true,Bool.not_false,cond_false]
     exact ⟨trivial,fun h=>(by cases h),fun _=>⟨m,rfl,h3⟩⟩
   ·have g1:¬ (j:Int)<(b:Int):=by omega
    simp only [decF g1,cond_false,Bool.false_and,Bool.not_false]
    exact ⟨trivial,fun h=>(by cases h),fun _=>⟨m,rfl,h3⟩⟩)
 obtain ⟨h1,m,h2,h3⟩:=key
 exact ⟨m,Prod.ext h1 h2,h3⟩
theorem inOrder_more {a i i':Nat} {m:List Ed} (h:InOrder lt a i m) (hai:a<i) (h2:∀ k,i≤k→k<i'→∃ x y,m[k - 1]? =some x∧m[k]? =some y∧¬ lt y x):InOrder lt a i' m:=by
 have key:∀ n,i+n≤i'→InOrder lt a (i+n) m:=by
  intro n
  induction n with
  | zero=>exact fun _=>h
  | succ n ih=>
   intro hn p q u v k1 k2 k3 hu hv
   have ih:=ih (by omega)
   rcases Nat.lt_or_ge q (i+n) with hq | hq
   ·exact ih p q u v k1 k2 hq hu hv
   ·have hqe:q=i+n:=by omega
    subst hqe
    obtain ⟨x,y,hx,hy,hn'⟩:=h2 (i+n) (by omega) (by omega)
    rw [hy] at hv; injection hv with hv; subst hv
    by_cases hp:p=i+n - 1
    ·subst hp; rw [hx] at hu; injection hu with hu; subst hu; exact hn'
    ·exact le_trans' u x y (ih p (i+n - 1) u x k1 (by omega) (by omega) hu hx) hn'
 intro p q u v k1 k2 k3
 rcases Nat.lt_or_ge i' i with hh | hh
 ·exact h p q u v k1 k2 (by omega)
 ·have:=key (i' - i) (by omega)
  rw [show i+(i' - i)=i' by omega] at this
  exact this p q u v k1 k2 k3
theorem pis_r (a b:Nat) (l:List Ed) (hab:a<b) (hb:b≤l.length) (hbig:l.length≤1152921504606846976) (hlow:Low a b l):
  ∃ (c:Bool) (m:List Ed),slices_partialInsertionSortCmpFunc_api_Known_r (a:Int) (b:Int) () l=(true,(c,m))∧RP a b l m∧(c=true→InOrder lt a b m):=by
 have hwa:IntKind.i64.wrap ((a:Int)+1)=((a+1:Nat):Int):=by rw [wrap_i64 (by omega) (by omega)]; omega
 have key:=loopR_by (d:=HL.dflt [.bool,.bool,(.fl (.row (.prod (.int .i64) (.prod (.int .i64) (.prod (.int .i64) (.prod (.int .i64) .bool)))))),.bool,(.fl (.row (.prod (.int .i64) (.prod (.int .i64) (.prod (.int .i64) (.prod (.int .i64) .bool))))))]) (step:=slices_partialInsertionSortCmpFunc_api_Known_l0 (a:Int) (b:Int) () l)
  (fun s:Int × Int × List Ed × Unit=>∃ (i:Nat) (c:Int) (m:List Ed),s=((i:Int),c,m,())∧0≤c∧c≤5∧a<i∧i≤b∧RP a b l m∧InOrder lt a i m) (fun s=>(5 - s.2.1).toNat)
  (fun r:Bool × Bool × List Ed × Bool × List Ed × Unit=>r.2.2.1=r.2.2.2.2.1∧RP a b l r.2.2.1∧((cond r.2.2.2.1 false r.2.1)=true→InOrder lt a b r.2.2.1))
  (((a+1:Nat):Int),(0:Int),l,()) ⟨a+1,0,l,rfl,by omega,by omega,by omega,by omega,RP.refl _ _ _,fun p q x y h1 h2 h3=>by omega⟩ (by
   rintro _ ⟨i,c,m,rfl,hc0,hc5,h1,h2,h3,h4⟩
   have hlen:=h3.len
   unfold slices_partialInsertionSortCmpFunc_api_Known_l0
   by_cases hc:c<5
   ·obtain ⟨i',e1,e2,e3,e4,e5⟩:=pis_l1 (a:Int) b l m i c (by omega) h2 (by omega) (by omega)
    have ho:=inOrder_more h4 h1 e3
    have hwd:IntKind.i64.wrap ((b:Int) - (a:Int))=((b - a:Nat):Int):=by rw [wrap_i64 (by omega) (by omega)]; omega
    have hwc:IntKind.i64.wrap (c+1)=c+1:=wrap_i64 (by omega) (by omega)
    by_cases hib:i'=b
    ·subst hib
     simp only [loopD_eq,e5,decT hc,hwd,beq_self_eq_true,Bool.not_true,Bool.true_and,cond_true,cond_false,Bool.and_false,Bool.false_and]
     exact ⟨trivial,fun h=>(by cases h),fun _=>⟨trivial,h3,fun _=>ho⟩⟩
    ·have hne:¬ (i':Int)=(b:Int):=by omega
     by_cases h50:((b - a:Nat):Int)<50
     ·simp only [loopD_eq,e5,decT hc,hwd,beqI hne,decT h50,Bool.not_true,Bool.not_false,Bool.true_and,cond_true,cond_false,Bool.and_false,Bool.false_and]
      exact ⟨trivial,fun h=>(by cases h),fun _=>⟨trivial,h3,fun h=>by cases h⟩⟩
     ·have hx:m[i' - 1]? =some (m[i' - 1]'(by omega)):=List.getElem?_eq_getElem (by omega)
      have hy:m[i']? =some (m[i']'(by omega)):=List.getElem?_eq_getElem (by omega)
      generalize m[i' - 1]'(by omega)=x at hx
      generalize m[i']'(by omega)=y at hy
      have hw1:IntKind.i64.wrap ((i':Int) - 1)=((i' - 1:Nat):Int):=by rw [wrap_i64 (by omega) (by omega)]; omega
      have hw2:IntKind.i64.wrap ((i':Int)+1)=((i'+1:Nat):Int):=by rw [wrap_i64 (by omega) (by omega)]; omega
      have hw3:IntKind.i64.wrap ((i':Int) - (a:Int))=((i' - a:Nat):Int):=by rw [wrap_i64 (by omega) (by omega)]; omega
      have hw4:IntKind.i64.wrap ((b:Int) - (i':Int))=((b - i':Nat):Int):=by rw [wrap_i64 (by omega) (by omega)]; omega
      have hsw:RP a b m ((m.set i' x).set (i' - 1) y):=RP.swap' hy hx (by omega) (by omega) (by omega) (by omega)
      have ho1:InOrder lt a (i' - 1) ((m.set i' x).set (i' - 1) y):=fun p q u v k1 k2 k3 hu hv=>by
       rw [List.getElem?_set_ne (by omega),List.getElem?_set_ne (by omega)] at hu hv
       exact ho p q u v k1 k2 (by omega) hu hv
      generalize hm1:(m.set i' x).set (i' - 1) y=m1 at hsw ho1
      have hlen1:=hsw.len
      obtain ⟨m2,f1,f2,f3⟩:=pis_l2 a b i' (b:Int) l m1 (by omega) (by omega) (by omega) (by omega) (hlow.of (h3.trans hsw)) ho1
      have hm2:∃ m2',(cond (decide (((i' - a:Nat):Int)≥2)) m2 m1)=m2'∧RP a i' m1 m2'∧InOrder lt a i' m2':=by
       by_cases hh:((i' - a:Nat):Int)≥2
       ·exact ⟨m2,by simp only [decT hh,cond_true],f2,f3⟩
       ·exact ⟨m1,by simp only [decF hh,cond_false],RP.refl _ _ _,fun p q u v k1 k2 k3=>by omega⟩
      obtain ⟨m2',hm2',g2,g3⟩:=hm2
      have hlen2:=g2.len
      obtain ⟨m3,k1,k2⟩:=pis_l3 (a:Int) b i' l m2' (by omega) (by omega) (by omega) (by omega)
      have hm3:∃ m3',(cond (decide (((b - i':Nat):Int)≥2)) m3 m2')=m3'∧RP i' b m2' m3':=by
       by_cases hh:((b - i':Nat):Int)≥2
       ·exact ⟨m3,by simp only [decT hh,cond_true],k2⟩
       ·exact ⟨m2',by simp only [decF hh,cond_false],RP.refl _ _ _⟩
      obtain ⟨m3',hm3',g4⟩:=hm3
      simp only [loopD_eq,e5,decT hc,hwd,beqI hne,decF h50,hw1,hw2,hw3,hw4,hwc,Int.toNat_natCast,hx,hy,Option.getD_some,hm1,f1,hm2',k1,hm3',List.length_set,decT (show i'<m.length by omega),decT (show i' - 1<m.length by omega),decT (show (0:Int)≤(i':Int) by omega),decT (show (0:Int)≤((i' - 1:Nat):Int) by omega),Bool.not_true,Bool.not_false,Bool.true_and,Bool.and_true,cond_true,cond_false,Bool.and_false,Bool.false_and,cond_t,Bool.cond_self]
      exact ⟨trivial,fun _=>⟨⟨i',c+1,m3',rfl,by omega,by omega,by omega,e2,h3.trans (hsw.trans ((g2.mono (Nat.le_refl _) e2).trans (g4.mono (by omega) (Nat.le_refl _)))),g3.of_out g4 (.inl (Nat.le_refl _))⟩,by
       show (5 - (c+1)).toNat<(5 - c).toNat
       omega⟩,fun h=>by cases h⟩
   ·simp only [decF hc,cond_false,Bool.false_and,Bool.not_false]
    exact ⟨trivial,fun h=>(by cases h),fun _=>⟨trivial,h3,fun h=>by cases h⟩⟩)
 obtain ⟨k1,k2,k3,k4⟩:=key
 unfold slices_partialInsertionSortCmpFunc_api_Known_r
 simp only [loopD_eq,hwa,k1,← k2,Bool.cond_self]
 exact ⟨_,_,rfl,k3,k4⟩
theorem order2_r (i j:Nat) (l:List Ed) (s:Int) (hi:i<l.length) (hj:j<l.length):
  ∃ (x y:Nat) (s':Int),slices_order2CmpFunc_api_Known_r (i:Int) (j:Int) () l s=(true,((x:Int),(y:Int),s'))∧((x=i∧y=j)∨(x=j∧y=i)):=by
 unfold slices_order2CmpFunc_api_Known_r
 simp only [Int.toNat_natCast,order_r,decT hi,decT hj,decT (show (0:Int)≤(i:Int) by omega),decT (show (0:Int)≤(j:Int) by omega),Bool.and_true]
 by_cases hlt:ordK ((l[j]?).getD ((0:Int),((0:Int),((0:Int),((0:Int),false))))) ((l[i]?).getD ((0:Int),((0:Int),((0:Int),((0:Int),false)))))<0
 ·simp only [decT hlt,Bool.not_true,cond_false]
  exact ⟨j,i,_,rfl,.inr ⟨rfl,rfl⟩⟩
 ·simp only [decF hlt,Bool.not_false,cond_true]
  exact ⟨i,j,_,rfl,.inl ⟨rfl,rfl⟩⟩
theorem median_r (i j k:Nat) (l:List Ed) (s:Int) (hi:i<l.length) (hj:j<l.length) (hk:k<l.length):
  ∃ (r:Nat) (s':Int),slices_medianCmpFunc_api_Known_r (i:Int) (j:Int) (k:Int) () l s=(true,((r:Int),s'))∧(r=i∨r=j∨r=k):=by
 obtain ⟨x1,y1,s1,e1,h1⟩:=order2_r i j l s hi hj
 obtain ⟨x2,y2,s2,e2,h2⟩:=order2_r y1 k l s1 (by omega) hk
 obtain ⟨x3,y3,s3,e3,h3⟩:=order2_r x1 x2 l s2 (by omega) (by omega)
 unfold slices_medianCmpFunc_api_Known_r
 simp only [e1,e2,e3,Bool.and_self]
 exact ⟨y3,s3,rfl,by omega⟩
theorem adjacent_r (i:Nat) (l:List Ed) (s:Int) (h1:1≤i) (hi:i+1<l.length) (hbig:l.length≤1152921504606846976):
  ∃ (r:Nat) (s':Int),slices_medianAdjacentCmpFunc_api_Known_r (i:Int) () l s=(true,((r:Int),s'))∧i - 1≤r∧r≤i+1:=by
 have hw1:IntKind.i64.wrap ((i:Int) - 1)=((i - 1:Nat):Int):=by rw [wrap_i64 (by omega) (by omega)]; omega
 have hw2:IntKind.i64.wrap ((i:Int)+1)=((i+1:Nat):Int):=by rw [wrap_i64 (by omega) (by omega)]; omega
 obtain ⟨r,s',e,h⟩:=median_r (i - 1) i (i+1) l s (by omega) (by omega) (by omega)
 unfold slices_medianAdjacentCmpFunc_api_Known_r
 simp only [hw1,hw2,e]
 exact ⟨r,s',rfl,by omega,by omega⟩
theorem pivot_r (a b:Nat) (l:List Ed) (hab:a+12<b) (hb:b≤l.length) (hbig:l.length≤1152921504606846976):
  ∃ (k:Nat) (h:Int),slices_choosePivotCmpFunc_api_Known_r (a:Int) (b:Int) () l=(true,((k:Int),h))∧a≤k∧k<b:=by
 have hwd:IntKind.i64.wrap ((b:Int) - (a:Int))=((b - a:Nat):Int):=by rw [wrap_i64 (by omega) (by omega)]; omega
 have hq:IntKind.i64.wrap (Int.tdiv ((b - a:Nat):Int) 4)=(((b - a) / 4:Nat):Int):=by
  rw [show Int.tdiv ((b - a:Nat):Int) 4=(((b - a) / 4:Nat):Int) from rfl,wrap_i64 (by omega) (by omega)]
 have hk:∀ c:Nat,c≤3→IntKind.i64.wrap ((((b - a) / 4:Nat):Int)*(c:Int))=(((b - a) / 4*c:Nat):Int):=fun c hc=>by
  have:c=0∨c=1∨c=2∨c=3:=by omega
  rcases this with rfl | rfl | rfl | rfl<;>(rw [wrap_i64 (by omega) (by omega)]; omega)
 have hk1:=hk 1 (by omega)
 have hk2:=hk 2 (by omega)
 have hk3:=hk 3 (by omega)
 have hi:∀ n:Nat,n≤b - a→IntKind.i64.wrap ((a:Int)+(n:Int))=((a+n:Nat):Int):=fun n hn=>by
  rw [wrap_i64 (by omega) (by omega)]; omega
 have hi1:=hi ((b - a) / 4*1) (by omega)
 have hi2:=hi ((b - a) / 4*2) (by omega)
 have hi3:=hi ((b - a) / 4*3) (by omega)
 obtain ⟨r1,s1,e1,f1,g1⟩:=adjacent_r (a+(b - a) / 4*1) l 0 (by omega) (by omega) hbig
 obtain ⟨r2,s2,e2,f2,g2⟩:=adjacent_r (a+(b - a) / 4*2) l s1 (by omega) (by omega) hbig
 obtain ⟨r3,s3,e3,f3,g3⟩:=adjacent_r (a+(b - a) / 4*3) l s2 (by omega) (by omega) hbig
 have h8:((b - a:Nat):Int)≥8:=by omega
 have c1:((1:Nat):Int)=(1:Int):=rfl
 have c2:((2:Nat):Int)=(2:Int):=rfl
 have c3:((3:Nat):Int)=(3:Int):=rfl
 rw [c1] at hk1; rw [c2] at hk2; rw [c3] at hk3
 unfold slices_choosePivotCmpFunc_api_Known_r
 by_cases h50:((b - a:Nat):Int)≥50
 ·obtain ⟨k,s',e,hk⟩:=median_r r1 r2 r3 l s3 (by omega) (by omega) (by omega)
  simp only [hwd,hq,hk1,hk2,hk3,hi1,hi2,hi3,decT h8,decT h50,e1,e2,e3,e,cond_true,Bool.and_true,show ((4:Int) !=0)=true from rfl,Bool.cond_self]
  exact ⟨k,_,rfl,by omega,by omega⟩
 ·obtain ⟨k,s',e,hk⟩:=median_r (a+(b - a) / 4*1) (a+(b - a) / 4*2) (a+(b - a) / 4*3) l 0 (by omega) (by omega) (by omega)
  simp only [hwd,hq,hk1,hk2,hk3,hi1,hi2,hi3,decT h8,decF h50,e,cond_true,cond_false,Bool.and_true,show ((4:Int) !=0)=true from rfl,Bool.cond_self]
  exact ⟨k,_,rfl,by omega,by omega⟩
def IsLen (n L:Nat):Prop:=n<2 ^ L∧(L=0∨2 ^ (L - 1)≤n)
theorem isLen_shift {n L k:Nat} (h:IsLen (n / 2 ^ k) L) (hn:2 ^ k≤n):IsLen n (L+k):=by
 have hp:0<2 ^ k:=Nat.two_pow_pos k
 obtain ⟨h1,h2⟩:=h
 have hL:L≠0:=by
  intro h0
  subst h0
  have:=(Nat.div_lt_iff_lt_mul hp).1 h1
  omega
 refine ⟨?_,.inr ?_⟩
 ·have:=(Nat.div_lt_iff_lt_mul hp).1 h1
  rw [Nat.pow_add]; exact this
 ·rcases h2 with h2 | h2
  ·exact absurd h2 hL
  ·have:=(Nat.le_div_iff_mul_le hp).1 h2
   rw [show L+k - 1=L - 1+k by omega,Nat.pow_add]; exact this
theorem shr_nat (n k:Nat) (hk:k≤64):iShr .u64 .u64 (n:Int) (k:Int)=((n / 2 ^ k:Nat):Int):=by
 show Int.fdiv (n:Int) (2 ^ (min ((k:Int)).toNat 64))=_
 rw [Int.toNat_natCast,Nat.min_eq_left hk,show ((2:Int) ^ k)=((2 ^ k:Nat):Int) by simp]
 exact (Int.ofNat_fdiv n (2 ^ k)).symm
theorem u8_id (n:Nat) (h:n<256):IntKind.u8.wrap (n:Int)=(n:Int):=by
 unfold IntKind.wrap
 simp [IntKind.bits,IntKind.signed]
 omega
theorem u64_id (n:Nat) (h:n<18446744073709551616):IntKind.u64.wrap (n:Int)=(n:Int):=by
 unfold IntKind.wrap
 simp [IntKind.bits,IntKind.signed]
 omega
set_option maxRecDepth 100000 in
theorem tab_r:∀ n:Nat,n<256→∃ L:Nat,L≤8∧IsLen n L∧∀ t:ByteArray,t=ByteArray.mk #[0,1,2,2,3,3,3,3,4,4,4,4,4,4,4,4,5,5,5,5,5,5,5,5,5,5,5,5,5,5,5,5,6,6,6,6,6,6,6,6,6,6,6,6,6,6,6,6,6,6,6,6,6,6,6,6,6,6,6,6,6,6,6,6,7,7,7,7,7,7,7,7,7,7,7,7,7,7,7,7,7,7,7,7,7,7,7,7,7,7,7,7,7,7,7,7,7,7,7,7,7,7,7,7,7,7,7,7,7,7,7,7,7,7,7,7,7,7,7,7,7,7,7,7,7,7,7,7,8,8,8,8,8,8,8,8,8,8,8,8,8,8,8,8,8,8,8,8,8,8,8,8,8,8,8,8,8,8,8,8,8,8,8,8,8,8,8,8,8,8,8,8,8,8,8,8,8,8,8,8,8,8,8,8,8,8,8,8,8,8,8,8,8,8,8,8,8,8,8,8,8,8,8,8,8,8,8,8,8,8,8,8,8,8,8,8,8,8,8,8,8,8,8,8,8,8,8,8,8,8,8,8,8,8,8,8,8,8,8,8,8,8,8,8,8,8,8,8,8,8,8,8,8,8,8,8]→n<t.size∧sAt t n=(L:Int):=by
 intro n hn
 have key:∀ n:Fin 256,(∃ L:Fin 9,(n.val<2 ^ L.val∧(L.val=0∨2 ^ (L.val - 1)≤n.val))∧(((ByteArray.mk #[0,1,2,2,3,3,3,3,4,4,4,4,4,4,4,4,5,5,5,5,5,5,5,5,5,5,5,5,5,5,5,5,6,6,6,6,6,6,6,6,6,6,6,6,6,6,6,6,6,6,6,6,6,6,6,6,6,6,6,6,6,6,6,6,7,7,7,7,7,7,7,7,7,7,7,7,7,7,7,7,7,7,7,7,7,7,7,7,7,7,7,7,7,7,7,7,7,7,7,7,7,7,7,7,7,7,7,7,7,7,7,7,7,7,7,7,7,7,7,7,7,7,7,7,7,7,7,7,8,8,8,8,8,8,8,8,8,8,8,8,8,8,8,8,8,8,8,8,8,8,8,8,8,8,8,8,8,8,8,8,8,8,8,8,8,8,8,8,8,8,8,8,8,8,8,8,8,8,8,8,8,8,8,8,8,8,8,8,8,8,8,8,8,8,8,8,8,8,8,8,8,8,8,8,8,8,8,8,8,8,8,8,8,8,8,8,8,8,8,8,8,8,8,8,8,8,8,8,8,8,8,8,8,8,8,8,8,8,8,8,8,8,8,8,8,8,8,8,8,8,8,8,8,8,8,8])[n.val]?).getD 0).toNat=L.val):=by decide+kernel
 obtain ⟨L,h1,h2⟩:=key ⟨n,hn⟩
 refine ⟨L.val,by omega,h1,fun t ht=> ?_⟩
 subst ht
 refine ⟨hn,?_⟩
 show ((((ByteArray.mk #[0,1,2,2,3,3,3,3,4,4,4,4,4,4,4,4,5,5,5,5,5,5,5,5,5,5,5,5,5,5,5,5,6,6,6,6,6,6,6,6,6,6,6,6,6,6,6,6,6,6,6,6,6,6,6,6,6,6,6,6,6,6,6,6,7,7,7,7,7,7,7,7,7,7,7,7,7,7,7,7,7,7,7,7,7,7,7,7,7,7,7,7,7,7,7,7,7,7,7,7,7,7,7,7,7,7,7,7,7,7,7,7,7,7,7,7,7,7,7,7,7,7,7,7,7,7,7,7,8,8,8,8,8,8,8,8,8,8,8,8,8,8,8,8,8,8,8,8,8,8,8,8,8,8,8,8,8,8,8,8,8,8,8,8,8,8,8,8,8,8,8,8,8,8,8,8,8,8,8,8,8,8,8,8,8,8,8,8,8,8,8,8,8,8,8,8,8,8,8,8,8,8,8,8,8,8,8,8,8,8,8,8,8,8,8,8,8,8,8,8,8,8,8,8,8,8,8,8,8,8,8,8,8,8,8,8,8,8,8,8,8,8,8,8,8,8,8,8,8,8,8,8,8,8,8,8])[n]?).getD 0).toNat:Int)=_
 rw [h2]
set_option maxRecDepth 100000 in
theorem len64_r (n:Nat) (hn:n<18446744073709551616):∃ L:Nat,bits_Len64_r (n:Int)=(true,(L:Int))∧IsLen n L∧L≤64:=by
 have s1:∃ m k:Nat,(cond (decide ((n:Int)≥4294967296)) (iShr .u64 .u64 (n:Int) (32:Int)) (n:Int))=(m:Int)∧(cond (decide ((n:Int)≥4294967296)) (32:Int) 0)=(k:Int)∧m<4294967296∧k≤32∧∀ L,IsLen m L→IsLen n (L+k):=by
  by_cases h:(n:Int)≥4294967296
  ·refine ⟨n / 2 ^ 32,32,?_,?_,by omega,by omega,fun L hL=>isLen_shift hL (by omega)⟩
   ·simp only [decT h,cond_true]; exact shr_nat n 32 (by omega)
   ·simp only [decT h,cond_true]; rfl
  ·exact ⟨n,0,by simp only [decF h,cond_false],by simp only [decF h,cond_false]; rfl,by omega,by omega,fun L hL=>hL⟩
 obtain ⟨m,k,e1,e2,hm,hk,hf⟩:=s1
 have s2:∃ m' k':Nat,(cond (decide ((m:Int)≥65536)) (iShr .u64 .u64 (m:Int) (16:Int)) (m:Int))=(m':Int)∧(cond (decide ((m:Int)≥65536)) (IntKind.i64.wrap ((k:Int)+16)) (k:Int))=(k':Int)∧m'<65536∧k'≤48∧∀ L,IsLen m' L→IsLen n (L+k'):=by
  by_cases h:(m:Int)≥65536
  ·refine ⟨m / 2 ^ 16,k+16,?_,?_,by omega,by omega,fun L hL=> ?_⟩
   ·simp only [decT h,cond_true]; exact shr_nat m 16 (by omega)
   ·simp only [decT h,cond_true]; rw [wrap_i64 (by omega) (by omega)]; rfl
   ·have:=hf _ (isLen_shift hL (by omega))
    rw [show L+(k+16)=L+16+k by omega]; exact this
  ·exact ⟨m,k,by simp only [decF h,cond_false],by simp only [decF h,cond_false],by omega,by omega,hf⟩
 obtain ⟨m',k',e3,e4,hm',hk',hf'⟩:=s2
 have s3:∃ m2 k2:Nat,(cond (decide ((m':Int)≥256)) (iShr .u64 .u64 (m':Int) (8:Int)) (m':Int))=(m2:Int)∧(cond (decide ((m':Int)≥256)) (IntKind.i64.wrap ((k':Int)+8)) (k':Int))=(k2:Int)∧m2<256∧k2≤56∧∀ L,IsLen m2 L→IsLen n (L+k2):=by
  by_cases h:(m':Int)≥256
  ·refine ⟨m' / 2 ^ 8,k'+8,?_,?_,by omega,by omega,fun L hL=> ?_⟩
   ·simp only [decT h,cond_true]; exact shr_nat m' 8 (by omega)
   ·simp only [decT h,cond_true]; rw [wrap_i64 (by omega) (by omega)]; rfl
   ·have:=hf' _ (isLen_shift hL (by omega))
    rw [show L+(k'+8)=L+8+k' by omega]; exact this
  ·exact ⟨m',k',by simp only [decF h,cond_false],by simp only [decF h,cond_false],by omega,by omega,hf'⟩
 obtain ⟨m2,k2,e5,e6,hm2,hk2,hf2⟩:=s3
 obtain ⟨L,hL,hl1,hl2⟩:=tab_r m2 hm2
 have ht:=hl2 _ rfl
 refine ⟨L+k2,?_,hf2 L hl1,by omega⟩
 unfold bits_Len64_r
 simp only [e1,e2,e3,e4,e5,e6,u8_id m2 hm2,Int.toNat_natCast,ht.1,ht.2,decide_true,decT (show (0:Int)≤(m2:Int) by omega),decT (show (0:Int)≤32 by omega),decT (show (0:Int)≤16 by omega),decT (show (0:Int)≤8 by omega),Bool.and_true,Bool.cond_self]
 rw [wrap_i64 (x:=(L:Int)) (by omega) (by omega),wrap_i64 (by omega) (by omega)]
 rw [show (k2:Int)+(L:Int)=((L+k2:Nat):Int) by omega]
theorem len_r (n:Nat) (hn:n<18446744073709551616):∃ L:Nat,bits_Len_r (n:Int)=(true,(L:Int))∧IsLen n L∧L≤64:=by
 obtain ⟨L,e,h1,h2⟩:=len64_r n hn
 unfold bits_Len_r
 simp only [e,Bool.not_false,cond_true,cond_false,Bool.and_self]
 exact ⟨L,rfl,h1,h2⟩
theorem pow2_r (n:Nat) (h0:0<n) (hn:n≤1152921504606846976):∃ M:Nat,slices_nextPowerOfTwo_r (n:Int)=(true,(M:Int))∧0<M∧M≤2*n:=by
 obtain ⟨L,e,h1,h2⟩:=len_r n (by omega)
 have hM:0<2 ^ L∧2 ^ L≤2*n:=by
  refine ⟨Nat.two_pow_pos L,?_⟩
  rcases h1.2 with h | h
  ·subst h; simp; omega
  ·have:L≠0∨L=0:=by omega
   rcases this with hh | hh
   ·rw [show L=L - 1+1 by omega,Nat.pow_succ]; omega
   ·subst hh; simp; omega
 unfold slices_nextPowerOfTwo_r
 rw [u64_id n (by omega)]
 simp only [e,decT (show (0:Int)≤(L:Int) by omega),Bool.and_true]
 refine ⟨2 ^ L,?_,hM.1,hM.2⟩
 have:iShl .u64 .i64 (1:Int) (L:Int)=((2 ^ L:Nat):Int):=by
  show IntKind.u64.wrap (1*2 ^ (min ((L:Int)).toNat 64))=_
  rw [Int.toNat_natCast,Nat.min_eq_left h2,Int.one_mul,show ((2:Int) ^ L)=((2 ^ L:Nat):Int) by simp]
  exact u64_id _ (by omega)
 rw [this]
theorem next_r (s:Int):∃ r:Int,__slices_xorshift__Next_r s=(true,(r,r)):=by
 unfold __slices_xorshift__Next_r
 exact ⟨_,rfl⟩
theorem band_r (r:Int) (M:Nat) (hM:0<M) (hM2:M≤4611686018427387904):∃ x:Nat,IntKind.i64.wrap (iBand .u64 r (IntKind.u64.wrap ((M:Int) - 1)))=(x:Int)∧x<M:=by
 have hw:IntKind.u64.wrap ((M:Int) - 1)=((M - 1:Nat):Int):=by
  rw [show (M:Int) - 1=((M - 1:Nat):Int) by omega]; exact u64_id _ (by omega)
 rw [hw]
 have hx:(BitVec.ofInt 64 r &&& BitVec.ofInt 64 ((M - 1:Nat):Int)).toNat≤M - 1:=by
  rw [BitVec.toNat_and]
  refine Nat.le_trans Nat.and_le_right ?_
  rw [BitVec.ofInt_natCast,BitVec.toNat_ofNat]
  exact Nat.mod_le _ _
 refine ⟨(BitVec.ofInt 64 r &&& BitVec.ofInt 64 ((M - 1:Nat):Int)).toNat,?_,by omega⟩
 show IntKind.i64.wrap (IntKind.u64.wrap (((BitVec.ofInt 64 r &&& BitVec.ofInt 64 ((M - 1:Nat):Int)).toNat:Nat):Int))=_
 rw [u64_id _ (by omega),wrap_i64 (by omega) (by omega)]
theorem break_r (a b:Nat) (l:List Ed) (hab:a≤b) (hb:b≤l.length) (hbig:l.length≤1152921504606846976):
  ∃ m,slices_breakPatternsCmpFunc_api_Known_r (a:Int) (b:Int) () l=(true,m)∧RP a b l m:=by
 have hwd:IntKind.i64.wrap ((b:Int) - (a:Int))=((b - a:Nat):Int):=by rw [wrap_i64 (by omega) (by omega)]; omega
 unfold slices_breakPatternsCmpFunc_api_Known_r
 by_cases h8:((b - a:Nat):Int)≥8
 ·obtain ⟨M,eM,hM1,hM2⟩:=pow2_r (b - a) (by omega) (by omega)
  have hq:IntKind.i64.wrap (Int.tdiv ((b - a:Nat):Int) 4)=(((b - a) / 4:Nat):Int):=by
   rw [show Int.tdiv ((b - a:Nat):Int) 4=(((b - a) / 4:Nat):Int) from rfl,wrap_i64 (by omega) (by omega)]
  have hq2:IntKind.i64.wrap ((((b - a) / 4:Nat):Int)*2)=(((b - a) / 4*2:Nat):Int):=by
   rw [wrap_i64 (by omega) (by omega)]; omega
  have hq3:IntKind.i64.wrap ((a:Int)+(((b - a) / 4*2:Nat):Int))=((a+(b - a) / 4*2:Nat):Int):=by
   rw [wrap_i64 (by omega) (by omega)]; omega
  have hq4:IntKind.i64.wrap (((a+(b - a) / 4*2:Nat):Int) - 1)=((a+(b - a) / 4*2 - 1:Nat):Int):=by
   rw [wrap_i64 (by omega) (by omega)]; omega
  have hq5:IntKind.i64.wrap (((a+(b - a) / 4*2:Nat):Int)+1)=((a+(b - a) / 4*2+1:Nat):Int):=by
   rw [wrap_i64 (by omega) (by omega)]; omega
  generalize hlo:a+(b - a) / 4*2=lo at*
  have key:=loopR_by (d:=HL.dflt [.bool,(.fl (.row (.prod (.int .i64) (.prod (.int .i64) (.prod (.int .i64) (.prod (.int .i64) .bool)))))),.int .u64]) (step:=slices_breakPatternsCmpFunc_api_Known_l0 (a:Int) (b:Int) () l)
   (fun s:Int × List Ed × Int × Unit=>∃ (i:Nat) (m:List Ed) (r:Int),s=((i:Int),m,r,())∧a≤i∧i≤lo+2∧RP a b l m) (fun s=>lo+2 - s.1.toNat)
   (fun r:Bool × List Ed × Int × Unit=>RP a b l r.2.1) (((lo - 1:Nat):Int),l,(IntKind.u64.wrap ((b - a:Nat):Int)),())
   ⟨lo - 1,l,_,rfl,by omega,by omega,RP.refl _ _ _⟩ (by
    rintro _ ⟨i,m,r,rfl,h1,h2,h3⟩
    have hlen:=h3.len
    obtain ⟨r',er⟩:=next_r r
    obtain ⟨x,ex,hx⟩:=band_r r' M hM1 (by omega)
    have hoth:∃ y:Nat,IntKind.i64.wrap ((a:Int)+cond (decide ((x:Int)≥((b - a:Nat):Int))) (IntKind.i64.wrap ((x:Int) - ((b - a:Nat):Int))) (x:Int))=(y:Int)∧a≤y∧y<b:=by
     by_cases hxx:(x:Int)≥((b - a:Nat):Int)
     ·refine ⟨a+(x - (b - a)),?_,by omega,by omega⟩
      simp only [decT hxx,cond_true]
      rw [wrap_i64 (x:=(x:Int) - ((b - a:Nat):Int)) (by omega) (by omega),wrap_i64 (by omega) (by omega)]
      omega
     ·refine ⟨a+x,?_,by omega,by omega⟩
      simp only [decF hxx,cond_false]
      rw [wrap_i64 (by omega) (by omega)]
      omega
    obtain ⟨y,ey,hy1,hy2⟩:=hoth
    unfold slices_breakPatternsCmpFunc_api_Known_l0
    have hne:((4:Int) !=0)=true:=rfl
    by_cases hi:i≤lo+1
    ·have g1:(i:Int)≤((lo+1:Nat):Int):=by omega
     have hw:IntKind.i64.wrap ((i:Int)+1)=((i+1:Nat):Int):=by rw [wrap_i64 (by omega) (by omega)]; omega
     have hu:m[i]? =some (m[i]'(by omega)):=List.getElem?_eq_getElem (by omega)
     have hv:m[y]? =some (m[y]'(by omega)):=List.getElem?_eq_getElem (by omega)
     generalize m[i]'(by omega)=u at hu
     generalize m[y]'(by omega)=v at hv
     simp only [hwd,eM,hq,hq2,hq3,hq5,decT g1,er,ex,ey,hw,hne,Int.toNat_natCast,hu,hv,Option.getD_some,List.length_set,decT (show i<m.length by omega),decT (show y<m.length by omega),decT (show (0:Int)≤(i:Int) by omega),decT (show (0:Int)≤(y:Int) by omega),cond_true,Bool.and_true]
     exact ⟨trivial,fun _=>⟨⟨i+1,_,r',rfl,by omega,by omega,h3.trans (RP.swap' hu hv (by omega) (by omega) (by omega) (by omega))⟩,by
      show lo+2 - (((i+1:Nat):Int)).toNat<lo+2 - ((i:Int)).toNat
      omega⟩,fun h=>by cases h⟩
    ·have g1:¬ (i:Int)≤((lo+1:Nat):Int):=by omega
     simp only [hwd,eM,hq,hq2,hq3,hq5,decF g1,hne,cond_false,Bool.and_true]
     exact ⟨trivial,fun h=>(by cases h),fun _=>h3⟩)
  simp only [loopD_eq,hwd,eM,hq,hq2,hq3,hq4,decT h8,cond_true,show ((4:Int) !=0)=true from rfl,Bool.true_and]
  exact ⟨_,Prod.ext key.1 rfl,key.2⟩
 ·simp only [hwd,decF h8,cond_false]
  exact ⟨l,rfl,RP.refl _ _ _⟩
def Pend (a0 a b b0:Nat) (m:List Ed):Prop:=∀ p q x y,a0≤p→p<q→q<b0→(p<a∨b≤q)→m[p]? =some x→m[q]? =some y→¬ lt y x
theorem Pend.start (a b:Nat) (m:List Ed):Pend a a b b m:=fun p q x y h1 h2 h3 h4=>by omega
theorem Pend.keep {a0 a b b0:Nat} {m m':List Ed} (ha:a0≤a) (hb:b≤b0) (h:Pend a0 a b b0 m) (hr:RP a b m m'):Pend a0 a b b0 m':=by
 intro p q x y h1 h2 h3 h4 hx hy
 rcases h4 with h4 | h4
 ·rw [hr.out p (.inl h4)] at hx
  by_cases hq:a≤q∧q<b
  ·exact hr.all (P:=fun y=>¬ lt y x) (fun j z k1 k2 k3=>h p j x z h1 (by omega) (by omega) (.inl h4) hx k3) q y hq.1 hq.2 hy
  ·rw [hr.out q (by omega)] at hy
   exact h p q x y h1 h2 h3 (.inl h4) hx hy
 ·rw [hr.out q (.inr h4)] at hy
  by_cases hp:a≤p∧p<b
  ·exact hr.all (P:=fun x=>¬ lt y x) (fun j z k1 k2 k3=>h j q z y (by omega) (by omega) h3 (.inr h4) k3 hy) p x hp.1 hp.2 hx
  ·rw [hr.out p (by omega)] at hx
   exact h p q x y h1 h2 h3 (.inr h4) hx hy
theorem Pend.done {a0 a b b0:Nat} {m:List Ed} (h:Pend a0 a b b0 m) (ho:InOrder lt a b m):InOrder lt a0 b0 m:=by
 intro p q x y h1 h2 h3 hx hy
 by_cases hh:p<a∨b≤q
 ·exact h p q x y h1 h2 h3 hh hx hy
 ·exact ho p q x y (by omega) h2 (by omega) hx hy
theorem Split.keepL {a k b:Nat} {m m':List Ed} {p:Ed} (h:Split a k b m p) (hr:RP a k m m'):Split a k b m' p:=
 ⟨by rw [hr.out k (.inr (Nat.le_refl _))]; exact h.at',fun i x h1 h2 h3=>hr.all (P:=fun x=>lt x p) h.left i x h1 h2 h3,fun i x h1 h2 h3=>by
  rw [hr.out i (.inr (by omega))] at h3; exact h.right i x h1 h2 h3⟩
theorem Split.keepR {a k b:Nat} {m m':List Ed} {p:Ed} (h:Split a k b m p) (hr:RP (k+1) b m m'):Split a k b m' p:=
 ⟨by rw [hr.out k (.inl (by omega))]; exact h.at',fun i x h1 h2 h3=>by
  rw [hr.out i (.inl (by omega))] at h3; exact h.left i x h1 h2 h3,fun i x h1 h2 h3=>hr.all (P:=fun x=>¬ lt x p) (fun j z k1 k2 k3=>h.right j z (by omega) k2 k3) i x (by omega) h2 h3⟩
theorem Pend.left {a0 a k b b0:Nat} {m:List Ed} {p:Ed} (h:Pend a0 a b b0 m) (hs:Split a k b m p) (ho:InOrder lt a k m):Pend a0 (k+1) b b0 m:=by
 intro i j x y h1 h2 h3 h4 hx hy
 by_cases hh:i<a∨b≤j
 ·exact h i j x y h1 h2 h3 hh hx hy
 ·have hik:i≤k:=by omega
  have key:∀ z,m[i]? =some z→i=k→z=p:=fun z hz hi=>by
   subst hi; rw [hs.at'] at hz; injection hz with hz; exact hz.symm
  rcases Nat.lt_or_ge j k with hj | hj
  ·exact ho i j x y (by omega) h2 hj hx hy
  ·by_cases hjk:j=k
   ·subst hjk
    rw [hs.at'] at hy; injection hy with hy; subst hy
    exact lt_asym _ _ (hs.left i x (by omega) (by omega) hx)
   ·have hyp:=hs.right j y (by omega) (by omega) hy
    by_cases hi:i=k
    ·rw [key x hx hi]; exact hyp
    ·exact le_trans' x p y (lt_asym _ _ (hs.left i x (by omega) (by omega) hx)) hyp
theorem Pend.right {a0 a k b b0:Nat} {m:List Ed} {p:Ed} (h:Pend a0 a b b0 m) (hs:Split a k b m p) (ho:InOrder lt (k+1) b m):Pend a0 a k b0 m:=by
 intro i j x y h1 h2 h3 h4 hx hy
 by_cases hh:i<a∨b≤j
 ·exact h i j x y h1 h2 h3 hh hx hy
 ·rcases Nat.lt_or_ge k i with hi | hi
  ·exact ho i j x y (by omega) h2 (by omega) hx hy
  ·by_cases hik:i=k
   ·subst hik
    rw [hs.at'] at hx; injection hx with hx; subst hx
    exact hs.right j y (by omega) (by omega) hy
   ·have hxp:=lt_asym _ _ (hs.left i x (by omega) (by omega) hx)
    by_cases hjk:j=k
    ·subst hjk
     rw [hs.at'] at hy; injection hy with hy; subst hy
     exact hxp
    ·exact le_trans' x p y hxp (hs.right j y (by omega) (by omega) hy)
theorem Pend.equal {a0 a k b b0:Nat} {m:List Ed} {p z:Ed} (h:Pend a0 a b b0 m) (ha:0<a) (hz:m[a - 1]? =some z) (hlow:Low a b m) (hpz:¬ lt z p) (hs:PartAt (fun x=>¬ lt p x) a k k b m):Pend a0 k b b0 m:=by
 intro i j x y h1 h2 h3 h4 hx hy
 by_cases hh:i<a∨b≤j
 ·exact h i j x y h1 h2 h3 hh hx hy
 ·have hlx:¬ lt z x:=le_trans' x p z (hs.left i x (by omega) (by omega) hx) hpz
  have hly:¬ lt y z:=by
   rcases hlow with h0 | h0
   ·omega
   ·exact h0 j y z (by omega) (by omega) hy hz
  exact le_trans' x z y hlx hly
theorem InOrder_pair {a b:Nat} {m:List Ed} (h:InOrder lt a b m):((m.take b).drop a).Pairwise (fun x y=>¬ lt y x):=by
 rw [List.pairwise_iff_getElem]
 intro i j hi hj hij
 simp only [List.length_drop,List.length_take] at hi hj
 rw [List.getElem_drop,List.getElem_drop,List.getElem_take,List.getElem_take]
 exact h (a+i) (a+j) _ _ (by omega) (by omega) (by omega) (List.getElem?_eq_getElem (by omega)) (List.getElem?_eq_getElem (by omega))
abbrev PqIn:=HL slices_pdqsortCmpFunc_api_Known_e.ins
def PqI (x:Int × Int × Int × Unit × List Ed × Unit):Prop:=∃ (a b:Nat) (lim:Int) (l:List Ed),x=((a:Int),(b:Int),lim,(),l,())∧a≤b∧b≤l.length∧l.length≤1152921504606846976∧Low a b l
def PqP (x:Int × Int × Int × Unit × List Ed × Unit) (v:List Ed × Unit):Prop:=RP x.1.toNat x.2.1.toNat x.2.2.2.2.1 v.1∧InOrder lt x.1.toNat x.2.1.toNat v.1
def outR (B K:Int) (d1 d2:Bool) (lm:Int) (m3:List Ed) (r:Bool × (List Ed × Unit)):Bool × Bool × (Int × Int × Bool × Bool × Int × List Ed × Unit) × (Bool × List Ed × Unit):=(r.1,true,(B,K,d1,d2,lm,r.2.1,()),(false,m3,()))
theorem pdq_round (g g':(Int × Int × Int × Unit × List Ed × Unit)→Bool × (List Ed × Unit)) (a0 b0:Nat) (A1 A2 A3:Int) (L l:List Ed) (hb0:b0≤l.length) (hbig:l.length≤1152921504606846976)
  (hg:∀ y,PqI y→y.2.1.toNat - y.1.toNat<b0 - a0→(g y).1=true∧PqP y (g y).2∧g' y=g y)
  (a b:Nat) (wp wb:Bool) (lim:Int) (m:List Ed) (h1:a0≤a) (h2:a≤b) (h3:b≤b0) (h4:RP a0 b0 l m) (h5:Pend a0 a b b0 m) (h6:Low a b m):
  (slices_pdqsortCmpFunc_api_Known_s_l0 g A1 A2 A3 () L ((b:Int),(a:Int),wp,wb,lim,m,())).1=true∧
  ((slices_pdqsortCmpFunc_api_Known_s_l0 g A1 A2 A3 () L ((b:Int),(a:Int),wp,wb,lim,m,())).2.1=true→
   ∃ (a' b':Nat) (wp' wb':Bool) (lim':Int) (m':List Ed),(slices_pdqsortCmpFunc_api_Known_s_l0 g A1 A2 A3 () L ((b:Int),(a:Int),wp,wb,lim,m,())).2.2.1=((b':Int),(a':Int),wp',wb',lim',m',())∧a0≤a'∧a'≤b'∧b'≤b0∧b' - a'<b - a∧RP a0 b0 l m'∧Pend a0 a' b' b0 m'∧Low a' b' m')∧
  ((slices_pdqsortCmpFunc_api_Known_s_l0 g A1 A2 A3 () L ((b:Int),(a:Int),wp,wb,lim,m,())).2.1=false→
   RP a0 b0 l (slices_pdqsortCmpFunc_api_Known_s_l0 g A1 A2 A3 () L ((b:Int),(a:Int),wp,wb,lim,m,())).2.2.2.2.1∧InOrder lt a0 b0 (slices_pdqsortCmpFunc_api_Known_s_l0 g A1 A2 A3 () L ((b:Int),(a:Int),wp,wb,lim,m,())).2.2.2.2.1)∧
  slices_pdqsortCmpFunc_api_Known_s_l0 g' A1 A2 A3 () L ((b:Int),(a:Int),wp,wb,lim,m,())=slices_pdqsortCmpFunc_api_Known_s_l0 g A1 A2 A3 () L ((b:Int),(a:Int),wp,wb,lim,m,()):=by
 have hlen:=h4.len
 have hwd:IntKind.i64.wrap ((b:Int) - (a:Int))=((b - a:Nat):Int):=by rw [wrap_i64 (by omega) (by omega)]; omega
 unfold slices_pdqsortCmpFunc_api_Known_s_l0
 by_cases h12:((b - a:Nat):Int)≤12
 ·obtain ⟨m',e1,e2,e3⟩:=ins_r a b m (by omega) h2 (by omega)
  simp only [hwd,decT h12,e1,Bool.not_true,Bool.not_false,Bool.false_and,Bool.or_false,cond_true,cond_false,Bool.and_true]
  exact ⟨trivial,fun h=>(by cases h),fun _=>⟨h4.trans (e2.mono h1 h3),(h5.keep h1 h3 e2).done e3⟩,trivial⟩
 ·by_cases hl:lim=0
  ·subst hl
   obtain ⟨m',e1,e2,e3⟩:=heap_r a b m (by omega) h2 (by omega)
   simp only [hwd,decF h12,beq_self_eq_true,e1,Bool.not_true,Bool.not_false,Bool.false_and,Bool.and_false,Bool.or_false,cond_true,cond_false,Bool.and_true,Bool.true_and]
   exact ⟨trivial,fun h=>(by cases h),fun _=>⟨h4.trans (e2.mono h1 h3),(h5.keep h1 h3 e2).done e3⟩,trivial⟩
  ·
   have s1:∃ m1,cond (!wb) (slices_breakPatternsCmpFunc_api_Known_r (a:Int) (b:Int) () m).2 m=m1∧cond (!wb) (slices_breakPatternsCmpFunc_api_Known_r (a:Int) (b:Int) () m).1 true=true∧RP a b m m1:=by
    obtain ⟨m',e1,e2⟩:=break_r a b m h2 (by omega) (by omega)
    cases wb
    ·exact ⟨m',by rw [e1]; rfl,by rw [e1]; rfl,e2⟩
    ·exact ⟨m,rfl,rfl,RP.refl _ _ _⟩
   obtain ⟨m1,e1,e1',r1⟩:=s1
   have hl1:=r1.len
   obtain ⟨k,hint,e2,k1,k2⟩:=pivot_r a b m1 (by omega) (by omega) (by omega)
   have s3:∃ m2,cond (hint==2) (slices_reverseRangeCmpFunc_api_Known_r (a:Int) (b:Int) () m1).2 m1=m2∧cond (hint==2) (slices_reverseRangeCmpFunc_api_Known_r (a:Int) (b:Int) () m1).1 true=true∧RP a b m1 m2:=by
    obtain ⟨m',e1,e2⟩:=rev_r a b m1 (by omega) h2 (by omega)
    cases hint==2
    ·exact ⟨m1,rfl,rfl,RP.refl _ _ _⟩
    ·exact ⟨m',by rw [e1]; rfl,by rw [e1]; rfl,e2⟩
   obtain ⟨m2,e3,e3',r2⟩:=s3
   have hl2:=r2.len
   have s4:∃ pv:Nat,cond (hint==2) (IntKind.i64.wrap (IntKind.i64.wrap ((b:Int) - 1) - IntKind.i64.wrap ((k:Int) - (a:Int)))) (k:Int)=(pv:Int)∧a≤pv∧pv<b:=by
    cases hint==2
    ·exact ⟨k,rfl,k1,k2⟩
    ·refine ⟨b - 1 - (k - a),?_,by omega,by omega⟩
     rw [wrap_i64 (x:=(b:Int) - 1) (by omega) (by omega),wrap_i64 (x:=(k:Int) - (a:Int)) (by omega) (by omega),cond_true,wrap_i64 (by omega) (by omega)]
     omega
   obtain ⟨pv,e4,pv1,pv2⟩:=s4
   have low2:Low a b m2:=h6.of (r1.trans r2)
   obtain ⟨c,m3,e5,r3,o3⟩:=pis_r a b m2 (by omega) (by omega) (by omega) low2
   have hl3:=r3.len
   simp only [hwd,decF h12,beqI hl,e1,e1',e2,e3,e3',e4,e5,Bool.not_true,Bool.not_false,cond_true,cond_false,Bool.and_true,Bool.true_and,Bool.and_self,Bool.cond_self]
   generalize ht:cond (cond wb wp false) (cond (hint==2) (1:Int) hint==1) false=t
   by_cases hct:(c && t)=true
   ·
    simp only [Bool.and_eq_true] at hct
    obtain ⟨rfl,rfl⟩:=hct
    simp only [cond_true,cond_false,Bool.not_true,Bool.false_and,Bool.and_false,Bool.or_false,Bool.and_true,Bool.cond_self,Bool.or_self]
    exact ⟨by cases wb<;>cases wp<;>rfl,fun h=>(by cases h),fun _=>⟨h4.trans ((r1.trans (r2.trans r3)).mono h1 h3),(h5.keep h1 h3 (r1.trans (r2.trans r3))).done (o3 rfl)⟩,trivial⟩
   ·have hgo:cond t (!c) true=true:=by cases c<;>cases t<;>simp_all
    have hcf:(c && t)=false:=by simpa using hct
    have s6:∃ m4,cond t m3 m2=m4∧RP a b m2 m4:=by
     cases t
     ·exact ⟨m2,rfl,RP.refl _ _ _⟩
     ·exact ⟨m3,rfl,r3⟩
    obtain ⟨m4,e6,r4⟩:=s6
    have hl4:=r4.len
    have rr:RP a b m m4:=r1.trans (r2.trans r4)
    have low4:Low a b m4:=h6.of rr
    have pend4:=h5.keep h1 h3 rr
    have hp:m4[pv]? =some (m4[pv]'(by omega)):=List.getElem?_eq_getElem (by omega)
    generalize m4[pv]'(by omega)=p at hp
    simp only [hgo,hcf,e6,Int.toNat_natCast,hp,Option.getD_some,order_r,cond_true,Bool.and_true,Bool.true_and,Bool.cond_self]
    have hT:∀ x:Bool,cond x x true=true:=fun x=>by cases x<;>rfl
    have fin:∀ (hq:¬ ((a:Int)>0∧¬ ordK ((m4[((IntKind.i64.wrap ((a:Int) - 1))).toNat]?).getD (0,0,0,0,false)) p<0)),cond (decide ((a:Int)>0)) (!decide (ordK ((m4[((IntKind.i64.wrap ((a:Int) - 1))).toNat]?).getD (0,0,0,0,false)) p<0)) false=false:=fun hq=>by
     by_cases ha:(a:Int)>0
     ·simp only [decT ha,cond_true]
      by_cases hh:ordK ((m4[((IntKind.i64.wrap ((a:Int) - 1))).toNat]?).getD (0,0,0,0,false)) p<0
      ·simp only [decT hh,Bool.not_true]
      ·exact absurd ⟨ha,hh⟩ hq
     ·simp only [decF ha,cond_false]
    by_cases hq:(a:Int)>0∧¬ ordK ((m4[((IntKind.i64.wrap ((a:Int) - 1))).toNat]?).getD (0,0,0,0,false)) p<0
    ·obtain ⟨ha,hcmp⟩:=hq
     obtain ⟨kq,mq,f1,f2,f3,f4,f5⟩:=peq_r a b pv m4 pv1 pv2 (by omega) (by omega) p hp
     have hw1:IntKind.i64.wrap ((a:Int) - 1)=((a - 1:Nat):Int):=by rw [wrap_i64 (by omega) (by omega)]; omega
     rw [hw1] at hcmp ⊢
     have hz:m4[a - 1]? =some (m4[a - 1]'(by omega)):=List.getElem?_eq_getElem (by omega)
     generalize m4[a - 1]'(by omega)=z at hz
     rw [Int.toNat_natCast,hz,Option.getD_some] at hcmp
     simp only [decT ha,Int.toNat_natCast,hz,Option.getD_some,decF hcmp,f1,cond_true,cond_false,Bool.not_false,Bool.not_true,Bool.and_false,Bool.and_true,Bool.true_and,Bool.false_or,Bool.false_and,decT (show a - 1<m4.length by omega),decT (show pv<m4.length by omega),decT (show (0:Int)≤((a - 1:Nat):Int) by omega),decT (show (0:Int)≤(pv:Int) by omega),Bool.cond_self,hT,Bool.and_self]
     refine ⟨trivial,fun _=>⟨kq,b,_,_,_,mq,rfl,by omega,f3,h3,by omega,h4.trans ((rr.trans f4).mono h1 h3),?_,?_⟩,fun h=>(by cases h),trivial⟩
     ·exact ((pend4.keep h1 h3 f4).equal (by omega) (by rw [f4.out (a - 1) (.inl (by omega))]; exact hz) (low4.of f4) hcmp f5)
     ·refine .inr fun i x u k1 k2 k3 k4=> ?_
      exact ((Pend.start a b mq).equal (by omega) (by rw [f4.out (a - 1) (.inl (by omega))]; exact hz) (low4.of f4) hcmp f5) (kq - 1) i u x (by omega) (by omega) k2 (.inl (by omega)) k4 k3
    ·have hqf:=fin hq
     obtain ⟨kp,done,mp,p',f1,f2,f3,f4,f5⟩:=part_r a b pv m4 pv1 pv2 (by omega) (by omega)
     have hl5:=f4.len
     have lowp:=low4.of f4
     have pendp:=pend4.keep h1 h3 f4
     have hwl:IntKind.i64.wrap ((kp:Int) - (a:Int))=((kp - a:Nat):Int):=by rw [wrap_i64 (by omega) (by omega)]; omega
     have hwr:IntKind.i64.wrap ((b:Int) - (kp:Int))=((b - kp:Nat):Int):=by rw [wrap_i64 (by omega) (by omega)]; omega
     have hwk:IntKind.i64.wrap ((kp:Int)+1)=((kp+1:Nat):Int):=by rw [wrap_i64 (by omega) (by omega)]; omega
     have hchk:∀ x:Bool,cond (decide ((a:Int)>0)) (decide ((a:Int)>0) && (decide ((a:Int)>0) && (decide (0≤IntKind.i64.wrap ((a:Int) - 1)) && decide ((IntKind.i64.wrap ((a:Int) - 1)).toNat<m4.length)))) true=true:=fun _=>by
      by_cases ha:(a:Int)>0
      ·have hw1:IntKind.i64.wrap ((a:Int) - 1)=((a - 1:Nat):Int):=by rw [wrap_i64 (by omega) (by omega)]; omega
       simp only [decT ha,hw1,Int.toNat_natCast,decT (show a - 1<m4.length by omega),decT (show (0:Int)≤((a - 1:Nat):Int) by omega),cond_true,Bool.and_self]
      ·simp only [decF ha,cond_false]
     have hchk2:cond (decide ((a:Int)>0)) (decide ((a:Int)>0) && decide ((IntKind.i64.wrap ((a:Int) - 1)).toNat<m4.length)) true=true:=by
      by_cases ha:(a:Int)>0
      ·have hw1:IntKind.i64.wrap ((a:Int) - 1)=((a - 1:Nat):Int):=by rw [wrap_i64 (by omega) (by omega)]; omega
       simp only [decT ha,hw1,Int.toNat_natCast,decT (show a - 1<m4.length by omega),cond_true,Bool.and_self]
      ·simp only [decF ha,cond_false]
     have hT2:∀ x:Bool,cond x (x && (x && true)) true=true:=fun x=>by cases x<;>rfl
     have hT3:∀ x:Bool,cond x (x && x) true=true:=fun x=>by cases x<;>rfl
     have hT4:∀ x:Bool,cond x (x && (x && x)) true=true:=fun x=>by cases x<;>rfl
     by_cases hlr:((kp - a:Nat):Int)<((b - kp:Nat):Int)
     ·have hI:PqI ((a:Int),(kp:Int),cond (!wb) (IntKind.i64.wrap (lim - 1)) lim,(),mp,()):=⟨a,kp,_,mp,rfl,f2,by omega,by omega,by
       rcases lowp with h0 | h0
       ·exact .inl h0
       ·exact .inr fun i x z k1 k2 k3 k4=>h0 i x z k1 (by omega) k3 k4⟩
      obtain ⟨g1,⟨g2,g3⟩,g4⟩:=hg _ hI (by show (kp:Int).toNat - (a:Int).toNat<b0 - a0; omega)
      simp only [Int.toNat_natCast] at g2 g3
      simp only [hqf,f1,hwl,hwr,hwk,decT hlr,g1,g4,hchk true,hchk2,hT,hT2,hT3,hT4,cond_true,cond_false,Bool.not_false,Bool.not_true,Bool.and_true,Bool.true_and,Bool.and_false,Bool.or_false,decT (show pv<m4.length by omega),decT (show (0:Int)≤(pv:Int) by omega),Bool.and_self,show ((8:Int) !=0)=true from rfl]
      refine ⟨g1,fun _=>⟨kp+1,b,_,_,_,_,rfl,by omega,by omega,h3,by omega,h4.trans (((rr.trans f4).trans (g2.mono (Nat.le_refl _) (by omega))).mono h1 h3),?_,?_⟩,fun h=>(by cases h),congrArg (outR _ _ _ _ _ _) g4⟩
      ·exact (pendp.keep h1 h3 (g2.mono (Nat.le_refl _) (by omega))).left (f5.keepL g2) g3
      ·refine .inr fun i x u k1 k2 k3 k4=> ?_
       have hs:=f5.keepL g2
       have hu:u=p':=Option.some.inj (k4.symm.trans hs.at')
       rw [hu]
       exact hs.right i x (by omega) k2 k3
     ·have hI:PqI (((kp+1:Nat):Int),(b:Int),cond (!wb) (IntKind.i64.wrap (lim - 1)) lim,(),mp,()):=⟨kp+1,b,_,mp,rfl,by omega,by omega,by omega,.inr fun i x u k1 k2 k3 k4=>by
       rw [show kp+1 - 1=kp by omega,f5.at'] at k4
       injection k4 with k4; subst k4
       exact f5.right i x (by omega) k2 k3⟩
      obtain ⟨g1,⟨g2,g3⟩,g4⟩:=hg _ hI (by show (b:Int).toNat - ((kp+1:Nat):Int).toNat<b0 - a0; omega)
      simp only [Int.toNat_natCast] at g2 g3
      simp only [hqf,f1,hwl,hwr,hwk,decF hlr,g1,g4,hchk true,hchk2,hT,hT2,hT3,hT4,cond_true,cond_false,Bool.not_false,Bool.not_true,Bool.and_true,Bool.true_and,Bool.and_false,Bool.or_false,decT (show pv<m4.length by omega),decT (show (0:Int)≤(pv:Int) by omega),Bool.and_self,show ((8:Int) !=0)=true from rfl]
      refine ⟨g1,fun _=>⟨a,kp,_,_,_,_,rfl,by omega,by omega,by omega,by omega,h4.trans (((rr.trans f4).trans (g2.mono (by omega) (Nat.le_refl _))).mono h1 h3),?_,?_⟩,fun h=>(by cases h),congrArg (outR _ _ _ _ _ _) g4⟩
      ·exact (pendp.keep h1 h3 (g2.mono (by omega) (Nat.le_refl _))).right (f5.keepR g2) g3
      ·have lowq:=lowp.of (g2.mono (by omega) (Nat.le_refl _))
       rcases lowq with h0 | h0
       ·exact .inl h0
       ·exact .inr fun i x z k1 k2 k3 k4=>h0 i x z k1 (by omega) k3 k4
noncomputable def pqS (g:(Int × Int × Int × Unit × List Ed × Unit)→Bool × (List Ed × Unit)) (x:Int × Int × Int × Unit × List Ed × Unit):Bool × (List Ed × Unit):=slices_pdqsortCmpFunc_api_Known_s g x
theorem pqS_eq (g:(Int × Int × Int × Unit × List Ed × Unit)→Bool × (List Ed × Unit)) (a b:Nat) (lim:Int) (l:List Ed):pqS g ((a:Int),(b:Int),lim,(),l,())=
  ((loopR (HL.dflt [.bool,(.fl (.row (.prod (.int .i64) (.prod (.int .i64) (.prod (.int .i64) (.prod (.int .i64) .bool))))))]) (slices_pdqsortCmpFunc_api_Known_s_l0 g (a:Int) (b:Int) lim () l) ((b:Int),(a:Int),true,true,lim,l,())).1,
   ((loopR (HL.dflt [.bool,(.fl (.row (.prod (.int .i64) (.prod (.int .i64) (.prod (.int .i64) (.prod (.int .i64) .bool))))))]) (slices_pdqsortCmpFunc_api_Known_s_l0 g (a:Int) (b:Int) lim () l) ((b:Int),(a:Int),true,true,lim,l,())).2.2.1,())):=rfl
def PqInv (a b:Nat) (l:List Ed) (s:Int × Int × Bool × Bool × Int × List Ed × Unit):Prop:=∃ (a' b':Nat) (wp' wb':Bool) (lim':Int) (m':List Ed),s=((b':Int),(a':Int),wp',wb',lim',m',())∧a≤a'∧a'≤b'∧b'≤b∧RP a b l m'∧Pend a a' b' b m'∧Low a' b' m'
theorem pq_loop (g g':(Int × Int × Int × Unit × List Ed × Unit)→Bool × (List Ed × Unit)) (a b:Nat) (lim:Int) (l:List Ed) (h1:a≤b) (h2:b≤l.length) (h3:l.length≤1152921504606846976) (h4:Low a b l)
  (hg:∀ y,PqI y→y.2.1.toNat - y.1.toNat<b - a→(g y).1=true∧PqP y (g y).2∧g' y=g y):
  ((loopR (HL.dflt [.bool,(.fl (.row (.prod (.int .i64) (.prod (.int .i64) (.prod (.int .i64) (.prod (.int .i64) .bool))))))]) (slices_pdqsortCmpFunc_api_Known_s_l0 g (a:Int) (b:Int) lim () l) ((b:Int),(a:Int),true,true,lim,l,())).1=true∧
   (fun r:Bool × List Ed × Unit=>RP a b l r.2.1∧InOrder lt a b r.2.1) (loopR (HL.dflt [.bool,(.fl (.row (.prod (.int .i64) (.prod (.int .i64) (.prod (.int .i64) (.prod (.int .i64) .bool))))))]) (slices_pdqsortCmpFunc_api_Known_s_l0 g (a:Int) (b:Int) lim () l) ((b:Int),(a:Int),true,true,lim,l,())).2)∧
  loopR (HL.dflt [.bool,(.fl (.row (.prod (.int .i64) (.prod (.int .i64) (.prod (.int .i64) (.prod (.int .i64) .bool))))))]) (slices_pdqsortCmpFunc_api_Known_s_l0 g' (a:Int) (b:Int) lim () l) ((b:Int),(a:Int),true,true,lim,l,())=
   loopR (HL.dflt [.bool,(.fl (.row (.prod (.int .i64) (.prod (.int .i64) (.prod (.int .i64) (.prod (.int .i64) .bool))))))]) (slices_pdqsortCmpFunc_api_Known_s_l0 g (a:Int) (b:Int) lim () l) ((b:Int),(a:Int),true,true,lim,l,()):=by
 have hI0:PqInv a b l ((b:Int),(a:Int),true,true,lim,l,()):=⟨a,b,true,true,lim,l,rfl,Nat.le_refl _,h1,Nat.le_refl _,RP.refl _ _ _,Pend.start a b l,h4⟩
 constructor
 ·exact loopR_by (d:=HL.dflt [.bool,(.fl (.row (.prod (.int .i64) (.prod (.int .i64) (.prod (.int .i64) (.prod (.int .i64) .bool))))))]) (step:=slices_pdqsortCmpFunc_api_Known_s_l0 g (a:Int) (b:Int) lim () l) (PqInv a b l)
   (fun s=>s.1.toNat - s.2.1.toNat) (fun r:Bool × List Ed × Unit=>RP a b l r.2.1∧InOrder lt a b r.2.1) ((b:Int),(a:Int),true,true,lim,l,()) hI0 (by
    rintro _ ⟨a',b',wp,wb,lim',m,rfl,k1,k2,k3,k4,k5,k6⟩
    obtain ⟨r1,r2,r3,_⟩:=pdq_round g g' a b (a:Int) (b:Int) lim l l h2 h3 hg a' b' wp wb lim' m k1 k2 k3 k4 k5 k6
    generalize slices_pdqsortCmpFunc_api_Known_s_l0 g (a:Int) (b:Int) lim () l ((b':Int),(a':Int),wp,wb,lim',m,())=z at r1 r2 r3 ⊢
    obtain ⟨z1,z2,z3,z4⟩:=z
    refine ⟨r1,fun h=> ?_,r3⟩
    obtain ⟨a2,b2,wp2,wb2,lim2,m2,e,q1,q2,q3,q4,q5,q6,q7⟩:=r2 h
    have e:z3=_:=e
    subst e
    exact ⟨⟨a2,b2,wp2,wb2,lim2,m2,rfl,q1,q2,q3,q5,q6,q7⟩,by
     show (b2:Int).toNat - (a2:Int).toNat<(b':Int).toNat - (a':Int).toNat
     omega⟩)
 ·exact loopR_cong (d:=HL.dflt [.bool,(.fl (.row (.prod (.int .i64) (.prod (.int .i64) (.prod (.int .i64) (.prod (.int .i64) .bool))))))]) (step:=slices_pdqsortCmpFunc_api_Known_s_l0 g (a:Int) (b:Int) lim () l) (step':=slices_pdqsortCmpFunc_api_Known_s_l0 g' (a:Int) (b:Int) lim () l) (PqInv a b l) ((b:Int),(a:Int),true,true,lim,l,()) hI0 (by
    rintro _ ⟨a',b',wp,wb,lim',m,rfl,k1,k2,k3,k4,k5,k6⟩
    obtain ⟨r1,r2,r3,r4⟩:=pdq_round g g' a b (a:Int) (b:Int) lim l l h2 h3 hg a' b' wp wb lim' m k1 k2 k3 k4 k5 k6
    generalize slices_pdqsortCmpFunc_api_Known_s_l0 g' (a:Int) (b:Int) lim () l ((b':Int),(a':Int),wp,wb,lim',m,())=z' at r4 ⊢
    generalize slices_pdqsortCmpFunc_api_Known_s_l0 g (a:Int) (b:Int) lim () l ((b':Int),(a':Int),wp,wb,lim',m,())=z at r2 r4 ⊢
    obtain ⟨z1,z2,z3,z4⟩:=z
    refine ⟨r4,fun h=> ?_⟩
    obtain ⟨a2,b2,wp2,wb2,lim2,m2,e,q1,q2,q3,q4,q5,q6,q7⟩:=r2 h
    have e:z3=_:=e
    subst e
    exact ⟨a2,b2,wp2,wb2,lim2,m2,rfl,q1,q2,q3,q5,q6,q7⟩)
theorem pq_step (g g':(Int × Int × Int × Unit × List Ed × Unit)→Bool × (List Ed × Unit)) (x:Int × Int × Int × Unit × List Ed × Unit) (hI:PqI x)
  (hg:∀ y,PqI y→y.2.1.toNat - y.1.toNat<x.2.1.toNat - x.1.toNat→(g y).1=true∧PqP y (g y).2∧g' y=g y):(pqS g x).1=true∧PqP x (pqS g x).2∧pqS g' x=pqS g x:=by
 obtain ⟨a,b,lim,l,rfl,h1,h2,h3,h4⟩:=hI
 simp only [Int.toNat_natCast] at hg
 obtain ⟨⟨k1,k2⟩,k3⟩:=pq_loop g g' a b lim l h1 h2 h3 h4 hg
 refine ⟨?_,?_,?_⟩
 ·rw [pqS_eq]; exact k1
 ·rw [pqS_eq]
  unfold PqP
  simp only [Int.toNat_natCast]
  exact k2
 ·rw [pqS_eq,pqS_eq,k3]
theorem pdq_r (l:List Ed) (lim:Int) (hbig:l.length≤1152921504606846976):∃ m,slices_pdqsortCmpFunc_api_Known_r (0:Int) (l.length:Int) lim () l=(true,m)∧m.Perm l∧InOrder lt 0 l.length m:=by
 have key:=recF_any (e:=slices_pdqsortCmpFunc_api_Known_e) (step:=slices_pdqsortCmpFunc_api_Known_s) PqI (fun x:Int × Int × Int × Unit × List Ed × Unit=>x.2.1.toNat - x.1.toNat) PqP pq_step
  ((0:Int),(l.length:Int),lim,(),l,()) ⟨0,l.length,lim,l,rfl,Nat.zero_le _,Nat.le_refl _,hbig,.inl rfl⟩
 obtain ⟨k1,k2,k3⟩:=key
 unfold slices_pdqsortCmpFunc_api_Known_r
 exact ⟨_,Prod.ext k1 rfl,k2.perm,k3⟩
def Sorted (l:List Ed):Prop:=l.Pairwise (fun x y=>¬ lt y x)
theorem sortFunc_r (l:List Ed) (hbig:l.length≤1152921504606846976):∃ m,slices_SortFunc_api_Known_r () l=(true,m)∧m.Perm l∧Sorted m:=by
 obtain ⟨L,e,h1,h2⟩:=len_r l.length (by omega)
 obtain ⟨m,e2,h3,h4⟩:=pdq_r l (L:Int) hbig
 unfold slices_SortFunc_api_Known_r
 rw [u64_id _ (by omega)]
 simp only [e,e2,Bool.and_self]
 refine ⟨m,rfl,h3,?_⟩
 have:=InOrder_pair h4
 rw [← h3.length_eq,List.take_length,List.drop_zero] at this
 exact this
end Go.Proofs.Ytoaegfcmfkalfaa.T.Q
