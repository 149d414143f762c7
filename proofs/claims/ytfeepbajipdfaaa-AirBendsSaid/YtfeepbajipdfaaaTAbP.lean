/- Whatever is done, any number of times: what comes was put on that way, or is no frame, if all that was put are frames. The plain laws. -/
import Derived.Test.YtfeepbajipdfaaaTAbF
namespace Go.Proofs.Ytfeepbajipdfaaa.T
open Go.Vm Go.Tm
set_option linter.unusedVariables false
set_option linter.unusedSimpArgs false
abbrev Ed:=Int × Int × Int
theorem node_r (n:Int):edge_Node_r n=(true,decide (1≤n∧n≤64)):=by
 unfold edge_Node_r
 by_cases h1:1≤n<;>simp [h1]
def May (e:Ed):Prop:=1≤e.1∧e.1≤64∧1≤e.2.1∧e.2.1≤64∧e.1<e.2.1∧0≤e.2.2∧e.2.2≤2147483647
instance (e:Ed):Decidable (May e):=by unfold May; exact inferInstance
def Apart (a b:Ed):Prop:=¬ (a.1=b.1∧a.2.1=b.2.1)
instance (a b:Ed):Decidable (Apart a b):=by unfold Apart; exact inferInstance
def AllMay (l:List Ed):Prop:=(∀ e∈l,May e)∧l.Pairwise Apart
instance (l:List Ed):Decidable (AllMay l):=by unfold AllMay; exact inferInstance
def chk (l:List Ed):Int:=if AllMay l then (if l.length>512 then 3 else 0) else 1
theorem refNode_r (n:Int):withyref05_Node_r n=(true,decide (1≤n∧n≤64)):=by
 unfold withyref05_Node_r
 by_cases h1:1≤n<;>simp [h1]
theorem edgeCheck_r (e:Ed):edge_Check_r e=(true,if May e then 0 else 1):=by
 unfold edge_Check_r May
 simp only [node_r]
 by_cases h1:1≤e.1∧e.1≤64<;>by_cases h2:1≤e.2.1∧e.2.1≤64<;>by_cases h3:e.2.1≤e.1<;>by_cases h4:e.2.2<0<;>by_cases h5:2147483647<e.2.2<;>simp [h1,h2,h3,h4,h5]<;>omega
theorem allMay_step {l:List Ed} {i:Nat} (hi:i<l.length):AllMay (l.take (i+1))↔AllMay (l.take i)∧May l[i]∧∀ e∈l.take i,Apart e l[i]:=by
 have e:l.take (i+1)=l.take i++ [l[i]]:=by rw [List.take_add_one,List.getElem?_eq_getElem hi]; rfl
 rw [e]
 unfold AllMay
 rw [List.pairwise_append]
 constructor
 ·rintro ⟨h1,h2,h3,h4⟩
  exact ⟨⟨fun e he=>h1 e (List.mem_append_left _ he),h2⟩,h1 _ (List.mem_append_right _ (.head _)),fun e he=>h4 e he _ (.head _)⟩
 ·rintro ⟨⟨h1,h2⟩,h3,h4⟩
  refine ⟨fun e he=> ?_,h2,List.pairwise_singleton _ _,fun e he x hx=> ?_⟩
  ·rcases List.mem_append.1 he with h | h
   ·exact h1 e h
   ·rw [List.mem_singleton.1 h]; exact h3
  ·rw [List.mem_singleton.1 hx]; exact h4 e he
theorem allMay_take {l:List Ed} (i:Nat) (h:AllMay l):AllMay (l.take i):=⟨fun e he=>h.1 e (List.mem_of_mem_take he),h.2.sublist (List.take_sublist _ _)⟩
theorem chk_bad {l:List Ed} (i:Nat) (h:¬ AllMay (l.take i)):chk l=1:=by
 unfold chk
 rw [if_neg (fun hh=>h (allMay_take i hh))]
theorem beq_ed (a b:Ed):Ty.beq (.row (.prod (.int .i64) (.prod (.int .i64) (.int .i64)))) a b=true↔a=b:=by
 obtain ⟨x,y,w⟩:=a
 obtain ⟨x',y',w'⟩:=b
 show ((x==x') && ((y==y') && (w==w')))=true↔_
 simp
theorem checkAll_r (l:List Ed) (hbig:l.length≤1152921504606846976):edge_CheckAll_r l=(true,chk l):=by
 have key:=loopR_by (d:=HL.dflt [.bool,.int .i64,(.fl (.prod (.row (.prod (.int .i64) (.prod (.int .i64) (.int .i64)))) .bool)),.bool,(.fl (.prod (.row (.prod (.int .i64) (.prod (.int .i64) (.int .i64)))) .bool))]) (step:=edge_CheckAll_l0 l)
  (fun s:Int × List (Ed × Bool) × Unit=>∃ (i:Nat) (M:List (Ed × Bool)),s=((i:Int),M,())∧i≤l.length∧AllMay (l.take i)∧∀ k:Ed,mapGet (k:=(.row (.prod (.int .i64) (.prod (.int .i64) (.int .i64))))) (v:=.bool) M k false=true↔∃ e∈l.take i,k=(e.1,e.2.1,0))
  (fun s=>l.length - s.1.toNat) (fun r:Bool × Int × List (Ed × Bool) × Bool × List (Ed × Bool) × Unit=>cond r.2.2.2.1 (cond (!(decide ((l.length:Int)>(512:Int)))) (0:Int) (3:Int)) r.2.1=chk l) ((0:Int),[],())
  ⟨0,[],rfl,Nat.zero_le _,⟨fun e he=>by simp at he,by simp⟩,fun k=>by simp [mapGet]⟩ (by
   rintro _ ⟨i,M,rfl,h1,h2,h3⟩
   unfold edge_CheckAll_l0
   by_cases hi:i<l.length
   ·have g1:(i:Int)<(l.length:Int):=by omega
    have hw:IntKind.i64.wrap ((i:Int)+1)=((i+1:Nat):Int):=by rw [wrap_i64 (by omega) (by omega)]; omega
    have hx:l[i]? =some l[i]:=List.getElem?_eq_getElem hi
    have hst:=allMay_step hi
    have hbad:=chk_bad (l:=l) (i+1)
    generalize l[i]=x at hx hst
    have tk:l.take (i+1)=l.take i++ [x]:=by rw [List.take_add_one,hx]; rfl
    by_cases hm:May x
    ·by_cases hmet:mapGet (k:=(.row (.prod (.int .i64) (.prod (.int .i64) (.int .i64))))) (v:=.bool) M (x.1,x.2.1,0) false=true
     ·simp only [decT g1,hw,Int.toNat_natCast,hx,Option.getD_some,edgeCheck_r,if_pos hm,hmet,decT hi,decT (show (0:Int)≤(i:Int) by omega),show ((0:Int) !=0)=false from rfl,Bool.not_false,Bool.not_true,cond_true,cond_false,Bool.and_true,Bool.and_self,Bool.true_and,Bool.and_false]
      refine ⟨trivial,fun h=>(by cases h),fun _=> ?_⟩
      obtain ⟨e,he,hk⟩:=(h3 _).1 hmet
      refine (hbad fun hh=> ?_).symm
      have:=(hst.1 hh).2.2 e he
      exact this ⟨by injection hk with a b; exact a.symm,by injection hk with a b; injection b with b c; exact b.symm⟩
     ·have hmet':=Bool.eq_false_iff.2 hmet
      simp only [decT g1,hw,Int.toNat_natCast,hx,Option.getD_some,edgeCheck_r,if_pos hm,hmet',decT hi,decT (show (0:Int)≤(i:Int) by omega),show ((0:Int) !=0)=false from rfl,Bool.not_false,Bool.not_true,cond_true,cond_false,Bool.and_true,Bool.and_self,Bool.true_and,Bool.and_false]
      refine ⟨trivial,fun _=>⟨⟨i+1,_,rfl,by omega,hst.2 ⟨h2,hm,fun e he hh=>hmet ((h3 _).2 ⟨e,he,by rw [hh.1,hh.2]⟩)⟩,fun k=> ?_⟩,by
       show l.length - (((i+1:Nat):Int)).toNat<l.length - ((i:Int)).toNat
       omega⟩,fun h=>by cases h⟩
      rw [mapGet_put beq_ed,tk]
      by_cases hk:k=(x.1,x.2.1,0)
      ·rw [if_pos hk]
       exact ⟨fun _=>⟨x,List.mem_append_right _ (.head _),hk⟩,fun _=>rfl⟩
      ·rw [if_neg hk,h3]
       constructor
       ·rintro ⟨e,he,hh⟩; exact ⟨e,List.mem_append_left _ he,hh⟩
       ·rintro ⟨e,he,hh⟩
        rcases List.mem_append.1 he with h | h
        ·exact ⟨e,h,hh⟩
        ·rw [List.mem_singleton.1 h] at hh; exact absurd hh hk
    ·simp only [decT g1,hw,Int.toNat_natCast,hx,Option.getD_some,edgeCheck_r,if_neg hm,decT hi,decT (show (0:Int)≤(i:Int) by omega),show ((1:Int) !=0)=true from rfl,Bool.not_false,Bool.not_true,cond_true,cond_false,Bool.and_true,Bool.and_self,Bool.true_and,Bool.and_false]
     exact ⟨trivial,fun h=>(by cases h),fun _=>(hbad fun hh=>hm (hst.1 hh).2.1).symm⟩
   ·have g1:¬ (i:Int)<(l.length:Int):=by omega
    simp only [decF g1,cond_false,Bool.false_and,Bool.not_false,cond_true]
    refine ⟨trivial,fun h=>(by cases h),fun _=> ?_⟩
    rw [List.take_of_length_le (by omega)] at h2
    unfold chk
    rw [if_pos h2]
    by_cases h512:(l.length:Int)>512
    ·rw [decT h512,if_pos (by omega)]; rfl
    ·rw [decF h512,if_neg (by omega)]; rfl)
 unfold edge_CheckAll_r
 simp only [loopD_eq]
 exact Prod.ext key.1 key.2
theorem chk_zero {l:List Ed} (h:chk l=0):AllMay l∧l.length≤512:=by
 unfold chk at h
 by_cases hl:AllMay l
 ·rw [if_pos hl] at h
  by_cases hn:l.length>512
  ·rw [if_pos hn] at h; cases h
  ·exact ⟨hl,by omega⟩
 ·rw [if_neg hl] at h; cases h
theorem refMay_r (e:Ed):withyref05_May_r e=(true,decide (May e)):=by
 unfold withyref05_May_r May
 simp only [refNode_r]
 by_cases h1:1≤e.1∧e.1≤64<;>by_cases h2:1≤e.2.1∧e.2.1≤64<;>by_cases h3:e.1<e.2.1<;>by_cases h4:0≤e.2.2<;>simp [h1,h2,h3,h4]<;>omega
theorem ref_l0 (l:List Ed) (hbig:l.length≤1152921504606846976):∃ r:Bool × Int × Bool × Unit,loopR (HL.dflt [.bool,.int .i64,.bool]) (withyref05_Check_l0 l) ((0:Int),())=(true,r)∧((r.2.2.1=true∧∀ e∈l,May e)∨(r.2.2.1=false∧r.2.1=1∧¬ ∀ e∈l,May e)):=by
 have key:=loopR_by (d:=HL.dflt [.bool,.int .i64,.bool]) (step:=withyref05_Check_l0 l) (fun s:Int × Unit=>∃ i:Nat,s=((i:Int),())∧i≤l.length∧∀ e∈l.take i,May e) (fun s=>l.length - s.1.toNat)
  (fun r:Bool × Int × Bool × Unit=>(r.2.2.1=true∧∀ e∈l,May e)∨(r.2.2.1=false∧r.2.1=1∧¬ ∀ e∈l,May e)) ((0:Int),()) ⟨0,rfl,Nat.zero_le _,fun e he=>by simp at he⟩ (by
   rintro _ ⟨i,rfl,h1,h2⟩
   unfold withyref05_Check_l0
   by_cases hi:i<l.length
   ·have g1:(i:Int)<(l.length:Int):=by omega
    have hw:IntKind.i64.wrap ((i:Int)+1)=((i+1:Nat):Int):=by rw [wrap_i64 (by omega) (by omega)]; omega
    have hx:l[i]? =some l[i]:=List.getElem?_eq_getElem hi
    have hmem:l[i]∈l:=List.getElem_mem hi
    generalize l[i]=x at hx hmem
    by_cases hm:May x
    ·simp only [decT g1,hw,Int.toNat_natCast,hx,Option.getD_some,refMay_r,decT hm,decT hi,decT (show (0:Int)≤(i:Int) by omega),Bool.not_false,Bool.not_true,cond_true,Bool.and_true,Bool.and_self,Bool.and_false]
     refine ⟨trivial,fun _=>⟨⟨i+1,rfl,by omega,fun e he=> ?_⟩,by
      show l.length - (((i+1:Nat):Int)).toNat<l.length - ((i:Int)).toNat
      omega⟩,fun h=>by cases h⟩
     rw [List.take_add_one,hx] at he
     rcases List.mem_append.1 he with h | h
     ·exact h2 e h
     ·rw [show e=x by simpa using h]; exact hm
    ·simp only [decT g1,hw,Int.toNat_natCast,hx,Option.getD_some,refMay_r,decF hm,decT hi,decT (show (0:Int)≤(i:Int) by omega),Bool.not_false,Bool.not_true,cond_true,Bool.and_true,Bool.and_self,Bool.and_false]
     exact ⟨trivial,fun h=>(by cases h),fun _=>.inr ⟨by trivial,by trivial,fun hh=>hm (hh x hmem)⟩⟩
   ·have g1:¬ (i:Int)<(l.length:Int):=by omega
    simp only [decF g1,cond_false,Bool.false_and,Bool.not_false,Bool.not_true]
    rw [List.take_of_length_le (by omega)] at h2
    exact ⟨trivial,fun h=>(by cases h),fun _=>.inl ⟨by trivial,h2⟩⟩)
 exact ⟨_,Prod.ext key.1 rfl,key.2⟩
def Met (l:List Ed) (M:Nat→Nat→Bool):Prop:=∀ a b,M a b=true↔∃ e∈l,e.1.toNat=a∧e.2.1.toNat=b
theorem ref_l1 (l:List Ed) (hall:∀ e∈l,May e) (hbig:l.length≤1152921504606846976) (M0:Nat→Nat→Bool) (hM0:∀ a b,M0 a b=false):
  ∃ r:Bool × Int × (Nat→Nat→Bool) × Bool × (Nat→Nat→Bool) × Unit,loopR (HL.dflt [.bool,.int .i64,(.arr 65 (.arr 65 .bool)),.bool,(.arr 65 (.arr 65 .bool))]) (withyref05_Check_l1 l) ((0:Int),M0,())=(true,r)∧((r.2.2.2.1=true∧AllMay l)∨(r.2.2.2.1=false∧r.2.1=1∧¬ AllMay l)):=by
 have key:=loopR_by (d:=HL.dflt [.bool,.int .i64,(.arr 65 (.arr 65 .bool)),.bool,(.arr 65 (.arr 65 .bool))]) (step:=withyref05_Check_l1 l)
  (fun s:Int × (Nat→Nat→Bool) × Unit=>∃ (i:Nat) (M:Nat→Nat→Bool),s=((i:Int),M,())∧i≤l.length∧AllMay (l.take i)∧Met (l.take i) M) (fun s=>l.length - s.1.toNat)
  (fun r:Bool × Int × (Nat→Nat→Bool) × Bool × (Nat→Nat→Bool) × Unit=>(r.2.2.2.1=true∧AllMay l)∨(r.2.2.2.1=false∧r.2.1=1∧¬ AllMay l)) ((0:Int),M0,())
  ⟨0,M0,rfl,Nat.zero_le _,⟨fun e he=>by simp at he,by simp⟩,fun a b=>by simp [hM0]⟩ (by
   rintro _ ⟨i,M,rfl,h1,h2,h3⟩
   unfold withyref05_Check_l1
   by_cases hi:i<l.length
   ·have g1:(i:Int)<(l.length:Int):=by omega
    have hw:IntKind.i64.wrap ((i:Int)+1)=((i+1:Nat):Int):=by rw [wrap_i64 (by omega) (by omega)]; omega
    have hx:l[i]? =some l[i]:=List.getElem?_eq_getElem hi
    have hst:=allMay_step hi
    have hm:May l[i]:=hall _ (List.getElem_mem hi)
    generalize l[i]=x at hx hst hm
    have tk:l.take (i+1)=l.take i++ [x]:=by rw [List.take_add_one,hx]; rfl
    obtain ⟨m1,m2,m3,m4,m5,m6,m7⟩:=hm
    have same:∀ e∈l.take i,e.1.toNat=x.1.toNat→e.2.1.toNat=x.2.1.toNat→e.1=x.1∧e.2.1=x.2.1:=fun e he k1 k2=>by
     have:=h2.1 e he
     unfold May at this
     omega
    have d1:decide (x.1.toNat<65)=true:=decT (by omega)
    have d2:decide (x.2.1.toNat<65)=true:=decT (by omega)
    by_cases hmet:M x.1.toNat x.2.1.toNat=true
    ·simp only [decT g1,hw,Int.toNat_natCast,hx,Option.getD_some,hmet,decT hi,d1,d2,decT (show (0:Int)≤(i:Int) by omega),decT (show (0:Int)≤x.1 by omega),decT (show (0:Int)≤x.2.1 by omega),Bool.not_false,Bool.not_true,cond_true,cond_false,Bool.and_true,Bool.and_self,Bool.and_false]
     refine ⟨trivial,fun h=>(by cases h),fun _=>.inr ⟨by trivial,by trivial,fun hh=> ?_⟩⟩
     obtain ⟨e,he,k1,k2⟩:=(h3 _ _).1 hmet
     exact (hst.1 (allMay_take _ hh)).2.2 e he (same e he k1 k2)
    ·have hmet':=Bool.eq_false_iff.2 hmet
     simp only [decT g1,hw,Int.toNat_natCast,hx,Option.getD_some,hmet',decT hi,d1,d2,decT (show (0:Int)≤(i:Int) by omega),decT (show (0:Int)≤x.1 by omega),decT (show (0:Int)≤x.2.1 by omega),Bool.not_false,Bool.not_true,cond_true,cond_false,Bool.and_true,Bool.and_self,Bool.and_false]
     refine ⟨trivial,fun _=>⟨⟨i+1,_,rfl,by omega,hst.2 ⟨h2,⟨m1,m2,m3,m4,m5,m6,m7⟩,fun e he hh=>hmet ((h3 _ _).2 ⟨e,he,by rw [hh.1],by rw [hh.2]⟩)⟩,fun a b=> ?_⟩,by
      show l.length - (((i+1:Nat):Int)).toNat<l.length - ((i:Int)).toNat
      omega⟩,fun h=>by cases h⟩
     rw [tk]
     have e1:∀ a b,(bif Nat.beq a x.1.toNat then (fun j=>bif Nat.beq j x.2.1.toNat then true else M x.1.toNat j) else M a) b=true↔(a=x.1.toNat∧b=x.2.1.toNat)∨M a b=true:=fun a b=>by
      by_cases ha:a=x.1.toNat
      ·subst ha
       have:Nat.beq x.1.toNat x.1.toNat=true:=Nat.beq_refl _
       simp only [this,cond_true]
       by_cases hb:b=x.2.1.toNat
       ·subst hb
        have:Nat.beq x.2.1.toNat x.2.1.toNat=true:=Nat.beq_refl _
        simp [this]
       ·have:Nat.beq b x.2.1.toNat=false:=Bool.eq_false_iff.2 fun hh=>hb (Nat.eq_of_beq_eq_true hh)
        simp [this,hb]
      ·have:Nat.beq a x.1.toNat=false:=Bool.eq_false_iff.2 fun hh=>ha (Nat.eq_of_beq_eq_true hh)
       simp [this,ha]
     refine (e1 a b).trans ?_
     rw [h3]
     constructor
     ·rintro (⟨rfl,rfl⟩ | ⟨e,he,hh⟩)
      ·exact ⟨x,List.mem_append_right _ (.head _),rfl,rfl⟩
      ·exact ⟨e,List.mem_append_left _ he,hh⟩
     ·rintro ⟨e,he,hh⟩
      rcases List.mem_append.1 he with h | h
      ·exact .inr ⟨e,h,hh⟩
      ·rw [List.mem_singleton.1 h] at hh
       exact .inl ⟨hh.1.symm,hh.2.symm⟩
   ·have g1:¬ (i:Int)<(l.length:Int):=by omega
    simp only [decF g1,cond_false,Bool.false_and,Bool.not_false,Bool.not_true]
    rw [List.take_of_length_le (by omega)] at h2
    exact ⟨trivial,fun h=>(by cases h),fun _=>.inl ⟨by trivial,h2⟩⟩)
 exact ⟨_,Prod.ext key.1 rfl,key.2⟩
theorem none_in (i:Nat):((([false,false,false,false,false,false,false,false,false,false,false,false,false,false,false,false,false,false,false,false,false,false,false,false,false,false,false,false,false,false,false,false,false,false,false,false,false,false,false,false,false,false,false,false,false,false,false,false,false,false,false,false,false,false,false,false,false,false,false,false,false,false,false,false,false]:List Bool)[i]?).getD false)=false:=by
 show ((List.replicate 65 false)[i]?).getD false=false
 rw [List.getElem?_replicate]
 split<;>rfl
theorem none_in2 (c:Nat→Bool) (hc:∀ i,c i=false) (i j:Nat):((([c,c,c,c,c,c,c,c,c,c,c,c,c,c,c,c,c,c,c,c,c,c,c,c,c,c,c,c,c,c,c,c,c,c,c,c,c,c,c,c,c,c,c,c,c,c,c,c,c,c,c,c,c,c,c,c,c,c,c,c,c,c,c,c,c]:List (Nat→Bool))[i]?).getD (fun _=>false)) j=false:=by
 show ((List.replicate 65 c)[i]?).getD (fun _=>false) j=false
 rw [List.getElem?_replicate]
 split
 ·exact hc j
 ·rfl
theorem refCheck_r (l:List Ed) (hbig:l.length≤1152921504606846976):withyref05_Check_r l=(true,chk l):=by
 obtain ⟨⟨r0,r1,r2,_⟩,e0,h0⟩:=ref_l0 l hbig
 unfold withyref05_Check_r
 simp only [loopD_eq,e0]
 rcases h0 with ⟨h0,hall⟩ | ⟨h0,h1,hall⟩
 ·have h0:r2=true:=h0
  subst h0
  obtain ⟨⟨q0,q1,q2,q3,q4,_⟩,e1,h1⟩:=ref_l1 l hall hbig _ (fun a b=>none_in2 _ (fun i=>none_in i) a b)
  simp only [e1,cond_true,Bool.and_true]
  unfold chk
  rcases h1 with ⟨h1,h2⟩ | ⟨h1,h2,h3⟩
  ·have h1:q3=true:=h1
   subst h1
   rw [if_pos h2,cond_true]
   by_cases h512:(l.length:Int)>512
   ·rw [decT h512,if_pos (by omega)]; rfl
   ·rw [decF h512,if_neg (by omega)]; rfl
  ·have h1:q3=false:=h1
   have h2:q1=1:=h2
   subst h1; subst h2
   rw [if_neg h3,cond_false]
 ·have h0:r2=false:=h0
  have h1:r1=1:=h1
  subst h0; subst h1
  simp only [cond_false,Bool.and_true]
  unfold chk
  rw [if_neg (fun hh=>hall hh.1)]
theorem same_r (a b:List Ed) (hbig:a.length≤1152921504606846976):withyref05_Same_r a b=(true,decide (a=b)):=by
 unfold withyref05_Same_r
 by_cases hl:a.length=b.length
 ·have key:=loop_all (d:=HL.dflt [.bool,.bool,.bool]) (step:=withyref05_Same_l0 a b) a.length (fun i=>decide ((a[i]?).getD (0,0,0)=(b[i]?).getD (0,0,0))) (true,false,false,()) (false,false,true,())
   (fun i hi=>by
    have g1:(i:Int)<(a.length:Int):=by omega
    have hw:IntKind.i64.wrap ((i:Int)+1)=((i+1:Nat):Int):=by rw [wrap_i64 (by omega) (by omega)]; omega
    have hx:a[i]? =some a[i]:=List.getElem?_eq_getElem hi
    have hy:b[i]? =some (b[i]'(by omega)):=List.getElem?_eq_getElem (by omega)
    generalize a[i]=x at hx
    generalize b[i]'(by omega)=y at hy
    have hb:((x.1==y.1) && ((x.2.1==y.2.1) && (x.2.2==y.2.2)))=decide (x=y):=by
     have:=beq_ed x y
     change (((x.1==y.1) && ((x.2.1==y.2.1) && (x.2.2==y.2.2)))=true↔x=y) at this
     by_cases hh:x=y
     ·rw [decT hh]; exact this.2 hh
     ·rw [decF hh]; exact Bool.eq_false_iff.2 fun k=>hh (this.1 k)
    unfold withyref05_Same_l0
    simp only [decT g1,hw,Int.toNat_natCast,hx,hy,Option.getD_some,hb,decT hi,decT (show i<b.length by omega),decT (show (0:Int)≤(i:Int) by omega),cond_true,Bool.and_true,Bool.and_self,Bool.true_and,Bool.not_not,Bool.not_true]
    exact ⟨trivial,trivial,fun _=>trivial,fun h=>by rw [h]; rfl⟩)
   (by
    have g1:¬ (a.length:Int)<(a.length:Int):=by omega
    unfold withyref05_Same_l0
    simp only [decF g1,cond_false,Bool.false_and,Bool.not_false]
    exact ⟨trivial,trivial,trivial⟩)
  have hne:((a.length:Int) !=(b.length:Int))=false:=by rw [hl]; simp
  have hall:(List.range a.length).all (fun i=>decide ((a[i]?).getD (0,0,0)=(b[i]?).getD (0,0,0)))=true↔a=b:=by
   rw [List.all_eq_true]
   constructor
   ·intro h
    apply List.ext_getElem hl
    intro i h1 h2
    have:=h i (List.mem_range.2 h1)
    rw [List.getElem?_eq_getElem h1,List.getElem?_eq_getElem h2] at this
    exact of_decide_eq_true this
   ·rintro rfl i _
    exact decide_eq_true rfl
  simp only [loopD_eq,key,hne,Bool.not_false,cond_true]
  by_cases hab:a=b
  ·rw [if_pos (hall.2 hab),decT hab]; rfl
  ·rw [if_neg (fun h=>hab (hall.1 h)),decF hab]; rfl
 ·have hne:((a.length:Int) !=(b.length:Int))=true:=bneI (by omega)
  have hab:¬ a=b:=fun h=>hl (by rw [h])
  simp only [hne,Bool.not_true,cond_false,decF hab]
end Go.Proofs.Ytfeepbajipdfaaa.T
namespace Go.Proofs.Ytfeepbajipdfaaa.T
open Go.Vm Go.Tm
set_option linter.unusedVariables false
set_option linter.unusedSimpArgs false
abbrev Fl:=Int × Int × List Int × Bool
abbrev Ar:=List Fl × List Ed
theorem loop_inv {σ ρ:Type} {d:ρ} {step:σ→Bool × Bool × σ × ρ} (I:σ→Prop) (mu:σ→Nat) (Post:ρ→Prop)
  (h:∀ s,I s→(∃ y,RGo (step s) y∧I y∧mu y<mu s)∨(∃ r,REnd (step s) r∧Post r)) (x:σ) (hx:I x):∃ r,loopR d step x=(true,r)∧Post r:=by
 have key:∀ (n:Nat) (s:σ),mu s<n→I s→∃ r,loopR d step s=(true,r)∧Post r:=by
  intro n
  induction n with
  | zero=>intro s hs; omega
  | succ n ih=>
   intro s hs hI
   rcases h s hI with ⟨y,h1,h2,h3⟩ | ⟨r,h1,h2⟩
   ·rw [h1.go]; exact ih y (by omega) h2
   ·exact ⟨r,h1.end,h2⟩
 exact key (mu x+1) x (by omega) hx
def cmpI (a b:Int):Int:=if a<b then -1 else if b<a then 1 else 0
theorem compare_r (a b:Int):cmp_Compare_int_r a b=(true,cmpI a b):=by
 unfold cmp_Compare_int_r cmp_isNaN_int_r cmpI
 by_cases h1:a<b<;>by_cases h2:b<a<;>simp [h1,h2]
theorem or2_r (a b:Int):cmp_Or_int_r [a,b]=(true,if a=0 then b else a):=by
 obtain ⟨r,h1,h2⟩:=loop_inv (d:=HL.dflt [.bool,.int .i64,.bool]) (step:=cmp_Or_int_l0 [a,b]) (fun s=>s=((0:Int),())∨(a=0∧s=((1:Int),()))∨(a=0∧b=0∧s=((2:Int),()))) (fun s=>2 - s.1.toNat) (fun r=>(cond r.2.2.1 (0:Int) r.2.1)=if a=0 then b else a) (by
  rintro s (rfl | ⟨ha,rfl⟩ | ⟨ha,hb,rfl⟩)
  ·by_cases ha:a=0
   ·exact .inl ⟨((1:Int),()),by unfold cmp_Or_int_l0 RGo; simp [ha,wrap_i64],.inr (.inl ⟨ha,rfl⟩),by simp⟩
   ·exact .inr ⟨(true,a,false,()),by unfold cmp_Or_int_l0 REnd; simp [ha],by simp [ha]⟩
  ·by_cases hb:b=0
   ·exact .inl ⟨((2:Int),()),by unfold cmp_Or_int_l0 RGo; simp [ha,hb,wrap_i64],.inr (.inr ⟨ha,hb,rfl⟩),by simp⟩
   ·exact .inr ⟨(true,b,false,()),by unfold cmp_Or_int_l0 REnd; simp [hb],by simp [ha]⟩
  ·exact .inr ⟨(false,(([a,b]:List Int)[2]?).getD 0,true,()),by unfold cmp_Or_int_l0 REnd; simp,by simp [ha,hb]⟩) ((0:Int),()) (.inl rfl)
 unfold cmp_Or_int_r
 simp only [loopD_eq,h1]
 rw [h2]
def Lt2 (a b:Ed):Prop:=a.1<b.1∨(a.1=b.1∧a.2.1<b.2.1)
instance (a b:Ed):Decidable (Lt2 a b):=by unfold Lt2; exact inferInstance
theorem order_r (a b:Ed):air_order_r a b=(true,if Lt2 a b then -1 else if Lt2 b a then 1 else 0):=by
 unfold air_order_r
 simp only [compare_r,or2_r,Bool.and_true]
 refine Prod.ext rfl ?_
 show (if cmpI a.1 b.1=0 then cmpI a.2.1 b.2.1 else cmpI a.1 b.1)=_
 unfold cmpI Lt2
 by_cases h1:a.1<b.1
 ·simp [h1]
 ·by_cases h2:b.1<a.1
  ·simp [h1,h2,show ¬ a.1=b.1 by omega]
  ·have h3:a.1=b.1:=by omega
   simp [h1,h2,h3]
abbrev ed0:Ed:=((0:Int),((0:Int),(0:Int)))
abbrev fl0:Fl:=((0:Int),((0:Int),(([]:List Int),false)))
def SortedA (l:List Ed):Prop:=∀ i,i+1<l.length→¬ Lt2 ((l[i+1]?).getD ed0) ((l[i]?).getD ed0)
open Classical in
theorem isSorted_r (l:List Ed) (hl:l.length≤1000000):slices_IsSortedFunc_api_Edge_r l ()=(true,decide (SortedA l)):=by
 obtain ⟨r,h1,h2⟩:=loop_inv (d:=HL.dflt [.bool,.bool,.bool]) (step:=slices_IsSortedFunc_api_Edge_l0 l ()) (fun s=>∃ i:Int,s=(i,())∧ -1≤i∧i<l.length∧∀ k:Nat,i≤k→k+1<l.length→¬ Lt2 ((l[k+1]?).getD ed0) ((l[k]?).getD ed0)) (fun s=>s.1.toNat) (fun r=>(cond r.2.2.1 true r.2.1)=decide (SortedA l)) (by
  rintro _ ⟨i,rfl,h0,h1,h2⟩
  by_cases hi:i>0
  ·obtain ⟨k,rfl⟩:∃ k:Nat,i=((k+1:Nat):Int):=⟨(i - 1).toNat,by omega⟩
   have hw:IntKind.i64.wrap (((k+1:Nat):Int) - 1)=(k:Int):=by rw [wrap_i64 (by omega) (by omega)]; omega
   by_cases hlt:Lt2 ((l[k+1]?).getD ed0) ((l[k]?).getD ed0)
   ·refine .inr ⟨(true,false,false,()),?_,?_⟩
    ·unfold slices_IsSortedFunc_api_Edge_l0 REnd
     simp only [hw,Int.toNat_natCast,order_r,if_pos hlt]
     simp [show k+1<l.length by omega,show k<l.length by omega]
     omega
    ·exact (decF fun hs=>hs k (by omega) hlt).symm
   ·refine .inl ⟨((k:Int),()),?_,⟨(k:Int),rfl,by omega,by omega,fun j hj hjl=> ?_⟩,?_⟩
    ·unfold slices_IsSortedFunc_api_Edge_l0 RGo
     simp only [hw,Int.toNat_natCast,order_r,if_neg hlt]
     by_cases h3:Lt2 ((l[k]?).getD ed0) ((l[k+1]?).getD ed0)
     ·simp [show k+1<l.length by omega,show k<l.length by omega,h3]
      omega
     ·simp [show k+1<l.length by omega,show k<l.length by omega,h3]
      omega
    ·by_cases hjk:j=k
     ·rw [hjk]; exact hlt
     ·exact h2 j (by omega) hjl
    ·show ((k:Int)).toNat<(((k+1:Nat):Int)).toNat
     omega
  ·refine .inr ⟨(false,false,true,()),?_,?_⟩
   ·unfold slices_IsSortedFunc_api_Edge_l0 REnd
    simp [hi]
   ·exact (decT fun k hk=>h2 k (by omega) hk).symm) (IntKind.i64.wrap ((l.length:Int) - (1:Int)),()) ⟨(l.length:Int) - 1,by rw [wrap_i64 (by omega) (by omega)],by omega,by omega,fun k h1 h2=>by omega⟩
 unfold slices_IsSortedFunc_api_Edge_r
 simp only [loopD_eq,h1]
 rw [h2]
theorem light_r (a:Ar) (h1:a.1.length≤1152921504606846976) (h2:a.2.length≤1152921504606846976) (hb:∀ f∈a.1,f.2.2.1.length≤1152921504606846976):
  ∃ b,withylaw20_light_r a=(true,b)∧(b=true→a.1.length≤150∧a.2.length≤600∧∀ f∈a.1,f.2.2.1.length≤9000):=by
 obtain ⟨r,e1,e2⟩:=loop_inv (d:=HL.dflt [.bool,.int .i64]) (step:=withylaw20_light_l0 a) (fun s=>∃ (i n:Nat),s=((i:Int),(n:Int),())∧i≤a.1.length∧n≤1152921504606846976+9000∧∀ f∈a.1.take i,f.2.2.1.length≤n) (fun s=>a.1.length - s.1.toNat) (fun r=>r.2.1≤9000→a.1.length≤150→∀ f∈a.1,f.2.2.1.length≤9000) (by
  rintro _ ⟨i,n,rfl,h3,h4,h5⟩
  by_cases hg:(i:Int)<(a.1.length:Int)∧(i:Int)<200∧(n:Int)≤9000
  ·obtain ⟨g1,g2,g3⟩:=hg
   have hi:i<a.1.length:=by omega
   have hx:a.1[i]? =some a.1[i]:=List.getElem?_eq_getElem hi
   have hlen:=hb _ (List.getElem_mem hi)
   have htk:a.1.take (i+1)=a.1.take i++ [a.1[i]]:=by rw [List.take_add_one,hx]; rfl
   generalize a.1[i]=x at hx hlen htk
   refine .inl ⟨(((i+1:Nat):Int),((n+x.2.2.1.length:Nat):Int),()),?_,⟨i+1,n+x.2.2.1.length,rfl,by omega,by omega,fun f hf=> ?_⟩,?_⟩
   ·unfold withylaw20_light_l0 RGo
    have hw1:IntKind.i64.wrap ((i:Int)+1)=((i+1:Nat):Int):=by rw [wrap_i64 (by omega) (by omega)]; omega
    have hw2:IntKind.i64.wrap ((n:Int)+(x.2.2.1.length:Int))=((n+x.2.2.1.length:Nat):Int):=by rw [wrap_i64 (by omega) (by omega)]; omega
    simp only [decT g1,decT g2,decT g3,Int.toNat_natCast,hx,Option.getD_some,hw1,hw2,decT hi,decT (show (0:Int)≤(i:Int) by omega),cond_true,Bool.and_self]
    exact ⟨trivial,trivial,trivial⟩
   ·rw [htk] at hf
    rcases List.mem_append.1 hf with hf | hf
    ·have:=h5 f hf; omega
    ·rw [List.mem_singleton.1 hf]; omega
   ·show a.1.length - (((i+1:Nat):Int)).toNat<a.1.length - ((i:Int)).toNat
    omega
  ·refine .inr ⟨(true,(n:Int),()),?_,?_⟩
   ·unfold withylaw20_light_l0 REnd
    by_cases g1:(i:Int)<(a.1.length:Int)
    ·by_cases g2:(i:Int)<200
     ·have g3:¬ (n:Int)≤9000:=fun g3=>hg ⟨g1,g2,g3⟩
      simp only [decT g1,decT g2,decF g3,cond_true,cond_false,Bool.and_self,Bool.not_false]
      exact ⟨trivial,trivial,trivial⟩
     ·simp only [decT g1,decF g2,cond_true,cond_false,Bool.and_self,Bool.not_false]
      exact ⟨trivial,trivial,trivial⟩
    ·simp only [decF g1,cond_true,cond_false,Bool.and_self,Bool.not_false]
     exact ⟨trivial,trivial,trivial⟩
   ·intro h6 h7 f hf
    have h6:(n:Int)≤9000:=h6
    have hi:i=a.1.length:=by
     by_cases g1:(i:Int)<(a.1.length:Int)
     ·exact absurd ⟨g1,by omega,h6⟩ hg
     ·omega
    have:=h5 f (by rw [hi,List.take_length]; exact hf)
    omega) ((0:Int),(0:Int),()) ⟨0,0,rfl,by omega,by omega,fun f hf=>by simp at hf⟩
 refine ⟨(withylaw20_light_r a).2,Prod.ext ?_ rfl,?_⟩
 ·unfold withylaw20_light_r
  simp only [loopD_eq,e1,cond_t,Bool.and_self]
 ·intro hb'
  unfold withylaw20_light_r at hb'
  simp only [loopD_eq,e1] at hb'
  by_cases g1:(a.1.length:Int)≤150
  ·by_cases g2:r.2.1≤9000
   ·by_cases g3:(a.2.length:Int)≤600
    ·exact ⟨by omega,by omega,e2 g2 (by omega)⟩
    ·simp [decT g1,decT g2,decF g3] at hb'
   ·simp [decT g1,decF g2] at hb'
  ·simp [decF g1] at hb'
end Go.Proofs.Ytfeepbajipdfaaa.T
namespace Go.Proofs.Ytfeepbajipdfaaa.T
open Go.Vm Go.Tm
set_option linter.unusedVariables false
set_option linter.unusedSimpArgs false
def onL (x y:Int) (e:Ed):Prop:=(e.1=x∧e.2.1=y)∨(e.1=y∧e.2.1=x)
instance (x y:Int) (e:Ed):Decidable (onL x y e):=by unfold onL; exact inferInstance
abbrev mn (x y:Int):Int:=if y<x then y else x
abbrev mx (x y:Int):Int:=if x<y then y else x
theorem onL_mn {x y:Int} {e:Ed} (h:e.1<e.2.1):(e.1=mn x y∧e.2.1=mx x y)↔onL x y e:=by
 unfold onL mn mx
 constructor
 ·rintro ⟨h1,h2⟩
  split at h1<;>split at h2<;>first | omega | (left; exact ⟨h1,h2⟩) | (right; exact ⟨h1,h2⟩)
 ·rintro (⟨h1,h2⟩ | ⟨h1,h2⟩)<;>split<;>split<;>omega
theorem refUp_r (a:Ar) (x y:Int) (hl:a.2.length≤1000000):
  (∃ (i:Nat) (hi:i<a.2.length),onL x y a.2[i]∧(∀ j (hj:j<i),¬ onL x y a.2[j])∧withyref20_Up_r a x y=(true,(i:Int)))∨((∀ e∈a.2,¬ onL x y e)∧withyref20_Up_r a x y=(true,-1)):=by
 have key:=loop_find (d:=HL.dflt [.bool,.int .i64,.bool]) (step:=withyref20_Up_l0 a x y) a.2.length (fun i=>onL x y ((a.2[i]?).getD ed0)) (fun i=>(true,(i:Int),false,())) (false,(a.2.length:Int),true,())
  (fun i hi=>by
   have g1:(i:Int)<(a.2.length:Int):=by omega
   have hw:IntKind.i64.wrap ((i:Int)+1)=((i+1:Nat):Int):=by rw [wrap_i64 (by omega) (by omega)]; omega
   generalize hx:(a.2[i]?).getD ed0=e
   have hb:(cond (cond (e.1==x) (e.2.1==y) false) true (cond (e.1==y) (e.2.1==x) false))=decide (onL x y e):=by
    have:∀ p q r s:Bool,cond (cond p q false) true (cond r s false)=((p && q) || (r && s)):=by decide
    rw [this,Bool.eq_iff_iff,decide_eq_true_iff]
    unfold onL
    simp
   refine ⟨fun h=> ?_,fun h=> ?_⟩
   ·rw [decT h] at hb
    unfold withyref20_Up_l0 REnd
    simp only [decT g1,hw,Int.toNat_natCast,hx,decT hi,decT (show (0:Int)≤(i:Int) by omega)]
    generalize (e.1==x)=p at hb ⊢
    generalize (e.2.1==y)=q at hb ⊢
    generalize (e.1==y)=r at hb ⊢
    generalize (e.2.1==x)=s at hb ⊢
    revert hb
    cases p<;>cases q<;>cases r<;>cases s<;>intro hb<;>first | exact ⟨rfl,rfl,rfl⟩ | exact ⟨rfl,rfl,trivial⟩ | cases hb
   ·rw [decF h] at hb
    unfold withyref20_Up_l0 RGo
    simp only [decT g1,hw,Int.toNat_natCast,hx,decT hi,decT (show (0:Int)≤(i:Int) by omega)]
    generalize (e.1==x)=p at hb ⊢
    generalize (e.2.1==y)=q at hb ⊢
    generalize (e.1==y)=r at hb ⊢
    generalize (e.2.1==x)=s at hb ⊢
    revert hb
    cases p<;>cases q<;>cases r<;>cases s<;>intro hb<;>first | exact ⟨rfl,rfl,rfl⟩ | exact ⟨rfl,rfl,trivial⟩ | cases hb)
  (by
   unfold withyref20_Up_l0 REnd
   simp only [decF (show ¬ (a.2.length:Int)<(a.2.length:Int) by omega),cond_false,Bool.false_and,Bool.not_false]
   exact ⟨trivial,trivial,trivial⟩)
 rcases key with ⟨i,hi,h1,h2,h3⟩ | ⟨h1,h2⟩
 ·refine .inl ⟨i,hi,?_,fun j hj=> ?_,?_⟩
  ·rw [List.getElem?_eq_getElem hi] at h1; exact h1
  ·have:=h2 j hj
   rw [List.getElem?_eq_getElem (by omega)] at this; exact this
  ·unfold withyref20_Up_r
   simp only [loopD_eq,h3]; rfl
 ·refine .inr ⟨fun e he=> ?_,?_⟩
  ·obtain ⟨i,hi,rfl⟩:=List.getElem_of_mem he
   have:=h1 i hi
   rw [List.getElem?_eq_getElem hi] at this; exact this
  ·unfold withyref20_Up_r
   simp only [loopD_eq,h2]; rfl
theorem up_r (a:Ar) (x y:Int) (hl:a.2.length≤1000000):
  (∃ (i:Nat) (hi:i<a.2.length),(a.2[i].1=mn x y∧a.2[i].2.1=mx x y)∧(∀ j (hj:j<i),¬ (a.2[j].1=mn x y∧a.2[j].2.1=mx x y))∧air_Up_r a x y=(true,a.2[i].2.2,true))∨((∀ e∈a.2,¬ (e.1=mn x y∧e.2.1=mx x y))∧air_Up_r a x y=(true,0,false)):=by
 have key:=loop_find (d:=HL.dflt [.bool,.int .i64,.bool,.bool]) (step:=air_Up_l0 a x y) a.2.length (fun i=>((a.2[i]?).getD ed0).1=mn x y∧((a.2[i]?).getD ed0).2.1=mx x y) (fun i=>(true,((a.2[i]?).getD ed0).2.2,true,false,())) (false,((a.2[a.2.length]?).getD ed0).2.2,true,true,())
  (fun i hi=>by
   have g1:(i:Int)<(a.2.length:Int):=by omega
   have hw:IntKind.i64.wrap ((i:Int)+1)=((i+1:Nat):Int):=by rw [wrap_i64 (by omega) (by omega)]; omega
   generalize hx:(a.2[i]?).getD ed0=e
   refine ⟨fun h=> ?_,fun h=> ?_⟩
   ·unfold air_Up_l0 REnd
    have h1:(e.1==(if y<x then y else x))=true:=by simpa using h.1
    have h2:(e.2.1==(if x<y then y else x))=true:=by simpa using h.2
    simp only [decT g1,hw,Int.toNat_natCast,hx,decT hi,decT (show (0:Int)≤(i:Int) by omega),h1,h2,cond_true,Bool.and_self,Bool.not_true,Bool.and_false]
    exact ⟨trivial,trivial,trivial⟩
   ·unfold air_Up_l0 RGo
    by_cases h1:e.1=mn x y
    ·have h1':(e.1==(if y<x then y else x))=true:=by simpa using h1
     have h2:(e.2.1==(if x<y then y else x))=false:=by simpa using fun h2=>h ⟨h1,h2⟩
     simp only [decT g1,hw,Int.toNat_natCast,hx,decT hi,decT (show (0:Int)≤(i:Int) by omega),h1',h2,cond_true,Bool.and_self,Bool.not_false,Bool.and_true]
     exact ⟨trivial,trivial,trivial⟩
    ·have h1':(e.1==(if y<x then y else x))=false:=by simpa using h1
     simp only [decT g1,hw,Int.toNat_natCast,hx,decT hi,decT (show (0:Int)≤(i:Int) by omega),h1',cond_true,cond_false,Bool.and_self,Bool.not_false,Bool.and_true]
     exact ⟨trivial,trivial,trivial⟩)
  (by
   unfold air_Up_l0 REnd
   simp only [decF (show ¬ (a.2.length:Int)<(a.2.length:Int) by omega),cond_false,Bool.false_and,Bool.not_false,Int.toNat_natCast]
   exact ⟨trivial,trivial,trivial⟩)
 rcases key with ⟨i,hi,h1,h2,h3⟩ | ⟨h1,h2⟩
 ·refine .inl ⟨i,hi,?_,fun j hj=> ?_,?_⟩
  ·rw [List.getElem?_eq_getElem hi] at h1; exact h1
  ·have:=h2 j hj
   rw [List.getElem?_eq_getElem (by omega)] at this; exact this
  ·unfold air_Up_r
   rw [List.getElem?_eq_getElem hi] at h3
   simp only [loopD_eq,h3]; rfl
 ·refine .inr ⟨fun e he=> ?_,?_⟩
  ·obtain ⟨i,hi,rfl⟩:=List.getElem_of_mem he
   have:=h1 i hi
   rw [List.getElem?_eq_getElem hi] at this; exact this
  ·unfold air_Up_r
   simp only [loopD_eq,h2]; rfl
def MayA (a:Ar):Prop:=chk a.2=0∧SortedA a.2∧a.1.length≤16384∧∀ f∈a.1,∃ e∈a.2,onL f.1 f.2.1 e
theorem may_l0 (a:Ar) (hl:a.2.length≤1000000):∃ r:Bool × Bool × Bool × Unit,loopR (HL.dflt [.bool,.bool,.bool]) (withyref20_May_l0 a) ((1:Int),())=(true,r)∧((r.2.2.1=true∧SortedA a.2)∨(r.2.2.1=false∧r.2.1=false∧¬ SortedA a.2)):=by
 refine loop_inv (fun s=>∃ i:Nat,s=(((i+1:Nat):Int),())∧∀ k,k<i→k+1<a.2.length→¬ Lt2 ((a.2[k+1]?).getD ed0) ((a.2[k]?).getD ed0)) (fun s=>a.2.length - s.1.toNat) _ ?_ _ ⟨0,rfl,fun k hk=>by omega⟩
 rintro _ ⟨i,rfl,h1⟩
 by_cases hi:i+1<a.2.length
 ·have g1:((i+1:Nat):Int)<(a.2.length:Int):=by omega
  have hw:IntKind.i64.wrap (((i+1:Nat):Int)+1)=((i+1+1:Nat):Int):=by rw [wrap_i64 (by omega) (by omega)]; omega
  have hw2:IntKind.i64.wrap (((i+1:Nat):Int) - 1)=((i:Nat):Int):=by rw [wrap_i64 (by omega) (by omega)]; omega
  have hb:∀ p q:Ed,(cond (decide (p.1>q.1)) true (cond (p.1==q.1) (decide (p.2.1>q.2.1)) false))=decide (Lt2 q p):=by
   intro p q
   unfold Lt2
   by_cases h1:p.1>q.1
   ·simp [h1,show q.1<p.1 by omega]
   ·by_cases h2:p.1=q.1
    ·by_cases h3:p.2.1>q.2.1
     ·simp [h1,h2,h3,show q.2.1<p.2.1 by omega]
     ·simp [h1,h2,h3,show ¬ q.2.1<p.2.1 by omega]
    ·simp [h1,h2,show ¬ q.1<p.1 by omega,show ¬ q.1=p.1 by omega]
  by_cases hlt:Lt2 ((a.2[i+1]?).getD ed0) ((a.2[i]?).getD ed0)
  ·refine .inr ⟨(true,false,false,()),?_,.inr ⟨rfl,rfl,fun hs=>hs i hi hlt⟩⟩
   have hb:=hb ((a.2[i]?).getD ed0) ((a.2[i+1]?).getD ed0)
   rw [decT hlt] at hb
   unfold withyref20_May_l0 REnd
   simp only [decT g1,hw,hw2,Int.toNat_natCast,decT hi,decT (show i<a.2.length by omega),decT (show (0:Int)≤(i:Int) by omega),decT (show (0:Int)≤((i+1:Nat):Int) by omega)]
   generalize decide (((a.2[i]?).getD ed0).1>((a.2[i+1]?).getD ed0).1)=p at hb ⊢
   generalize (((a.2[i]?).getD ed0).1==((a.2[i+1]?).getD ed0).1)=q at hb ⊢
   generalize decide (((a.2[i]?).getD ed0).2.1>((a.2[i+1]?).getD ed0).2.1)=r at hb ⊢
   revert hb
   cases p<;>cases q<;>cases r<;>intro hb<;>first | exact ⟨rfl,rfl,rfl⟩ | exact ⟨rfl,rfl,trivial⟩ | cases hb
  ·refine .inl ⟨(((i+1+1:Nat):Int),()),?_,⟨i+1,rfl,fun k hk hkl=> ?_⟩,?_⟩
   ·have hb:=hb ((a.2[i]?).getD ed0) ((a.2[i+1]?).getD ed0)
    rw [decF hlt] at hb
    unfold withyref20_May_l0 RGo
    simp only [decT g1,hw,hw2,Int.toNat_natCast,decT hi,decT (show i<a.2.length by omega),decT (show (0:Int)≤(i:Int) by omega),decT (show (0:Int)≤((i+1:Nat):Int) by omega)]
    generalize decide (((a.2[i]?).getD ed0).1>((a.2[i+1]?).getD ed0).1)=p at hb ⊢
    generalize (((a.2[i]?).getD ed0).1==((a.2[i+1]?).getD ed0).1)=q at hb ⊢
    generalize decide (((a.2[i]?).getD ed0).2.1>((a.2[i+1]?).getD ed0).2.1)=r at hb ⊢
    revert hb
    cases p<;>cases q<;>cases r<;>intro hb<;>first | exact ⟨rfl,rfl,rfl⟩ | exact ⟨rfl,rfl,trivial⟩ | cases hb
   ·by_cases hki:k=i
    ·rw [hki]; exact hlt
    ·exact h1 k (by omega) hkl
   ·show a.2.length - (((i+1+1:Nat):Int)).toNat<a.2.length - (((i+1:Nat):Int)).toNat
    omega
 ·refine .inr ⟨(false,false,true,()),?_,.inl ⟨rfl,fun k hk=>h1 k (by omega) hk⟩⟩
  unfold withyref20_May_l0 REnd
  simp only [decF (show ¬ ((i+1:Nat):Int)<(a.2.length:Int) by omega),cond_false,Bool.false_and,Bool.not_false]
  exact ⟨trivial,trivial,trivial⟩
theorem may_l1 (a:Ar) (hl:a.2.length≤1000000) (hf:a.1.length≤1000000):∃ r:Bool × Bool × Bool × Unit,loopR (HL.dflt [.bool,.bool,.bool]) (withyref20_May_l1 a) ((0:Int),())=(true,r)∧((r.2.2.1=true∧∀ f∈a.1,∃ e∈a.2,onL f.1 f.2.1 e)∨(r.2.2.1=false∧r.2.1=false∧¬ ∀ f∈a.1,∃ e∈a.2,onL f.1 f.2.1 e)):=by
 refine loop_inv (fun s=>∃ i:Nat,s=((i:Int),())∧∀ f∈a.1.take i,∃ e∈a.2,onL f.1 f.2.1 e) (fun s=>a.1.length - s.1.toNat) _ ?_ _ ⟨0,rfl,fun k hk=>by simp at hk⟩
 rintro _ ⟨i,rfl,h1⟩
 by_cases hi:i<a.1.length
 ·have g1:(i:Int)<(a.1.length:Int):=by omega
  have hw:IntKind.i64.wrap ((i:Int)+1)=((i+1:Nat):Int):=by rw [wrap_i64 (by omega) (by omega)]; omega
  have hx:a.1[i]? =some a.1[i]:=List.getElem?_eq_getElem hi
  have hmem:=List.getElem_mem hi
  have htk:a.1.take (i+1)=a.1.take i++ [a.1[i]]:=by rw [List.take_add_one,hx]; rfl
  generalize a.1[i]=x at hx htk hmem
  rcases refUp_r a x.1 x.2.1 hl with ⟨j,hj,k1,_,k2⟩ | ⟨k1,k2⟩
  ·refine .inl ⟨(((i+1:Nat):Int),()),?_,⟨i+1,rfl,fun f hf'=> ?_⟩,?_⟩
   ·unfold withyref20_May_l1 RGo
    simp only [decT g1,hw,Int.toNat_natCast,hx,Option.getD_some,k2,decF (show ¬ (j:Int)<0 by omega),decT hi,decT (show (0:Int)≤(i:Int) by omega),cond_true,Bool.and_self,Bool.not_false]
    exact ⟨trivial,trivial,trivial⟩
   ·rw [htk] at hf'
    rcases List.mem_append.1 hf' with hf' | hf'
    ·exact h1 f hf'
    ·rw [List.mem_singleton.1 hf']; exact ⟨_,List.getElem_mem hj,k1⟩
   ·show a.1.length - (((i+1:Nat):Int)).toNat<a.1.length - ((i:Int)).toNat
    omega
  ·refine .inr ⟨(true,false,false,()),?_,.inr ⟨rfl,rfl,fun hs=> ?_⟩⟩
   ·unfold withyref20_May_l1 REnd
    simp only [decT g1,hw,Int.toNat_natCast,hx,Option.getD_some,k2,decT (show (-1:Int)<0 by omega),decT hi,decT (show (0:Int)≤(i:Int) by omega),cond_true,Bool.and_self,Bool.not_true,Bool.and_false,Bool.not_false]
    exact ⟨trivial,trivial,trivial⟩
   ·obtain ⟨e,he,hon⟩:=hs x hmem
    exact k1 e he hon
 ·refine .inr ⟨(false,false,true,()),?_,.inl ⟨rfl,fun f hf'=>h1 f (by rw [List.take_of_length_le (by omega)]; exact hf')⟩⟩
  unfold withyref20_May_l1 REnd
  simp only [decF (show ¬ (i:Int)<(a.1.length:Int) by omega),cond_false,Bool.false_and,Bool.not_false]
  exact ⟨trivial,trivial,trivial⟩
open Classical in
theorem mayA_r (a:Ar) (hl:a.2.length≤1000000) (hf:a.1.length≤1000000):withyref20_May_r a=(true,decide (MayA a)):=by
 obtain ⟨⟨q0,q1,q2,_⟩,e1,h1⟩:=may_l0 a hl
 obtain ⟨⟨r0,r1,r2,_⟩,e2,h2⟩:=may_l1 a hl hf
 unfold withyref20_May_r
 simp only [loopD_eq,e1,e2,refCheck_r a.2 (by omega),cond_t,Bool.and_true,Bool.true_and]
 by_cases hc:chk a.2=0
 ·by_cases hn:(a.1.length:Int)>16384
  ·have:¬ MayA a:=fun h=>by have:=h.2.2.1; omega
   simp [hc,hn,decF this]
  ·rcases h1 with ⟨h1,hs⟩ | ⟨h1,h1',hs⟩
   ·have h1:q2=true:=h1
    subst h1
    rcases h2 with ⟨h2,hz⟩ | ⟨h2,h2',hz⟩
    ·have h2:r2=true:=h2
     subst h2
     have:MayA a:=⟨hc,hs,by omega,hz⟩
     simp [hc,hn,decT this]
    ·have h2:r2=false:=h2
     have h2':r1=false:=h2'
     subst h2; subst h2'
     have:¬ MayA a:=fun h=>hz h.2.2.2
     simp [hc,hn,decF this]
   ·have h1:q2=false:=h1
    have h1':q1=false:=h1'
    subst h1; subst h1'
    have:¬ MayA a:=fun h=>hs h.2.1
    simp [hc,hn,decF this]
 ·have:¬ MayA a:=fun h=>hc h.1
  simp [hc,decF this]
end Go.Proofs.Ytfeepbajipdfaaa.T
namespace Go.Proofs.Ytfeepbajipdfaaa.T
open Go.Vm Go.Tm
set_option linter.unusedVariables false
set_option linter.unusedSimpArgs false
def TabA (l:List Ed) (M:Nat→Nat→Bool):Prop:=∀ p q:Nat,M p q=true↔∃ e∈l,(p=e.1.toNat∧q=e.2.1.toNat)∨(p=e.2.1.toNat∧q=e.1.toNat)
theorem tab_step {l:List Ed} {M:Nat→Nat→Bool} (h:TabA l M) (e:Ed) (he:May e):
  TabA (l++ [e]) (fun j=>bif Nat.beq j e.2.1.toNat then (fun k=>bif Nat.beq k e.1.toNat then true else ((fun j=>bif Nat.beq j e.1.toNat then (fun k=>bif Nat.beq k e.2.1.toNat then true else (M e.1.toNat) k) else M j) e.2.1.toNat) k) else (fun j=>bif Nat.beq j e.1.toNat then (fun k=>bif Nat.beq k e.2.1.toNat then true else (M e.1.toNat) k) else M j) j):=by
 have hb:∀ a b:Nat,Nat.beq a b=decide (a=b):=fun a b=>by
  by_cases h:a=b
  ·subst h; simp
  ·rw [decF h]; exact Bool.eq_false_iff.2 fun hh=>h (Nat.eq_of_beq_eq_true hh)
 obtain ⟨m1,m2,m3,m4,m5,_⟩:=he
 have hne:¬ e.2.1.toNat=e.1.toNat:=by omega
 intro p q
 have hp:=h p q
 have hA:=h e.1.toNat q
 simp only [hb,decF hne,cond_false]
 constructor
 ·intro hm
  by_cases h1:p=e.2.1.toNat
  ·simp only [decT h1,cond_true] at hm
   by_cases h2:q=e.1.toNat
   ·exact ⟨e,List.mem_append_right _ (.head _),.inr ⟨h1,h2⟩⟩
   ·simp only [decF h2,cond_false] at hm
    rw [← h1] at hm
    obtain ⟨x,hx,hh⟩:=hp.1 hm
    exact ⟨x,List.mem_append_left _ hx,hh⟩
  ·simp only [decF h1,cond_false] at hm
   by_cases h3:p=e.1.toNat
   ·simp only [decT h3,cond_true] at hm
    by_cases h4:q=e.2.1.toNat
    ·exact ⟨e,List.mem_append_right _ (.head _),.inl ⟨h3,h4⟩⟩
    ·simp only [decF h4,cond_false] at hm
     rw [← h3] at hm
     obtain ⟨x,hx,hh⟩:=hp.1 hm
     exact ⟨x,List.mem_append_left _ hx,hh⟩
   ·simp only [decF h3,cond_false] at hm
    obtain ⟨x,hx,hh⟩:=hp.1 hm
    exact ⟨x,List.mem_append_left _ hx,hh⟩
 ·rintro ⟨x,hx,hh⟩
  have hold:x∈l→M p q=true:=fun hx=>hp.2 ⟨x,hx,hh⟩
  rcases List.mem_append.1 hx with hx | hx
  ·have hM:=hold hx
   by_cases h1:p=e.2.1.toNat
   ·simp only [decT h1,cond_true]
    rw [← h1,hM]; simp
   ·simp only [decF h1,cond_false]
    by_cases h3:p=e.1.toNat
    ·simp only [decT h3,cond_true]
     rw [← h3,hM]; simp
    ·simp only [decF h3,cond_false]; exact hM
  ·have hxe:=List.mem_singleton.1 hx
   subst hxe
   rcases hh with ⟨k1,k2⟩ | ⟨k1,k2⟩
   ·rw [k1,k2]
    simp [decF (show ¬ x.1.toNat=x.2.1.toNat by omega)]
   ·rw [k1,k2]
    simp
theorem check_l0 (a:Ar) (hl:a.2.length≤1000000) (hall:∀ e∈a.2,May e) (M0:Nat→Nat→Bool) (hM0:∀ p q,M0 p q=false):
  ∃ r:Bool × (Nat→Nat→Bool) × Unit,loopR (HL.dflt [.bool,(.arr 65 (.arr 65 .bool))]) (air_Check_l0 a) ((0:Int),M0,())=(true,r)∧TabA a.2 r.2.1:=by
 refine loop_inv (fun s=>∃ (i:Nat) (M:Nat→Nat→Bool),s=((i:Int),M,())∧TabA (a.2.take i) M) (fun s=>a.2.length - s.1.toNat) _ ?_ _ ⟨0,M0,rfl,fun p q=>by simp [hM0]⟩
 rintro _ ⟨i,M,rfl,h1⟩
 by_cases hi:i<a.2.length
 ·have g1:(i:Int)<(a.2.length:Int):=by omega
  have hw:IntKind.i64.wrap ((i:Int)+1)=((i+1:Nat):Int):=by rw [wrap_i64 (by omega) (by omega)]; omega
  have hx:a.2[i]? =some a.2[i]:=List.getElem?_eq_getElem hi
  have hmay:=hall _ (List.getElem_mem hi)
  have htk:a.2.take (i+1)=a.2.take i++ [a.2[i]]:=by rw [List.take_add_one,hx]; rfl
  generalize a.2[i]=x at hx htk hmay
  have hst:=tab_step h1 x hmay
  obtain ⟨m1,m2,m3,m4,m5,_⟩:=hmay
  refine .inl ⟨(((i+1:Nat):Int),_,()),?_,⟨i+1,_,rfl,by rw [htk]; exact hst⟩,?_⟩
  ·unfold air_Check_l0 RGo
   simp only [decT g1,hw,Int.toNat_natCast,hx,Option.getD_some,decT hi,decT (show (0:Int)≤(i:Int) by omega),decT (show (0:Int)≤x.1 by omega),decT (show (0:Int)≤x.2.1 by omega),decT (show x.1.toNat<65 by omega),decT (show x.2.1.toNat<65 by omega),cond_true,Bool.and_self]
   exact ⟨trivial,trivial,trivial⟩
  ·show a.2.length - (((i+1:Nat):Int)).toNat<a.2.length - ((i:Int)).toNat
   omega
 ·refine .inr ⟨(true,M,()),?_,?_⟩
  ·unfold air_Check_l0 REnd
   simp only [decF (show ¬ (i:Int)<(a.2.length:Int) by omega),cond_false,Bool.false_and,Bool.not_false]
   exact ⟨trivial,trivial,trivial⟩
  ·rw [List.take_of_length_le (by omega)] at h1; exact h1
theorem tab_on {l:List Ed} (hall:∀ e∈l,May e) {M:Nat→Nat→Bool} (h:TabA l M) (x y:Int):(1≤x∧x≤64∧1≤y∧y≤64∧M x.toNat y.toNat=true)↔∃ e∈l,onL x y e:=by
 constructor
 ·rintro ⟨h1,h2,h3,h4,h5⟩
  obtain ⟨e,he,hh⟩:=(h _ _).1 h5
  obtain ⟨m1,m2,m3,m4,m5,_⟩:=hall e he
  refine ⟨e,he,?_⟩
  unfold onL
  rcases hh with ⟨k1,k2⟩ | ⟨k1,k2⟩
  ·left; omega
  ·right; omega
 ·rintro ⟨e,he,hh⟩
  obtain ⟨m1,m2,m3,m4,m5,_⟩:=hall e he
  rcases hh with ⟨k1,k2⟩ | ⟨k1,k2⟩
  ·exact ⟨by omega,by omega,by omega,by omega,(h _ _).2 ⟨e,he,.inl ⟨by rw [k1],by rw [k2]⟩⟩⟩
  ·exact ⟨by omega,by omega,by omega,by omega,(h _ _).2 ⟨e,he,.inr ⟨by rw [k2],by rw [k1]⟩⟩⟩
theorem check_l1 (a:Ar) (hl:a.2.length≤1000000) (hf:a.1.length≤1000000) (hall:∀ e∈a.2,May e):
  ∃ r:Bool × Int × Bool × Unit,loopR (HL.dflt [.bool,.int .i64,.bool]) (air_Check_l1 a) ((0:Int),())=(true,r)∧((r.2.2.1=true∧∀ f∈a.1,∃ e∈a.2,onL f.1 f.2.1 e)∨(r.2.2.1=false∧r.2.1=1∧¬ ∀ f∈a.1,∃ e∈a.2,onL f.1 f.2.1 e)):=by
 obtain ⟨⟨r0,M,_⟩,e0,hM⟩:=check_l0 a hl hall _ (fun p q=>none_in2 _ (fun i=>none_in i) p q)
 have hM:TabA a.2 M:=hM
 refine loop_inv (fun s=>∃ i:Nat,s=((i:Int),())∧∀ f∈a.1.take i,∃ e∈a.2,onL f.1 f.2.1 e) (fun s=>a.1.length - s.1.toNat) _ ?_ _ ⟨0,rfl,fun k hk=>by simp at hk⟩
 rintro _ ⟨i,rfl,h1⟩
 by_cases hi:i<a.1.length
 ·have g1:(i:Int)<(a.1.length:Int):=by omega
  have hw:IntKind.i64.wrap ((i:Int)+1)=((i+1:Nat):Int):=by rw [wrap_i64 (by omega) (by omega)]; omega
  have hx:a.1[i]? =some a.1[i]:=List.getElem?_eq_getElem hi
  have hmem:=List.getElem_mem hi
  have htk:a.1.take (i+1)=a.1.take i++ [a.1[i]]:=by rw [List.take_add_one,hx]; rfl
  generalize a.1[i]=x at hx htk hmem
  have hon:=tab_on hall hM x.1 x.2.1
  have hbad:¬ (1≤x.1∧x.1≤64∧1≤x.2.1∧x.2.1≤64∧M x.1.toNat x.2.1.toNat=true)→¬ ∀ f∈a.1,∃ e∈a.2,onL f.1 f.2.1 e:=fun h hs=>h (hon.2 (hs x hmem))
  by_cases hF:1≤x.1∧x.1≤64
  ·by_cases hT:1≤x.2.1∧x.2.1≤64
   ·cases hm:M x.1.toNat x.2.1.toNat with
    | true=>
     refine .inl ⟨(((i+1:Nat):Int),()),?_,⟨i+1,rfl,fun f hf'=> ?_⟩,?_⟩
     ·unfold air_Check_l1 RGo
      simp only [loopD_eq,e0,decT g1,hw,Int.toNat_natCast,hx,Option.getD_some,node_r,decT hF,decT hT,hm,decT (show (0:Int)≤x.1 by omega),decT (show (0:Int)≤x.2.1 by omega),decT (show x.1.toNat<65 by omega),decT (show x.2.1.toNat<65 by omega),decT hi,decT (show (0:Int)≤(i:Int) by omega),cond_true,cond_false,Bool.and_self,Bool.not_true,Bool.not_false]
      exact ⟨trivial,trivial,trivial⟩
     ·rw [htk] at hf'
      rcases List.mem_append.1 hf' with hf' | hf'
      ·exact h1 f hf'
      ·rw [List.mem_singleton.1 hf']; exact hon.1 ⟨hF.1,hF.2,hT.1,hT.2,hm⟩
     ·show a.1.length - (((i+1:Nat):Int)).toNat<a.1.length - ((i:Int)).toNat
      omega
    | false=>
     refine .inr ⟨(true,(1:Int),false,()),?_,.inr ⟨rfl,rfl,hbad fun h=>by rw [hm] at h; cases h.2.2.2.2⟩⟩
     unfold air_Check_l1 REnd
     simp only [loopD_eq,e0,decT g1,hw,Int.toNat_natCast,hx,Option.getD_some,node_r,decT hF,decT hT,hm,decT (show (0:Int)≤x.1 by omega),decT (show (0:Int)≤x.2.1 by omega),decT (show x.1.toNat<65 by omega),decT (show x.2.1.toNat<65 by omega),decT hi,decT (show (0:Int)≤(i:Int) by omega),cond_true,cond_false,Bool.and_self,Bool.not_true,Bool.not_false,Bool.and_false]
     exact ⟨trivial,trivial,trivial⟩
   ·refine .inr ⟨(true,(1:Int),false,()),?_,.inr ⟨rfl,rfl,hbad fun h=>hT ⟨h.2.2.1,h.2.2.2.1⟩⟩⟩
    unfold air_Check_l1 REnd
    simp only [loopD_eq,e0,decT g1,hw,Int.toNat_natCast,hx,Option.getD_some,node_r,decT hF,decF hT,decT hi,decT (show (0:Int)≤(i:Int) by omega),cond_true,cond_false,Bool.and_self,Bool.not_true,Bool.not_false,Bool.and_false]
    exact ⟨trivial,trivial,trivial⟩
  ·refine .inr ⟨(true,(1:Int),false,()),?_,.inr ⟨rfl,rfl,hbad fun h=>hF ⟨h.1,h.2.1⟩⟩⟩
   unfold air_Check_l1 REnd
   simp only [loopD_eq,e0,decT g1,hw,Int.toNat_natCast,hx,Option.getD_some,node_r,decF hF,decT hi,decT (show (0:Int)≤(i:Int) by omega),cond_true,cond_false,Bool.and_self,Bool.not_true,Bool.not_false,Bool.and_false]
   exact ⟨trivial,trivial,trivial⟩
 ·refine .inr ⟨(false,(1:Int),true,()),?_,.inl ⟨rfl,fun f hf'=>h1 f (by rw [List.take_of_length_le (by omega)]; exact hf')⟩⟩
  unfold air_Check_l1 REnd
  simp only [decF (show ¬ (i:Int)<(a.1.length:Int) by omega),cond_false,Bool.false_and,Bool.not_false]
  exact ⟨trivial,trivial,trivial⟩
open Classical in
theorem airCheck_r (a:Ar) (hl:a.2.length≤1000000) (hf:a.1.length≤1000000):air_Check_r a=(true,if MayA a then 0 else 1):=by
 unfold air_Check_r
 by_cases hc:chk a.2=0
 ·have hall:=(chk_zero hc).1.1
  obtain ⟨⟨q0,M,_⟩,e1,hM⟩:=check_l0 a hl hall _ (fun p q=>none_in2 _ (fun i=>none_in i) p q)
  obtain ⟨⟨r0,r1,r2,_⟩,e2,h2⟩:=check_l1 a hl hf hall
  simp only [loopD_eq,e1,e2,checkAll_r a.2 (by omega),isSorted_r a.2 hl,cond_t,Bool.and_true,Bool.true_and]
  by_cases hs:SortedA a.2
  ·by_cases hn:(a.1.length:Int)>16384
   ·have:¬ MayA a:=fun h=>by have:=h.2.2.1; omega
    simp [hc,hn,hs,if_neg this]
   ·rcases h2 with ⟨h2,hz⟩ | ⟨h2,h2',hz⟩
    ·have h2:r2=true:=h2
     subst h2
     have:MayA a:=⟨hc,hs,by omega,hz⟩
     simp [hc,hn,hs,if_pos this]
    ·have h2:r2=false:=h2
     have h2':r1=1:=h2'
     subst h2; subst h2'
     have:¬ MayA a:=fun h=>hz h.2.2.2
     simp [hc,hn,hs,if_neg this]
  ·have:¬ MayA a:=fun h=>hs h.2.1
   simp [hc,hs,if_neg this]
 ·have:¬ MayA a:=fun h=>hc h.1
  have hb:(chk a.2 !=0)=true:=bneI hc
  simp [checkAll_r a.2 (show a.2.length≤1152921504606846976 by omega),isSorted_r a.2 hl,hb,if_neg this]
end Go.Proofs.Ytfeepbajipdfaaa.T
namespace Go.Proofs.Ytfeepbajipdfaaa.T
open Go.Vm Go.Tm
set_option linter.unusedVariables false
set_option linter.unusedSimpArgs false
theorem getD_at {α:Type} (d:α) {l:List α} {i:Nat} (h:i<l.length):(l[i]?).getD d=l[i]:=by rw [List.getElem?_eq_getElem h]; rfl
def Small (a:Ar):Prop:=a.1.length≤1000∧a.2.length≤1000∧∀ f∈a.1,f.2.2.1.length≤1000000
theorem own_r (a:Ar) (h:Small a):air_own_r a=(true,a):=by
 obtain ⟨h1,h2,h3⟩:=h
 obtain ⟨r,e1,e2⟩:=loop_inv (d:=HL.dflt [.bool,(.fl (.row (.prod (.int .i64) (.prod (.int .i64) (.prod (.fl (.int .u8)) .bool)))))]) (step:=air_own_l0 a) (fun s=>∃ i:Nat,s=((i:Int),a.1,())) (fun s=>a.1.length - s.1.toNat) (fun r=>r.2.1=a.1) (by
  rintro _ ⟨i,rfl⟩
  by_cases hi:i<a.1.length
  ·have g1:(i:Int)<(a.1.length:Int):=by omega
   have hw:IntKind.i64.wrap ((i:Int)+1)=((i+1:Nat):Int):=by rw [wrap_i64 (by omega) (by omega)]; omega
   have hb:=h3 _ (List.getElem_mem hi)
   refine .inl ⟨(((i+1:Nat):Int),a.1,()),?_,⟨i+1,rfl⟩,?_⟩
   ·unfold air_own_l0 RGo slices_Clone_api_Flight_r slices_Clone_byte_r
    dsimp only
    simp only [decT g1,hw,Int.toNat_natCast,getD_at _ hi,decT hi,decT (show (0:Int)≤(i:Int) by omega),decT (show a.1[i].2.2.1.length*1≤140737488355328 by omega),cond_true,Bool.and_self]
    refine ⟨trivial,trivial,?_⟩
    rw [show ((a.1[i].1,(a.1[i].2.1,(a.1[i].2.2.1,a.1[i].2.2.2))):Fl)=a.1[i] from rfl,List.set_getElem_self]
   ·show a.1.length - (((i+1:Nat):Int)).toNat<a.1.length - ((i:Int)).toNat
    omega
  ·refine .inr ⟨(true,a.1,()),?_,rfl⟩
   unfold air_own_l0 REnd slices_Clone_api_Flight_r
   dsimp only
   simp only [decF (show ¬ (i:Int)<(a.1.length:Int) by omega),cond_false,Bool.not_false]
   exact ⟨trivial,trivial,trivial⟩) ((0:Int),a.1,()) ⟨0,rfl⟩
 unfold air_own_r
 simp only [loopD_eq,slices_Clone_api_Edge_r,slices_Clone_api_Flight_r,e1,decT (show a.2.length*24≤140737488355328 by omega),decT (show a.1.length*48≤140737488355328 by omega),Bool.and_self]
 rw [e2]
theorem half (i j:Nat) (h:i+j≤20000):IntKind.i64.wrap (iShr .u64 .u64 (IntKind.u64.wrap (IntKind.i64.wrap ((i:Int)+j))) (1:Int))=(((i+j) / 2:Nat):Int):=by
 have e1:IntKind.i64.wrap ((i:Int)+j)=(i:Int)+j:=wrap_i64 (by omega) (by omega)
 have e2:IntKind.u64.wrap ((i:Int)+j)=(i:Int)+j:=by
  unfold IntKind.wrap
  simp [IntKind.bits,IntKind.signed]
  omega
 rw [e1,e2]
 have e3:iShr .u64 .u64 ((i:Int)+j) (1:Int)=(((i+j) / 2:Nat):Int):=by
  show Int.fdiv ((i:Int)+j) (2 ^ (min (Int.toNat (1:Int)) 64))=_
  have:(2:Int) ^ (min (Int.toNat (1:Int)) 64)=2:=by decide
  rw [this,Int.fdiv_eq_ediv_of_nonneg _ (by omega)]
  omega
 rw [e3,wrap_i64 (by omega) (by omega)]
theorem lt2_trans {a b c:Ed} (h:Lt2 a b) (k:Lt2 b c):Lt2 a c:=by
 unfold Lt2 at*; omega
theorem lt2_asym {a b:Ed} (h:Lt2 a b):¬ Lt2 b a:=by
 unfold Lt2 at*; omega
theorem le2_trans {a b c:Ed} (h:¬ Lt2 b a) (k:¬ Lt2 c b):¬ Lt2 c a:=by
 unfold Lt2 at*; omega
def Strict (l:List Ed):Prop:=∀ i j (hi:i<j) (hj:j<l.length),Lt2 l[i] l[j]
theorem strict_of {l:List Ed} (hs:SortedA l) (ha:l.Pairwise Apart):Strict l:=by
 have step:∀ i (h:i+1<l.length),Lt2 l[i] l[i+1]:=fun i h=>by
  have h1:=hs i h
  rw [getD_at _ h,getD_at _ (show i<l.length by omega)] at h1
  have h2:=List.pairwise_iff_getElem.1 ha i (i+1) (by omega) h (by omega)
  unfold Apart at h2
  unfold Lt2 at*
  omega
 intro i j hi hj
 induction j with
 | zero=>omega
 | succ j ih=>
  rcases Nat.lt_or_ge i j with hlt | hge
  ·exact lt2_trans (ih hlt (by omega)) (step j hj)
  ·have:i=j:=by omega
   subst this; exact step i hj
def Place (l:List Ed) (t:Ed) (i:Nat):Prop:=i≤l.length∧(∀ k (hk:k<l.length),k<i→Lt2 l[k] t)∧(∀ k (hk:k<l.length),i≤k→¬ Lt2 l[k] t)
theorem search_r (l:List Ed) (t:Ed) (hl:l.length≤1000) (hs:Strict l):∃ i:Nat,Place l t i∧slices_BinarySearchFunc_api_Edge_r t () l=(true,(i:Int),decide (i<l.length) && decide (¬ Lt2 t ((l[i]?).getD ed0))):=by
 obtain ⟨r,e1,i,rfl,hi,ha,hb⟩:=loop_inv (d:=HL.dflt [.bool,.int .i64]) (step:=slices_BinarySearchFunc_api_Edge_l0 t () l) (fun s=>∃ i j:Nat,s=((j:Int),(i:Int),())∧i≤j∧j≤l.length∧(∀ k (hk:k<l.length),k<i→Lt2 l[k] t)∧(∀ k (hk:k<l.length),j≤k→¬ Lt2 l[k] t))
  (fun s=>(s.1 - s.2.1).toNat) (fun r=>∃ i:Nat,r=(true,(i:Int),())∧i≤l.length∧(∀ k (hk:k<l.length),k<i→Lt2 l[k] t)∧(∀ k (hk:k<l.length),i≤k→¬ Lt2 l[k] t)) (by
   rintro _ ⟨i,j,rfl,hij,hj,ha,hb⟩
   rcases Nat.lt_or_ge i j with hlt | hge
   ·have hm:(i+j) / 2<l.length:=by omega
    have g1:(i:Int)<(j:Int):=by omega
    have h0:(0:Int)≤(((i+j) / 2:Nat):Int):=Int.natCast_nonneg _
    have hw:IntKind.i64.wrap ((((i+j) / 2:Nat):Int)+1)=(((i+j) / 2+1:Nat):Int):=by rw [wrap_i64 (by omega) (by omega)]; omega
    refine .inl ?_
    by_cases hc:Lt2 l[(i+j) / 2] t
    ·refine ⟨((j:Int),(((i+j) / 2+1:Nat):Int),()),?_,⟨(i+j) / 2+1,j,rfl,by omega,hj,fun k hk hki=> ?_,hb⟩,?_⟩
     ·unfold slices_BinarySearchFunc_api_Edge_l0 RGo
      simp only [order_r,show (j:Int)+(i:Int)=(i:Int)+j from Int.add_comm _ _,half i j (by omega),Int.toNat_natCast,getD_at _ hm,decT g1,if_pos hc,hw,decT hm,decT h0,cond_true,Bool.and_self]
      exact ⟨rfl,trivial,by first | rfl | trivial⟩
     ·rcases Nat.lt_or_ge k ((i+j) / 2) with hkm | hkm
      ·exact lt2_trans (hs k _ hkm hm) hc
      ·have:k=(i+j) / 2:=by omega
       subst this; exact hc
     ·show ((j:Int) - (((i+j) / 2+1:Nat):Int)).toNat<((j:Int) - (i:Int)).toNat
      omega
    ·refine ⟨((((i+j) / 2:Nat):Int),(i:Int),()),?_,⟨i,(i+j) / 2,rfl,by omega,by omega,ha,fun k hk hki=> ?_⟩,?_⟩
     ·unfold slices_BinarySearchFunc_api_Edge_l0 RGo
      have hneg:¬ ((if Lt2 t l[(i+j) / 2] then (1:Int) else 0)<0):=by split<;>omega
      simp only [order_r,show (j:Int)+(i:Int)=(i:Int)+j from Int.add_comm _ _,half i j (by omega),Int.toNat_natCast,getD_at _ hm,decT g1,if_neg hc,decF hneg,hw,decT hm,decT h0,cond_true,cond_false,Bool.and_self]
      exact ⟨rfl,trivial,by first | rfl | trivial⟩
     ·rcases Nat.lt_or_ge ((i+j) / 2) k with hkm | hkm
      ·exact fun h=>hc (lt2_trans (hs _ k hkm hk) h)
      ·have:k=(i+j) / 2:=by omega
       subst this; exact hc
     ·show ((((i+j) / 2:Nat):Int) - (i:Int)).toNat<((j:Int) - (i:Int)).toNat
      omega
   ·have:j=i:=by omega
    subst this
    refine .inr ⟨(true,(j:Int),()),?_,j,rfl,hj,ha,hb⟩
    unfold slices_BinarySearchFunc_api_Edge_l0 REnd
    simp only [decF (show ¬ (j:Int)<(j:Int) by omega),cond_false,Bool.not_false]
    exact ⟨trivial,trivial,trivial⟩) ((l.length:Int),(0:Int),()) ⟨0,l.length,rfl,by omega,by omega,fun k hk h=>by omega,fun k hk h=>by omega⟩
 refine ⟨i,⟨hi,ha,hb⟩,?_⟩
 unfold slices_BinarySearchFunc_api_Edge_r
 simp only [loopD_eq,e1,order_r,Int.toNat_natCast]
 by_cases hlt:i<l.length
 ·have hn:=hb i hlt (Nat.le_refl _)
  simp only [getD_at _ hlt,decT (show (i:Int)<(l.length:Int) by omega),decT hlt,if_neg hn,decT (show (0:Int)≤(i:Int) by omega),cond_true,Bool.and_self,Bool.true_and]
  by_cases ht:Lt2 t l[i]
  ·simp [ht]
  ·simp [ht]
 ·simp [decF (show ¬ (i:Int)<(l.length:Int) by omega),hlt]
end Go.Proofs.Ytfeepbajipdfaaa.T
namespace Go.Proofs.Ytfeepbajipdfaaa.T
open Go.Vm Go.Tm
set_option linter.unusedVariables false
set_option linter.unusedSimpArgs false
theorem take_app {α:Type} (l m:List α) (n:Nat) (h:n≤l.length):(l.take n++m).take n=l.take n:=by
 rw [List.take_append_of_le_length (by rw [List.length_take]; omega),List.take_take,Nat.min_self]
theorem del_part {α:Type} (l:List α) (i:Nat) (hi:i<l.length):
  ((l.drop (i+1)).take (l.length - (i+1)))=l.drop (i+1)∧(((l.drop 0).take i)++(l.drop (i+1)++(l.drop ((0+i)+(l.length - (i+1)))))).length=l.length∧
  (((l.drop 0).take i)++(l.drop (i+1)++(l.drop ((0+i)+(l.length - (i+1)))))).take (i+(l.length - (i+1)))=l.take i++l.drop (i+1):=by
 refine ⟨List.take_of_length_le (by simp),?_,?_⟩
 ·simp only [List.drop_zero,List.length_append,List.length_take,List.length_drop]; omega
 ·rw [List.drop_zero,← List.append_assoc]
  refine List.take_left' ?_
  simp only [List.length_append,List.length_take,List.length_drop]; omega
theorem delEd_r (l:List Ed) (i:Nat) (hi:i<l.length) (hl:l.length≤1000):∃ m,slices_Delete_api_Edge_r (i:Int) ((i+1:Nat):Int) l=(true,(0,i+(l.length - (i+1)),m))∧m.take (i+(l.length - (i+1)))=l.take i++l.drop (i+1):=by
 obtain ⟨p1,p2,p3⟩:=del_part l i hi
 have hne:(!((i:Int)==((i+1:Nat):Int)))=true:=by simp; omega
 refine ⟨(slices_Delete_api_Edge_r (i:Int) ((i+1:Nat):Int) l).2.2.2,?_,?_⟩
 ·unfold slices_Delete_api_Edge_r
  dsimp only
  simp only [hne,Int.toNat_natCast,p1,List.length_drop,p2,cond_true]
  refine Prod.ext ?_ rfl
  have h24:(i+(l.length - (i+1)))*24≤140737488355328:=by omega
  simp [h24,show i≤l.length by omega,show i+1≤l.length by omega,show i+(l.length - (i+1))≤l.length by omega,Int.natCast_nonneg]
  omega
 ·unfold slices_Delete_api_Edge_r
  dsimp only
  simp only [hne,Int.toNat_natCast,p1,List.length_drop,cond_true]
  rw [take_app _ _ _ (by rw [p2]; omega),p3]
theorem delFl_r (l:List Fl) (i:Nat) (hi:i<l.length) (hl:l.length≤1000):∃ m,slices_Delete_api_Flight_r (i:Int) ((i+1:Nat):Int) l=(true,(0,i+(l.length - (i+1)),m))∧m.take (i+(l.length - (i+1)))=l.take i++l.drop (i+1):=by
 obtain ⟨p1,p2,p3⟩:=del_part l i hi
 have hne:(!((i:Int)==((i+1:Nat):Int)))=true:=by simp; omega
 refine ⟨(slices_Delete_api_Flight_r (i:Int) ((i+1:Nat):Int) l).2.2.2,?_,?_⟩
 ·unfold slices_Delete_api_Flight_r
  dsimp only
  simp only [hne,Int.toNat_natCast,p1,List.length_drop,p2,cond_true]
  refine Prod.ext ?_ rfl
  have h24:(i+(l.length - (i+1)))*48≤140737488355328:=by omega
  simp [h24,show i≤l.length by omega,show i+1≤l.length by omega,show i+(l.length - (i+1))≤l.length by omega,Int.natCast_nonneg]
  omega
 ·unfold slices_Delete_api_Flight_r
  dsimp only
  simp only [hne,Int.toNat_natCast,p1,List.length_drop,cond_true]
  rw [take_app _ _ _ (by rw [p2]; omega),p3]
def over (e:Ed) (f:Fl):Prop:=mn f.1 f.2.1=e.1∧mx f.1 f.2.1=e.2.1
instance (e:Ed) (f:Fl):Decidable (over e f):=by unfold over; exact inferInstance
theorem link1_r (f:Fl) (e:Ed):air_link_1_r f e=(true,decide (over e f)):=by
 unfold air_link_1_r
 have hd:decide (over e f)=(((if f.2.1<f.1 then f.2.1 else f.1)==e.1) && ((if f.1<f.2.1 then f.2.1 else f.1)==e.2.1)):=by
  rw [Bool.eq_iff_iff,decide_eq_true_iff]
  unfold over mn mx
  simp only [Bool.and_eq_true,beq_iff_eq]
 rw [hd]
 generalize ((if f.2.1<f.1 then f.2.1 else f.1)==e.1)=p
 generalize ((if f.1<f.2.1 then f.2.1 else f.1)==e.2.1)=q
 cases p<;>cases q<;>rfl
theorem index_r (l:List Fl) (e:Ed) (hl:l.length≤1000):(∃ (i:Nat) (hi:i<l.length),over e l[i]∧(∀ j (hj:j<i),¬ over e l[j])∧slices_IndexFunc_api_Flight_r () l e=(true,(i:Int)))∨((∀ f∈l,¬ over e f)∧slices_IndexFunc_api_Flight_r () l e=(true,-1)):=by
 have key:=loop_find (d:=HL.dflt [.bool,.int .i64,.bool]) (step:=slices_IndexFunc_api_Flight_l0 () l e) l.length (fun i=>over e ((l[i]?).getD fl0)) (fun i=>(true,(i:Int),false,())) (false,(l.length:Int),true,())
  (fun i hi=>by
   have g1:(i:Int)<(l.length:Int):=by omega
   have hw:IntKind.i64.wrap ((i:Int)+1)=((i+1:Nat):Int):=by rw [wrap_i64 (by omega) (by omega)]; omega
   refine ⟨fun h=> ?_,fun h=> ?_⟩
   ·unfold slices_IndexFunc_api_Flight_l0 REnd
    simp only [decT g1,hw,Int.toNat_natCast,link1_r,decT hi,decT (show (0:Int)≤(i:Int) by omega),decT h,cond_true,Bool.and_self,Bool.not_true,Bool.and_false]
    exact ⟨trivial,trivial,trivial⟩
   ·unfold slices_IndexFunc_api_Flight_l0 RGo
    simp only [decT g1,hw,Int.toNat_natCast,link1_r,decT hi,decT (show (0:Int)≤(i:Int) by omega),decF h,cond_true,Bool.and_self,Bool.not_false,Bool.and_true]
    exact ⟨trivial,trivial,trivial⟩)
  (by
   unfold slices_IndexFunc_api_Flight_l0 REnd
   simp only [decF (show ¬ (l.length:Int)<(l.length:Int) by omega),cond_false,Bool.false_and,Bool.not_false]
   exact ⟨trivial,trivial,trivial⟩)
 rcases key with ⟨i,hi,h1,h2,h3⟩ | ⟨h1,h2⟩
 ·refine .inl ⟨i,hi,?_,fun j hj=> ?_,?_⟩
  ·rw [getD_at _ hi] at h1; exact h1
  ·have:=h2 j hj
   rw [getD_at _ (by omega)] at this; exact this
  ·unfold slices_IndexFunc_api_Flight_r
   simp only [loopD_eq,h3]; rfl
 ·refine .inr ⟨fun e he=> ?_,?_⟩
  ·obtain ⟨i,hi,rfl⟩:=List.getElem_of_mem he
   have:=h1 i hi
   rw [getD_at _ hi] at this; exact this
  ·unfold slices_IndexFunc_api_Flight_r
   simp only [loopD_eq,h2]; rfl
theorem delFunc_r (l:List Fl) (e:Ed) (hl:l.length≤1000):∃ (n:Nat) (m:List Fl),slices_DeleteFunc_api_Flight_r () l e=(true,(0,n,m))∧m.take n=l.filter (fun f=> !decide (over e f))∧n=(l.filter (fun f=> !decide (over e f))).length:=by
 rcases index_r l e hl with ⟨i0,hi0,h1,h2,h3⟩ | ⟨h1,h2⟩
 ·obtain ⟨i,L,e1,e2,e3,e4⟩:=delete_loop (d:=HL.dflt [.bool,.int .i64,(.fl (.row (.prod (.int .i64) (.prod (.int .i64) (.prod (.fl (.int .u8)) .bool)))))]) (step:=slices_DeleteFunc_api_Flight_l0 () l e) (fun f=> !decide (over e f)) l i0 hi0 (fun j hj=>by simp [h2 j hj]) (by simp [h1]) (fun i L=>(true,i,L,()))
   (fun j i L hj hi hL=>by
    have g1:(j:Int)<(L.length:Int):=by omega
    have hw:IntKind.i64.wrap ((j:Int)+1)=((j+1:Nat):Int):=by rw [wrap_i64 (by omega) (by omega)]; omega
    have hw2:IntKind.i64.wrap ((i:Int)+1)=((i+1:Nat):Int):=by rw [wrap_i64 (by omega) (by omega)]; omega
    by_cases ho:over e L[j]
    ·unfold slices_DeleteFunc_api_Flight_l0 RGo
     simp only [decT g1,hw,hw2,Int.toNat_natCast,getD_at _ hj,link1_r,decT hj,decT hi,decT (show (0:Int)≤(j:Int) by omega),decT (show (0:Int)≤(i:Int) by omega),decT ho,cond_true,cond_false,Bool.and_self,Bool.not_true,Bool.false_eq_true,if_false]
     exact ⟨trivial,trivial,trivial⟩
    ·unfold slices_DeleteFunc_api_Flight_l0 RGo
     simp only [decT g1,hw,hw2,Int.toNat_natCast,getD_at _ hj,link1_r,decT hj,decT hi,decT (show (0:Int)≤(j:Int) by omega),decT (show (0:Int)≤(i:Int) by omega),decF ho,cond_true,cond_false,Bool.and_self,Bool.not_false,if_true]
     exact ⟨trivial,trivial,trivial⟩)
   (fun i L hL hi=>by
    unfold slices_DeleteFunc_api_Flight_l0 REnd
    simp only [decF (show ¬ (l.length:Int)<(L.length:Int) by omega),cond_false,Bool.not_false]
    exact ⟨trivial,trivial,trivial⟩)
  have hw0:IntKind.i64.wrap ((i0:Int)+1)=((i0+1:Nat):Int):=by rw [wrap_i64 (by omega) (by omega)]; omega
  have hne:(!((i0:Int)==(-1:Int)))=true:=by simp
  refine ⟨i,(slices_DeleteFunc_api_Flight_r () l e).2.2.2,?_,?_,by rw [← e4,List.length_take]; omega⟩
  ·unfold slices_DeleteFunc_api_Flight_r
   simp only [loopD_eq,h3,hw0,e1,hne,Int.toNat_natCast,cond_true,decT (show (0:Int)≤(i:Int) by omega),decT (show i≤L.length by omega),Bool.and_self,Bool.true_and]
   refine Prod.ext ?_ rfl
   simp only [decide_eq_true_iff,List.length_append,List.length_take]
   omega
  ·unfold slices_DeleteFunc_api_Flight_r
   simp only [loopD_eq,h3,hw0,e1,hne,Int.toNat_natCast,cond_true]
   rw [take_app _ _ _ (by omega),e4]
 ·have hall:l.filter (fun f=> !decide (over e f))=l:=by
   rw [List.filter_eq_self]
   intro f hf
   simp [h1 f hf]
  refine ⟨l.length,l,?_,?_,by rw [hall]⟩
  ·unfold slices_DeleteFunc_api_Flight_r
   simp only [h2]
   rfl
  ·rw [List.take_length,List.filter_eq_self.2]
   intro f hf
   simp [h1 f hf]
end Go.Proofs.Ytfeepbajipdfaaa.T
namespace Go.Proofs.Ytfeepbajipdfaaa.T
open Go.Vm Go.Tm
set_option linter.unusedVariables false
set_option linter.unusedSimpArgs false
abbrev Op5:=Int × Int × Int × Int × Int
def opE (o:Op5):Ed:=(mn o.2.1 o.2.2.1,mx o.2.1 o.2.2.1,o.2.2.2.2)
def there (l:List Ed) (t:Ed) (i:Nat):Prop:=∃ h:i<l.length,l[i].1=t.1∧l[i].2.1=t.2.1
theorem there_iff {l:List Ed} {t:Ed} {i:Nat} (hp:Place l t i):(decide (i<l.length) && decide (¬ Lt2 t ((l[i]?).getD ed0)))=true↔there l t i:=by
 rw [Bool.and_eq_true,decide_eq_true_iff,decide_eq_true_iff]
 constructor
 ·rintro ⟨h1,h2⟩
  rw [getD_at _ h1] at h2
  have h3:=hp.2.2 i h1 (Nat.le_refl _)
  refine ⟨h1,?_⟩
  unfold Lt2 at h2 h3
  omega
 ·rintro ⟨h1,h2⟩
  refine ⟨h1,?_⟩
  rw [getD_at _ h1]
  unfold Lt2
  omega
open Classical in
noncomputable def linkS (a:Ar) (o:Op5) (i:Nat):Ar:=
 if o.1=9 then (if there a.2 (opE o) i then (a.1.filter (fun f=> !decide (over (opE o) f)),a.2.take i++a.2.drop (i+1)) else a)
 else if May (opE o) then (if there a.2 (opE o) i then (a.1,a.2.set i (opE o)) else if a.2.length<512 then (a.1,a.2.take i++opE o::a.2.drop i) else a) else a
theorem link_r (a:Ar) (o:Op5) (hk:o.1=8∨o.1=9) (hl:a.1.length≤1000) (hl2:a.2.length≤1000) (hs:Strict a.2):
  ∃ (i lo1 n1 lo2 n2:Nat) (F:List Fl) (L:List Ed),Place a.2 (opE o) i∧air_link_r o a.1 a.2=(true,(lo1,n1,lo2,n2,F,L))∧((F.drop lo1).take n1,(L.drop lo2).take n2)=linkS a o i∧n1=(linkS a o i).1.length∧n2=(linkS a o i).2.length:=by
 obtain ⟨i,hp,e1⟩:=search_r a.2 (opE o) hl2 hs
 have hth:=there_iff hp
 have hw:IntKind.i64.wrap ((i:Int)+1)=((i+1:Nat):Int):=by have:=hp.1; rw [wrap_i64 (by omega) (by omega)]; omega
 have hil:=hp.1
 refine ⟨i,(air_link_r o a.1 a.2).2.1,(air_link_r o a.1 a.2).2.2.1,(air_link_r o a.1 a.2).2.2.2.1,(air_link_r o a.1 a.2).2.2.2.2.1,(air_link_r o a.1 a.2).2.2.2.2.2.1,(air_link_r o a.1 a.2).2.2.2.2.2.2,hp,?_⟩
 have hopE:(((if o.2.2.1<o.2.1 then o.2.2.1 else o.2.1),((if o.2.1<o.2.2.1 then o.2.2.1 else o.2.1),o.2.2.2.2)):Ed)=opE o:=rfl
 unfold air_link_r
 rw [hopE]
 simp only [e1,hw,Int.toNat_natCast,edgeCheck_r]
 cases hb:(decide (i<a.2.length) && decide (¬ Lt2 (opE o) ((a.2[i]?).getD ed0))) with
 | true=>
  obtain ⟨hi,ht⟩:=hth.1 hb
  have hT:there a.2 (opE o) i:=⟨hi,ht⟩
  obtain ⟨m,d1,d2⟩:=delEd_r a.2 i hi hl2
  obtain ⟨n,m',d3,d4,d5⟩:=delFunc_r a.1 (opE o) hl
  rcases hk with hk | hk
  ·have k9:(o.1==(9:Int))=false:=by rw [hk]; rfl
   have k8:(o.1==(8:Int))=true:=by rw [hk]; rfl
   simp only [k9,k8,cond_true,cond_false,decT hi,decT (show (0:Int)≤(i:Int) by omega),Bool.and_self,Bool.true_and]
   by_cases hm:May (opE o)
   ·refine ⟨by simp [hm],?_⟩
    unfold linkS
    rw [if_neg (show ¬ o.1=9 by omega),if_pos hm,if_pos hT]
    simp [hm,List.take_of_length_le]
   ·refine ⟨by simp [hm],?_⟩
    unfold linkS
    rw [if_neg (show ¬ o.1=9 by omega),if_neg hm]
    simp [hm,List.take_of_length_le]
  ·have k9:(o.1==(9:Int))=true:=by rw [hk]; rfl
   simp only [k9,cond_true,d1,d3,Bool.and_self,List.drop_zero,d2,d4]
   refine ⟨trivial,?_⟩
   unfold linkS
   rw [if_pos hk,if_pos hT]
   refine ⟨rfl,d5,?_⟩
   simp only [List.length_append,List.length_take,List.length_drop]
   omega
 | false=>
  have hT:¬ there a.2 (opE o) i:=fun h=>by rw [hth.2 h] at hb; cases hb
  rcases hk with hk | hk
  ·have k9:(o.1==(9:Int))=false:=by rw [hk]; rfl
   have k8:(o.1==(8:Int))=true:=by rw [hk]; rfl
   simp only [k9,k8,cond_true,cond_false,Bool.and_self,Bool.true_and,slices_Insert_api_Edge_r,Int.toNat_natCast,decT (show (0:Int)≤(i:Int) by omega),decT hil,decT (show (a.2.length+1)*24≤140737488355328 by omega)]
   by_cases hm:May (opE o)
   ·by_cases h5:(a.2.length:Int)<512
    ·refine ⟨by simp [hm],?_⟩
     unfold linkS
     rw [if_neg (show ¬ o.1=9 by omega),if_pos hm,if_neg hT,if_pos (show a.2.length<512 by omega)]
     simp [hm,h5,List.take_of_length_le]
    ·refine ⟨by simp [hm],?_⟩
     unfold linkS
     rw [if_neg (show ¬ o.1=9 by omega),if_pos hm,if_neg hT,if_neg (show ¬ a.2.length<512 by omega)]
     simp [hm,h5,List.take_of_length_le]
   ·refine ⟨by simp [hm],?_⟩
    unfold linkS
    rw [if_neg (show ¬ o.1=9 by omega),if_neg hm]
    simp [hm,List.take_of_length_le]
  ·have k9:(o.1==(9:Int))=true:=by rw [hk]; rfl
   have k8:(o.1==(8:Int))=false:=by rw [hk]; rfl
   simp only [k9,k8,cond_true,cond_false,Bool.and_self,Bool.true_and]
   refine ⟨trivial,?_⟩
   unfold linkS
   rw [if_pos hk,if_neg hT]
   simp [List.take_of_length_le]
end Go.Proofs.Ytfeepbajipdfaaa.T
namespace Go.Proofs.Ytfeepbajipdfaaa.T
open Go.Vm Go.Tm
set_option linter.unusedVariables false
set_option linter.unusedSimpArgs false
theorem erase_step {α:Type} {l:List α} {i:Nat} (k:Nat) (hi:i<l.length):(l.take (i+1)).eraseIdx k=if i=k then (l.take i).eraseIdx k else (l.take i).eraseIdx k++ [l[i]]:=by
 have htk:l.take (i+1)=l.take i++ [l[i]]:=by rw [List.take_add_one,List.getElem?_eq_getElem hi]; rfl
 have hlen:(l.take i).length=i:=by rw [List.length_take]; omega
 rw [htk]
 rcases Nat.lt_trichotomy k i with h | h | h
 ·rw [List.eraseIdx_append_of_lt_length (by omega),if_neg (by omega)]
 ·have h1:(l.take i).eraseIdx k=l.take i:=List.eraseIdx_of_length_le (by omega)
  rw [List.eraseIdx_append_of_length_le (by omega),if_pos h.symm,hlen,h1,h,Nat.sub_self]
  simp
 ·have h1:(l.take i).eraseIdx k=l.take i:=List.eraseIdx_of_length_le (by omega)
  have h2: [l[i]].eraseIdx (k - i)= [l[i]]:=List.eraseIdx_of_length_le (by simp only [List.length_cons,List.length_nil]; omega)
  rw [List.eraseIdx_append_of_length_le (by omega),if_neg (by omega),hlen,h1,h2]
theorem erase_le {α:Type} (l:List α) (k:Nat):(l.eraseIdx k).length≤l.length:=(List.eraseIdx_sublist l k).length_le
theorem mn_c (x y:Int):(cond (decide (y<x)) y x)=mn x y:=by
 unfold mn; by_cases h:y<x<;>simp [h]
theorem mx_c (x y:Int):(cond (decide (y<x)) x y)=mx x y:=by
 unfold mx
 by_cases h:y<x
 ·rw [decT h,if_neg (by omega)]; rfl
 ·rw [decF h]
  split
  ·rfl
  ·show y=x
   omega
theorem mn_le (x y:Int):mn x y≤mx x y:=by
 unfold mn mx; split<;>split<;>omega
theorem refAt_r (a:Ar) (o:Op5) (i:Nat) (hl2:a.2.length≤1000) (hs:Strict a.2) (hall:∀ e∈a.2,May e) (hp:Place a.2 (opE o) i):
  ∃ k:Nat,((there a.2 (opE o) i∧k=i∧withyref20_Up_r a (mn o.2.1 o.2.2.1) (mx o.2.1 o.2.2.1)=(true,(k:Int)))∨(¬ there a.2 (opE o) i∧k=a.2.length∧withyref20_Up_r a (mn o.2.1 o.2.2.1) (mx o.2.1 o.2.2.1)=(true,-1))):=by
 have hle:=mn_le o.2.1 o.2.2.1
 have hon:∀ e∈a.2,onL (mn o.2.1 o.2.2.1) (mx o.2.1 o.2.2.1) e↔(e.1=(opE o).1∧e.2.1=(opE o).2.1):=fun e he=>by
  have:=(hall e he).2.2.2.2.1
  show _↔(e.1=mn o.2.1 o.2.2.1∧e.2.1=mx o.2.1 o.2.2.1)
  unfold onL
  omega
 rcases refUp_r a (mn o.2.1 o.2.2.1) (mx o.2.1 o.2.2.1) (by omega) with ⟨j,hj,h1,h2,h3⟩ | ⟨h1,h2⟩
 ·have h1:=(hon _ (List.getElem_mem hj)).1 h1
  have hji:j=i:=by
   rcases Nat.lt_trichotomy j i with h | h | h
   ·have:=hp.2.1 j hj h
    unfold Lt2 at this; omega
   ·exact h
   ·have k1:=hs i j h hj
    have k2:=hp.2.2 i (by omega) (Nat.le_refl _)
    unfold Lt2 at k1 k2; omega
  subst hji
  exact ⟨j,.inl ⟨⟨hj,h1⟩,rfl,h3⟩⟩
 ·exact ⟨a.2.length,.inr ⟨fun ⟨hi,ht⟩=>h1 _ (List.getElem_mem hi) ((hon _ (List.getElem_mem hi)).2 ht),rfl,h2⟩⟩
theorem over_iff (o:Op5) (f:Fl):over (opE o) f↔((f.1=mn o.2.1 o.2.2.1∧f.2.1=mx o.2.1 o.2.2.1)∨(f.1=mx o.2.1 o.2.2.1∧f.2.1=mn o.2.1 o.2.2.1)):=by
 have hle:=mn_le o.2.1 o.2.2.1
 show (mn f.1 f.2.1=mn o.2.1 o.2.2.1∧mx f.1 f.2.1=mx o.2.1 o.2.2.1)↔_
 generalize mn o.2.1 o.2.2.1=x at*
 generalize mx o.2.1 o.2.2.1=y at*
 unfold mn mx
 split<;>split<;>omega
theorem rl_l0 (a:Ar) (o:Op5) (hl2:a.2.length≤1000) (at':Int) (k:Nat) (hk:withyref20_Up_r a (mn o.2.1 o.2.2.1) (mx o.2.1 o.2.2.1)=(true,at')) (hat:∀ i:Nat,i<a.2.length→((i:Int)=at'↔i=k)):
  ∃ r:Bool × List Ed × Unit,loopR (HL.dflt [.bool,(.fl (.row (.prod (.int .i64) (.prod (.int .i64) (.int .i64)))))]) (withyref20_link_l0 a o) ((0:Int),([]:List Ed),())=(true,r)∧r.2.1=a.2.eraseIdx k:=by
 refine loop_inv (fun s=>∃ i:Nat,s=((i:Int),(a.2.take i).eraseIdx k,())) (fun s=>a.2.length - s.1.toNat) _ ?_ _ ⟨0,rfl⟩
 rintro _ ⟨i,rfl⟩
 by_cases hi:i<a.2.length
 ·have g1:(i:Int)<(a.2.length:Int):=by omega
  have hw:IntKind.i64.wrap ((i:Int)+1)=((i+1:Nat):Int):=by rw [wrap_i64 (by omega) (by omega)]; omega
  have hst:=erase_step k hi
  have hlen:=erase_le (a.2.take i) k
  rw [List.length_take] at hlen
  refine .inl ⟨(((i+1:Nat):Int),(a.2.take (i+1)).eraseIdx k,()),?_,⟨i+1,rfl⟩,?_⟩
  ·unfold withyref20_link_l0 RGo
   rw [hst]
   by_cases hik:i=k
   ·have hb:((i:Int) !=at')=false:=by simpa using (hat i hi).2 hik
    simp only [mn_c,mx_c,hk,decT g1,hw,hb,if_pos hik,cond_true,cond_false]
    exact ⟨trivial,trivial,trivial⟩
   ·have hb:((i:Int) !=at')=true:=bneI fun h=>hik ((hat i hi).1 h)
    simp only [mn_c,mx_c,hk,decT g1,hw,hb,if_neg hik,Int.toNat_natCast,getD_at _ hi,decT hi,decT (show (0:Int)≤(i:Int) by omega),decT (show (((a.2.take i).eraseIdx k).length+ [a.2[i]].length)*24≤140737488355328 by simp only [List.length_cons,List.length_nil]; omega),cond_true,Bool.and_self]
    exact ⟨trivial,trivial,trivial⟩
  ·show a.2.length - (((i+1:Nat):Int)).toNat<a.2.length - ((i:Int)).toNat
   omega
 ·refine .inr ⟨(true,(a.2.take i).eraseIdx k,()),?_,by rw [List.take_of_length_le (by omega)]⟩
  unfold withyref20_link_l0 REnd
  simp only [decF (show ¬ (i:Int)<(a.2.length:Int) by omega),cond_false,Bool.not_false]
  exact ⟨trivial,trivial,trivial⟩
theorem rl_l1 (a:Ar) (o:Op5) (hl:a.1.length≤1000) (L:List Ed):
  ∃ r:Bool × List Fl × List Ed × Unit,loopR (HL.dflt [.bool,(.fl (.row (.prod (.int .i64) (.prod (.int .i64) (.prod (.fl (.int .u8)) .bool))))),(.fl (.row (.prod (.int .i64) (.prod (.int .i64) (.int .i64)))))]) (withyref20_link_l1 a o) ((0:Int),([]:List Fl),L,())=(true,r)∧r.2.1=a.1.filter (fun f=> !decide (over (opE o) f))∧r.2.2.1=L:=by
 refine loop_inv (fun s=>∃ i:Nat,s=((i:Int),(a.1.take i).filter (fun f=> !decide (over (opE o) f)),L,())) (fun s=>a.1.length - s.1.toNat) _ ?_ _ ⟨0,rfl⟩
 rintro _ ⟨i,rfl⟩
 by_cases hi:i<a.1.length
 ·have g1:(i:Int)<(a.1.length:Int):=by omega
  have hw:IntKind.i64.wrap ((i:Int)+1)=((i+1:Nat):Int):=by rw [wrap_i64 (by omega) (by omega)]; omega
  have htk:a.1.take (i+1)=a.1.take i++ [a.1[i]]:=by rw [List.take_add_one,List.getElem?_eq_getElem hi]; rfl
  have hlen:=List.length_filter_le (fun f=> !decide (over (opE o) f)) (a.1.take i)
  rw [List.length_take] at hlen
  have hov:=over_iff o a.1[i]
  refine .inl ⟨(((i+1:Nat):Int),(a.1.take (i+1)).filter (fun f=> !decide (over (opE o) f)),L,()),?_,⟨i+1,rfl⟩,?_⟩
  ·unfold withyref20_link_l1 RGo
   rw [htk,List.filter_append]
   simp only [mn_c,mx_c,decT g1,hw,Int.toNat_natCast,getD_at _ hi,decT hi,decT (show (0:Int)≤(i:Int) by omega),decT (show (((a.1.take i).filter (fun f=> !decide (over (opE o) f))).length+ [a.1[i]].length)*48≤140737488355328 by simp only [List.length_cons,List.length_nil]; omega)]
   generalize a.1[i]=x at hov
   have hb:cond (cond (x.1==mn o.2.1 o.2.2.1) (x.2.1==mx o.2.1 o.2.2.1) false) true (cond (x.1==mx o.2.1 o.2.2.1) (x.2.1==mn o.2.1 o.2.2.1) false)=decide (over (opE o) x):=by
    have:∀ p q r s:Bool,cond (cond p q false) true (cond r s false)=((p && q) || (r && s)):=by decide
    rw [this,Bool.eq_iff_iff,decide_eq_true_iff,hov]
    simp
   have hfil:List.filter (fun f=> !decide (over (opE o) f)) [x]=cond (!decide (over (opE o) x)) [x] []:=by
    cases hd:decide (over (opE o) x)<;>simp [List.filter,hd]
   rw [hfil]
   generalize decide (over (opE o) x)=z at hb ⊢
   generalize (x.1==mn o.2.1 o.2.2.1)=p at hb ⊢
   generalize (x.2.1==mx o.2.1 o.2.2.1)=q at hb ⊢
   generalize (x.1==mx o.2.1 o.2.2.1)=r at hb ⊢
   generalize (x.2.1==mn o.2.1 o.2.2.1)=s at hb ⊢
   subst hb
   cases p<;>cases q<;>cases r<;>cases s<;>simp
  ·show a.1.length - (((i+1:Nat):Int)).toNat<a.1.length - ((i:Int)).toNat
   omega
 ·refine .inr ⟨(true,(a.1.take i).filter (fun f=> !decide (over (opE o) f)),L,()),?_,by rw [List.take_of_length_le (by omega)],rfl⟩
  unfold withyref20_link_l1 REnd
  simp only [decF (show ¬ (i:Int)<(a.1.length:Int) by omega),cond_false,Bool.not_false]
  exact ⟨trivial,trivial,trivial⟩
def upAcc (l:List Ed) (e:Ed) (p k i:Nat):List Ed:=if i≤p then l.take i else l.take p++e::((l.take i).eraseIdx k).drop p
theorem upAcc_len (l:List Ed) (e:Ed) (p k i:Nat):(upAcc l e p k i).length≤2*l.length+1:=by
 unfold upAcc
 split
 ·rw [List.length_take]; omega
 ·have:=erase_le (l.take i) k
  rw [List.length_take] at this
  simp only [List.length_append,List.length_take,List.length_cons,List.length_drop]
  omega
theorem rl_l2 (a:Ar) (o:Op5) (hl2:a.2.length≤1000) (at':Int) (p k:Nat) (hpl:Place a.2 (opE o) p) (hkp:p≤k) (hk:withyref20_Up_r a (mn o.2.1 o.2.2.1) (mx o.2.1 o.2.2.1)=(true,at')) (hat:∀ i:Nat,i<a.2.length→((i:Int)=at'↔i=k)):
  ∃ r:Bool × Bool × List Ed × Unit,loopR (HL.dflt [.bool,.bool,(.fl (.row (.prod (.int .i64) (.prod (.int .i64) (.int .i64)))))]) (withyref20_link_l2 a o) ((0:Int),false,([]:List Ed),())=(true,r)∧r.2.1=decide (p<a.2.length)∧r.2.2.1=upAcc a.2 (opE o) p k a.2.length:=by
 refine loop_inv (fun s=>∃ i:Nat,i≤a.2.length∧s=((i:Int),decide (p<i),upAcc a.2 (opE o) p k i,())) (fun s=>a.2.length - s.1.toNat) _ ?_ _ ⟨0,by omega,by unfold upAcc; simp⟩
 rintro _ ⟨i,hile,rfl⟩
 by_cases hi:i<a.2.length
 ·have g1:(i:Int)<(a.2.length:Int):=by omega
  have hw:IntKind.i64.wrap ((i:Int)+1)=((i+1:Nat):Int):=by rw [wrap_i64 (by omega) (by omega)]; omega
  have htk:a.2.take (i+1)=a.2.take i++ [a.2[i]]:=by rw [List.take_add_one,List.getElem?_eq_getElem hi]; rfl
  have hst:=erase_step k hi
  have hacc:=upAcc_len a.2 (opE o) p k i
  have hq1:i<p→Lt2 a.2[i] (opE o):=hpl.2.1 i hi
  have hq2:p≤i→¬ Lt2 a.2[i] (opE o):=hpl.2.2 i hi
  have hbk:((i:Int) !=at')= !decide (i=k):=by
   by_cases h:i=k
   ·rw [decT h]; simpa using (hat i hi).2 h
   ·rw [decF h]; exact bneI fun hh=>h ((hat i hi).1 hh)
  have hnext:upAcc a.2 (opE o) p k (i+1)=cond (!decide (i=k)) ((cond (decide (i=p)) (upAcc a.2 (opE o) p k i++ [opE o]) (upAcc a.2 (opE o) p k i))++ [a.2[i]]) (cond (decide (i=p)) (upAcc a.2 (opE o) p k i++ [opE o]) (upAcc a.2 (opE o) p k i)):=by
   rcases Nat.lt_trichotomy i p with h | h | h
   ·rw [decF (show ¬ i=p by omega),decF (show ¬ i=k by omega)]
    unfold upAcc
    rw [if_pos (by omega),if_pos (by omega),htk]
    rfl
   ·subst h
    unfold upAcc
    rw [if_neg (by omega),if_pos (Nat.le_refl _),hst,decT rfl]
    have hE:(a.2.take i).eraseIdx k=a.2.take i:=List.eraseIdx_of_length_le (by rw [List.length_take]; omega)
    have hD:(a.2.take i).drop i= []:=List.drop_eq_nil_of_le (by rw [List.length_take]; omega)
    have hlen:(a.2.take i).length=i:=by rw [List.length_take]; omega
    rw [hE]
    by_cases hik:i=k
    ·rw [if_pos hik,decT hik,hD]; rfl
    ·rw [if_neg hik,decF hik,List.drop_append_of_le_length (by omega),hD]
     simp
   ·rw [decF (show ¬ i=p by omega)]
    unfold upAcc
    rw [if_neg (by omega),if_neg (by omega),hst]
    by_cases hik:i=k
    ·rw [if_pos hik,decT hik]; rfl
    ·rw [if_neg hik,decF hik]
     have hlen:p≤((a.2.take i).eraseIdx k).length:=by
      rw [List.length_eraseIdx,List.length_take]
      split<;>omega
     rw [List.drop_append_of_le_length hlen]
     simp
  refine .inl ⟨(((i+1:Nat):Int),decide (p<i+1),upAcc a.2 (opE o) p k (i+1),()),?_,⟨i+1,by omega,rfl⟩,?_⟩
  ·unfold withyref20_link_l2 RGo
   rw [hnext]
   have hopE:(((mn o.2.1 o.2.2.1),((mx o.2.1 o.2.2.1),o.2.2.2.2)):Ed)=opE o:=rfl
   simp only [mn_c,mx_c,hk,decT g1,hw,hbk,hopE,Int.toNat_natCast,getD_at _ hi,decT hi,decT (show (0:Int)≤(i:Int) by omega)]
   have hb:cond (!decide (p<i)) (cond (decide (a.2[i].1>mn o.2.1 o.2.2.1)) true (cond (a.2[i].1==mn o.2.1 o.2.2.1) (decide (a.2[i].2.1≥mx o.2.1 o.2.2.1)) false)) false=decide (i=p):=by
    have hbool:∀ b p q r:Bool,cond (!b) (cond p true (cond q r false)) false=(!b && (p || (q && r))):=by decide
    rw [hbool,Bool.eq_iff_iff,decide_eq_true_iff]
    simp only [Bool.and_eq_true,Bool.or_eq_true,Bool.not_eq_true',decide_eq_true_iff,decide_eq_false_iff_not,beq_iff_eq]
    have e1:(opE o).1=mn o.2.1 o.2.2.1:=rfl
    have e2:(opE o).2.1=mx o.2.1 o.2.2.1:=rfl
    unfold Lt2 at hq1 hq2
    rw [e1,e2] at hq1 hq2
    omega
   have hpn:decide (p<i+1)=cond (decide (i=p)) true (decide (p<i)):=by
    by_cases h:i=p
    ·rw [decT h,decT (show p<i+1 by omega)]; rfl
    ·rw [decF h,cond_false]
     by_cases h2:p<i
     ·rw [decT h2,decT (show p<i+1 by omega)]
     ·rw [decF h2,decF (show ¬ p<i+1 by omega)]
   rw [hpn]
   have hl24:∀ b:Bool,((cond b (upAcc a.2 (opE o) p k i++ [opE o]) (upAcc a.2 (opE o) p k i)).length+ [a.2[i]].length)*24≤140737488355328:=fun b=>by
    cases b<;>simp only [cond_true,cond_false,List.length_append,List.length_cons,List.length_nil]<;>omega
   have hl24':((upAcc a.2 (opE o) p k i).length+ [opE o].length)*24≤140737488355328:=by simp only [List.length_cons,List.length_nil]; omega
   generalize decide (a.2[i].1>mn o.2.1 o.2.2.1)=b1 at hb ⊢
   generalize (a.2[i].1==mn o.2.1 o.2.2.1)=b2 at hb ⊢
   generalize decide (a.2[i].2.1≥mx o.2.1 o.2.2.1)=b3 at hb ⊢
   rw [hb]
   simp only [decT (hl24 _),decT hl24']
   generalize decide (i=p)=b4 at hb ⊢
   generalize decide (p<i)=b5 at hb ⊢
   generalize decide (i=k)=b6 at hb ⊢
   subst hb
   cases b1<;>cases b2<;>cases b3<;>cases b5<;>cases b6<;>first | exact ⟨rfl,rfl,rfl⟩ | exact ⟨rfl,trivial,rfl⟩ | exact ⟨rfl,rfl,trivial⟩ | exact ⟨rfl,trivial,trivial⟩
  ·show a.2.length - (((i+1:Nat):Int)).toNat<a.2.length - ((i:Int)).toNat
   omega
 ·have hil:i=a.2.length:=by omega
  subst hil
  refine .inr ⟨(true,decide (p<a.2.length),upAcc a.2 (opE o) p k a.2.length,()),?_,rfl,rfl⟩
  unfold withyref20_link_l2 REnd
  simp only [decF (show ¬ (a.2.length:Int)<(a.2.length:Int) by omega),cond_false,Bool.not_false]
  exact ⟨trivial,trivial,trivial⟩
end Go.Proofs.Ytfeepbajipdfaaa.T
namespace Go.Proofs.Ytfeepbajipdfaaa.T
open Go.Vm Go.Tm
set_option linter.unusedVariables false
set_option linter.unusedSimpArgs false
theorem MayA.strict {a:Ar} (h:MayA a):Strict a.2:=strict_of h.2.1 (chk_zero h.1).1.2
theorem MayA.all {a:Ar} (h:MayA a):∀ e∈a.2,May e:=(chk_zero h.1).1.1
theorem there_of {l:List Ed} (hs:Strict l) {t:Ed} {i:Nat} (hp:Place l t i) {e:Ed} (he:e∈l) (h1:e.1=t.1) (h2:e.2.1=t.2.1):there l t i:=by
 obtain ⟨j,hj,rfl⟩:=List.getElem_of_mem he
 have hji:j=i:=by
  rcases Nat.lt_trichotomy j i with h | h | h
  ·have:=hp.2.1 j hj h
   unfold Lt2 at this; omega
  ·exact h
  ·have k1:=hs i j h hj
   have k2:=hp.2.2 i (by omega) (Nat.le_refl _)
   unfold Lt2 at k1 k2; omega
 subst hji
 exact ⟨hj,h1,h2⟩
theorem over_there {a:Ar} (hm:MayA a) {o:Op5} {i:Nat} (hp:Place a.2 (opE o) i) {f:Fl} (hf:f∈a.1) (ho:over (opE o) f):there a.2 (opE o) i:=by
 obtain ⟨e,he,hon⟩:=hm.2.2.2 f hf
 have:=(hm.all e he).2.2.2.2.1
 have hiff:=(onL_mn this).2 hon
 exact there_of hm.strict hp he (hiff.1.trans ho.1) (hiff.2.trans ho.2)
theorem refLink_r (a:Ar) (o:Op5) (hk:o.1=8∨o.1=9) (hl:a.1.length≤1000) (hl2:a.2.length≤1000) (hm:MayA a) (p:Nat) (hp:Place a.2 (opE o) p):withyref20_link_r a o=(true,linkS a o p):=by
 obtain ⟨k,hAt⟩:=refAt_r a o p hl2 hm.strict hm.all hp
 obtain ⟨at',hup,hat,hkp,hneg⟩:∃ at':Int,withyref20_Up_r a (mn o.2.1 o.2.2.1) (mx o.2.1 o.2.2.1)=(true,at')∧(∀ i:Nat,i<a.2.length→((i:Int)=at'↔i=k))∧p≤k∧((there a.2 (opE o) p∧k=p∧¬ at'<0)∨(¬ there a.2 (opE o) p∧k=a.2.length∧at'<0)):=by
  rcases hAt with ⟨h1,h2,h3⟩ | ⟨h1,h2,h3⟩
  ·exact ⟨_,h3,fun i hi=>by omega,by omega,.inl ⟨h1,h2,by omega⟩⟩
  ·exact ⟨_,h3,fun i hi=>by omega,by have:=hp.1; omega,.inr ⟨h1,h2,by omega⟩⟩
 have h512:=(chk_zero hm.1).2
 rcases hk with hk | hk
 ·
  have k9:(o.1==(9:Int))=false:=by rw [hk]; rfl
  obtain ⟨⟨r0,r1,r2,_⟩,e2,h1,h2⟩:=rl_l2 a o hl2 at' p k hp hkp hup hat
  have h1:r1=decide (p<a.2.length):=h1
  have h2:r2=upAcc a.2 (opE o) p k a.2.length:=h2
  subst h1; subst h2
  have hacc:=upAcc_len a.2 (opE o) p k a.2.length
  have hopE:(((mn o.2.1 o.2.2.1),((mx o.2.1 o.2.2.1),o.2.2.2.2)):Ed)=opE o:=rfl
  unfold withyref20_link_r linkS
  rw [if_neg (show ¬ o.1=9 by omega)]
  simp only [mn_c,mx_c,hup,k9,hopE,refMay_r,loopD_eq,e2,cond_false,Bool.not_false,cond_true,Bool.true_and,cond_t,Bool.and_self]
  by_cases hmay:May (opE o)
  ·rw [if_pos hmay]
   rcases hneg with ⟨t1,t2,t3⟩ | ⟨t1,t2,t3⟩
   ·rw [if_pos t1]
    obtain ⟨hi,ht⟩:=t1
    have hu:upAcc a.2 (opE o) p k a.2.length=a.2.set p (opE o):=by
     unfold upAcc
     rw [if_neg (by omega),List.take_length,t2,List.eraseIdx_eq_take_drop_succ,List.set_eq_take_append_cons_drop,if_pos hi]
     rw [List.drop_append_of_le_length (by rw [List.length_take]; omega)]
     have:(a.2.take p).drop p= []:=List.drop_eq_nil_of_le (by rw [List.length_take]; omega)
     rw [this,List.nil_append]
    simp [hmay,t3,hi,hu]
   ·rw [if_neg t1]
    have h24:((upAcc a.2 (opE o) p k a.2.length).length+1)*24≤140737488355328:=by omega
    by_cases h5:a.2.length<512
    ·rw [if_pos h5]
     have hne:¬ a.2.length=512:=by omega
     have hne':((a.2.length:Int)==(512:Int))=false:=beqI (by omega)
     by_cases hpl:p<a.2.length
     ·have hu:upAcc a.2 (opE o) p k a.2.length=a.2.take p++opE o::a.2.drop p:=by
       unfold upAcc
       rw [if_neg (by omega),List.take_length,t2,List.eraseIdx_of_length_le (Nat.le_refl _)]
      simp [hmay,t3,hne',hpl,hu]
     ·have hpe:p=a.2.length:=by have:=hp.1; omega
      subst hpe
      have hu:upAcc a.2 (opE o) a.2.length k a.2.length=a.2:=by
       unfold upAcc
       rw [if_pos (by omega),List.take_length]
      rw [hu] at h24
      simp [hmay,t3,hne',hu,h24]
    ·rw [if_neg h5]
     have hne':((a.2.length:Int)==(512:Int))=true:=by simp; omega
     simp [hmay,t3,hne']
  ·rw [if_neg hmay]
   rcases hneg with ⟨t1,t2,t3⟩ | ⟨t1,t2,t3⟩<;>simp [hmay,t3]
 ·
  have k9:(o.1==(9:Int))=true:=by rw [hk]; rfl
  obtain ⟨⟨r0,r1,_⟩,e0,h1⟩:=rl_l0 a o hl2 at' k hup hat
  have h1:r1=a.2.eraseIdx k:=h1
  subst h1
  obtain ⟨⟨q0,q1,q2,_⟩,e1,h2,h3⟩:=rl_l1 a o hl (a.2.eraseIdx k)
  have h2:q1=_:=h2
  have h3:q2=_:=h3
  subst h2; subst h3
  unfold withyref20_link_r linkS
  rw [if_pos hk]
  simp only [mn_c,mx_c,hup,k9,loopD_eq,e0,e1,cond_true,cond_false,Bool.not_true,Bool.and_self]
  refine Prod.ext rfl ?_
  rcases hneg with ⟨t1,t2,t3⟩ | ⟨t1,t2,t3⟩
  ·rw [if_pos t1,t2,List.eraseIdx_eq_take_drop_succ]
  ·rw [if_neg t1,t2,List.eraseIdx_of_length_le (Nat.le_refl _),List.filter_eq_self.2]
   intro f hf
   have:¬ over (opE o) f:=fun ho=>t1 (over_there hm hp hf ho)
   simp [this]
end Go.Proofs.Ytfeepbajipdfaaa.T
namespace Go.Proofs.Ytfeepbajipdfaaa.T
open Go.Vm Go.Tm
set_option linter.unusedVariables false
set_option linter.unusedSimpArgs false
theorem tmod_cases (x b:Int) (hb:0<b):(0≤Int.tmod x b∧Int.tmod x b=x % b)∨(Int.tmod x b<0∧Int.tmod x b+b=x % b):=by
 have h1:Int.tmod x b<b:=Int.tmod_lt_of_pos x hb
 have h2: -(Int.tmod x b)<b:=by rw [← Int.neg_tmod]; exact Int.tmod_lt_of_pos _ hb
 have h3:b*Int.tdiv x b+Int.tmod x b=x:=Int.mul_tdiv_add_tmod x b
 have h4:x % b=Int.tmod x b % b:=by
  conv=>lhs; rw [← h3]
  rw [Int.add_comm,Int.add_mul_emod_self_left]
 rw [h4]
 rcases Int.lt_or_le (Int.tmod x b) 0 with h | h
 ·refine .inr ⟨h,?_⟩
  rw [← Int.add_emod_right,Int.emod_eq_of_lt (by omega) (by omega)]
 ·exact .inl ⟨h,(Int.emod_eq_of_lt h h1).symm⟩
theorem mod_r (x b:Int) (hb:0<b) (hb2:b≤1000000000):bend_mod_r x b=(true,x % b):=by
 unfold bend_mod_r
 have hne:(b !=(0:Int))=true:=bneI (by omega)
 have h0:0≤x % b:=Int.emod_nonneg _ (by omega)
 have h1:x % b<b:=Int.emod_lt_of_pos _ hb
 have key:Int.tmod (IntKind.i64.wrap (Int.tmod x b+b)) b=x % b:=by
  rcases tmod_cases x b hb with ⟨k1,k2⟩ | ⟨k1,k2⟩
  ·rw [k2,wrap_i64 (by omega) (by omega),Int.tmod_eq_emod_of_nonneg (by omega),Int.add_emod_right,Int.emod_eq_of_lt h0 h1]
  ·rw [k2,wrap_i64 (by omega) (by omega),Int.tmod_eq_emod_of_nonneg h0,Int.emod_eq_of_lt h0 h1]
 simp only [key,hne,Bool.and_self]
theorem at_r (x b:Int) (hb:0<b) (hb2:b≤1000000000):withyref04_At_r x b=(true,x % b):=by
 unfold withyref04_At_r
 have hne:(b !=(0:Int))=true:=bneI (by omega)
 have h1:x % b<b:=Int.emod_lt_of_pos _ hb
 rcases tmod_cases x b hb with ⟨k1,k2⟩ | ⟨k1,k2⟩
 ·rw [k2] at k1
  simp only [k2,decF (show ¬ x % b<0 by omega),cond_false,hne]
 ·simp only [decT k1,cond_true,hne,k2]
  have h0:0≤x % b:=Int.emod_nonneg _ (by omega)
  rw [wrap_i64 (by omega) (by omega)]
theorem cut_r (B:List Int) (w:Int) (hB:B.length≤1000000):bend_Cut_r B w=(true,B.take (w % ((B.length:Int)+1)).toNat):=by
 have hw:IntKind.i64.wrap ((B.length:Int)+(1:Int))=(B.length:Int)+1:=wrap_i64 (by omega) (by omega)
 have h0:0≤w % ((B.length:Int)+1):=Int.emod_nonneg _ (by omega)
 have h1:w % ((B.length:Int)+1)<(B.length:Int)+1:=Int.emod_lt_of_pos _ (by omega)
 unfold bend_Cut_r
 simp only [hw,mod_r w ((B.length:Int)+1) (by omega) (by omega)]
 generalize w % ((B.length:Int)+1)=n at h0 h1
 refine Prod.ext ?_ ?_
 ·simp only [decT h0,decT (show (1:Int)*n≤281474976710656 by omega),beq_self_eq_true,Bool.and_self]
 ·simp only [List.take_zero,List.nil_append,List.length_replicate,Nat.zero_add]
  rw [List.drop_eq_nil_of_le (by simp only [List.length_replicate,List.length_take]; omega),List.append_nil]
theorem shift_bit (m:Nat) (hm:m<8):iShr .u8 .i64 (128:Int) ((m:Nat):Int)=iShl .u8 .u64 (1:Int) ((7 - m:Nat):Int):=by
 match m,hm with
 | 0,_=>decide
 | 1,_=>decide
 | 2,_=>decide
 | 3,_=>decide
 | 4,_=>decide
 | 5,_=>decide
 | 6,_=>decide
 | 7,_=>decide
theorem low_bit (x:Int) (h0:0≤x) (h1:x<4294967296):iBand .u32 x (1:Int)=Int.tmod x 2:=by
 rw [Int.tmod_eq_emod_of_nonneg h0]
 show IntKind.u32.wrap ((BitVec.ofInt 32 x &&& BitVec.ofInt 32 1).toNat)=x % 2
 have e:(BitVec.ofInt 32 x &&& BitVec.ofInt 32 1).toNat=x.toNat % 2:=by
  rw [BitVec.toNat_and]
  have e1:(BitVec.ofInt 32 x).toNat=x.toNat:=by
   rw [BitVec.toNat_ofInt]
   have:x % ((2 ^ 32:Nat):Int)=x:=Int.emod_eq_of_lt h0 (by simpa using h1)
   rw [this]
  have e2:(BitVec.ofInt 32 1).toNat=1:=by decide
  rw [e1,e2,Nat.and_one_is_mod]
 rw [e]
 unfold IntKind.wrap
 simp [IntKind.bits,IntKind.signed]
 omega
theorem shr_rng (p:Int) (k k':IntKind) (b:Int) (h0:0≤p) (h1:p<4294967296):0≤iShr k k' p b∧iShr k k' p b<4294967296:=by
 show 0≤Int.fdiv p (2 ^ (min (Int.toNat b) k.bits))∧Int.fdiv p (2 ^ (min (Int.toNat b) k.bits))<4294967296
 have hp:(0:Int)<2 ^ (min (Int.toNat b) k.bits):=Int.pow_pos (by decide)
 rw [Int.fdiv_eq_ediv_of_nonneg _ (by omega)]
 exact ⟨Int.ediv_nonneg h0 (by omega),Int.lt_of_le_of_lt (Int.ediv_le_self _ h0) h1⟩
noncomputable def bstep (n a:Nat) (p:Int) (i:Nat) (L:List Int):List Int:=
 cond (iBand .u32 (iShr .u32 .i64 p ((31:Int) - (i:Int))) (1:Int)==(1:Int) && decide (a+i<8*n))
  (L.set (Int.toNat (Int.tdiv ((a+i:Nat):Int) (8:Int))) (iBxor .u8 ((L[Int.toNat (Int.tdiv ((a+i:Nat):Int) (8:Int))]?).getD (0:Int)) (iShr .u8 .i64 (128:Int) (Int.tmod ((a+i:Nat):Int) (8:Int))))) L
noncomputable def biter (n a:Nat) (p:Int) (L:List Int):Nat→List Int
 | 0=>L
 | i+1=>bstep n a p i (biter n a p L i)
theorem biter_len (n a:Nat) (p:Int) (L:List Int) (i:Nat):(biter n a p L i).length=L.length:=by
 induction i with
 | zero=>rfl
 | succ i ih=>
  unfold biter bstep
  cases (iBand .u32 (iShr .u32 .i64 p ((31:Int) - (i:Int))) (1:Int)==(1:Int) && decide (a+i<8*n))
  ·exact ih
  ·simp only [cond_true,List.length_set]; exact ih
theorem burst_r (B:List Int) (at' p:Int) (hB:B.length≤1000000) (hp0:0≤p) (hp1:p<4294967296):
  bend_Burst_r B at' p=(true,if B= [] then [] else biter B.length (at' % (8*(B.length:Int))).toNat p B 32):=by
 unfold bend_Burst_r
 by_cases hn:B= []
 ·subst hn
  simp
 ·have hpos:0<B.length:=List.length_pos_iff.2 hn
  have hw:IntKind.i64.wrap ((8:Int)*(B.length:Int))=8*(B.length:Int):=wrap_i64 (by omega) (by omega)
  have h0:0≤at' % (8*(B.length:Int)):=Int.emod_nonneg _ (by omega)
  have h1:at' % (8*(B.length:Int))<8*(B.length:Int):=Int.emod_lt_of_pos _ (by omega)
  have hm:=mod_r at' (8*(B.length:Int)) (by omega) (by omega)
  have hne:(!((B.length:Int)==(0:Int)))=true:=by rw [beqI (by omega)]; rfl
  generalize hv:at' % (8*(B.length:Int))=v at*
  obtain ⟨a,rfl⟩:∃ a:Nat,v=(a:Int):=⟨v.toNat,by omega⟩
  obtain ⟨r,e1,e2⟩:=loop_inv (d:=HL.dflt [.bool,(.fl (.int .u8))]) (step:=bend_Burst_l0 B at' p) (fun s=>∃ i:Nat,i≤32∧s=((i:Int),biter B.length a p B i,())) (fun s=>32 - s.1.toNat) (fun r=>r.2.1=biter B.length a p B 32) (by
   rintro _ ⟨i,hi,rfl⟩
   have hL:=biter_len B.length a p B i
   by_cases h32:i<32
   ·have g1:(i:Int)<32:=by omega
    have hwi:IntKind.i64.wrap ((i:Int)+1)=((i+1:Nat):Int):=by rw [wrap_i64 (by omega) (by omega)]; omega
    have hw31:IntKind.i64.wrap ((31:Int) - (i:Int))=(31:Int) - (i:Int):=wrap_i64 (by omega) (by omega)
    have hwa:IntKind.i64.wrap ((a:Int)+(i:Int))=((a+i:Nat):Int):=by rw [wrap_i64 (by omega) (by omega)]; omega
    have hq0:0≤Int.tdiv ((a+i:Nat):Int) (8:Int):=Int.tdiv_nonneg (by omega) (by omega)
    have hwq:IntKind.i64.wrap (Int.tdiv ((a+i:Nat):Int) (8:Int))=Int.tdiv ((a+i:Nat):Int) (8:Int):=by
     rw [Int.tdiv_eq_ediv_of_nonneg (by omega)]; exact wrap_i64 (by omega) (by omega)
    have hq1:a+i<8*B.length→Int.toNat (Int.tdiv ((a+i:Nat):Int) (8:Int))<(biter B.length a p B i).length:=fun h=>by
     rw [Int.tdiv_eq_ediv_of_nonneg (by omega)]; omega
    have hr0:0≤Int.tmod ((a+i:Nat):Int) (8:Int):=Int.tmod_nonneg _ (by omega)
    refine .inl ⟨(((i+1:Nat):Int),biter B.length a p B (i+1),()),?_,⟨i+1,by omega,rfl⟩,?_⟩
    ·unfold bend_Burst_l0 RGo
     rw [show biter B.length a p B (i+1)=bstep B.length a p i (biter B.length a p B i) from rfl]
     unfold bstep
     generalize biter B.length a p B i=L at*
     have hwl:IntKind.i64.wrap ((8:Int)*(L.length:Int))=8*(B.length:Int):=by rw [hL]; exact hw
     simp only [decT g1,hwi,hw31,hw,hm,hwa,hwl,hwq,decT (show (0:Int)≤(31:Int) - (i:Int) by omega),decT hq0,decT hr0,show ((8:Int) !=(0:Int))=true from rfl]
     by_cases hlt:a+i<8*B.length
     ·rw [decT (show ((a+i:Nat):Int)<8*(B.length:Int) by omega),decT hlt,decT (hq1 hlt)]
      cases (iBand .u32 (iShr .u32 .i64 p ((31:Int) - (i:Int))) (1:Int)==(1:Int))<;>first | exact ⟨rfl,rfl,rfl⟩ | exact ⟨rfl,trivial,rfl⟩
     ·rw [decF (show ¬ ((a+i:Nat):Int)<8*(B.length:Int) by omega),decF hlt]
      cases (iBand .u32 (iShr .u32 .i64 p ((31:Int) - (i:Int))) (1:Int)==(1:Int))<;>first | exact ⟨rfl,rfl,rfl⟩ | exact ⟨rfl,trivial,rfl⟩
    ·show 32 - (((i+1:Nat):Int)).toNat<32 - ((i:Int)).toNat
     omega
   ·have:i=32:=by omega
    subst this
    refine .inr ⟨(true,biter B.length a p B 32,()),?_,rfl⟩
    unfold bend_Burst_l0 REnd
    simp only [decF (show ¬ ((32:Nat):Int)<32 by omega),cond_false,Bool.not_false]
    exact ⟨trivial,trivial,trivial⟩) ((0:Int),B,()) ⟨0,by omega,rfl⟩
  simp only [hw,hm,hne,loopD_eq,List.nil_append,e1,if_neg hn,cond_true,List.length_nil,Nat.zero_add,decT (show B.length*1≤140737488355328 by omega),Bool.and_self]
  rw [e2]
  rfl
theorem refBurst_r (B:List Int) (at' p:Int) (hB:B.length≤1000000) (hp0:0≤p) (hp1:p<4294967296):
  withyref04_Burst_r B at' p=(true,if B= [] then [] else biter B.length (at' % (8*(B.length:Int))).toNat p B 32):=by
 unfold withyref04_Burst_r
 by_cases hn:B= []
 ·subst hn
  simp
 ·have hpos:0<B.length:=List.length_pos_iff.2 hn
  have hw:IntKind.i64.wrap ((8:Int)*(B.length:Int))=8*(B.length:Int):=wrap_i64 (by omega) (by omega)
  have h0:0≤at' % (8*(B.length:Int)):=Int.emod_nonneg _ (by omega)
  have h1:at' % (8*(B.length:Int))<8*(B.length:Int):=Int.emod_lt_of_pos _ (by omega)
  have hm:=at_r at' (8*(B.length:Int)) (by omega) (by omega)
  have hne:(!((B.length:Int)==(0:Int)))=true:=by rw [beqI (by omega)]; rfl
  generalize hv:at' % (8*(B.length:Int))=v at*
  obtain ⟨a,rfl⟩:∃ a:Nat,v=(a:Int):=⟨v.toNat,by omega⟩
  obtain ⟨r,e1,e2⟩:=loop_inv (d:=HL.dflt [.bool,(.fl (.int .u8))]) (step:=withyref01_Burst_l0 B (a:Int) p) (fun s=>∃ i:Nat,i≤32∧s=((i:Int),biter B.length a p B i,())) (fun s=>32 - s.1.toNat) (fun r=>r.2.1=biter B.length a p B 32) (by
   rintro _ ⟨i,hi,rfl⟩
   have hL:=biter_len B.length a p B i
   by_cases h32:i<32
   ·have g1:(i:Int)<32:=by omega
    have hwi:IntKind.i64.wrap ((i:Int)+1)=((i+1:Nat):Int):=by rw [wrap_i64 (by omega) (by omega)]; omega
    have hw31:IntKind.u64.wrap (IntKind.i64.wrap ((31:Int) - (i:Int)))=(31:Int) - (i:Int):=by
     rw [wrap_i64 (by omega) (by omega)]
     unfold IntKind.wrap
     simp [IntKind.bits,IntKind.signed]
     omega
    have hwa:IntKind.i64.wrap ((a:Int)+(i:Int))=((a+i:Nat):Int):=by rw [wrap_i64 (by omega) (by omega)]; omega
    have hq0:0≤Int.tdiv ((a+i:Nat):Int) (8:Int):=Int.tdiv_nonneg (by omega) (by omega)
    have hwq:IntKind.i64.wrap (Int.tdiv ((a+i:Nat):Int) (8:Int))=Int.tdiv ((a+i:Nat):Int) (8:Int):=by
     rw [Int.tdiv_eq_ediv_of_nonneg (by omega)]; exact wrap_i64 (by omega) (by omega)
    have hq1:a+i<8*B.length→Int.toNat (Int.tdiv ((a+i:Nat):Int) (8:Int))<(biter B.length a p B i).length:=fun h=>by
     rw [Int.tdiv_eq_ediv_of_nonneg (by omega)]; omega
    have hr0:0≤Int.tmod ((a+i:Nat):Int) (8:Int):=Int.tmod_nonneg _ (by omega)
    have hrm:Int.tmod ((a+i:Nat):Int) (8:Int)=(((a+i) % 8:Nat):Int):=by rw [Int.tmod_eq_emod_of_nonneg (by omega)]; omega
    have hw7:IntKind.u64.wrap (IntKind.i64.wrap ((7:Int) - (((a+i) % 8:Nat):Int)))=((7 - (a+i) % 8:Nat):Int):=by
     rw [wrap_i64 (by omega) (by omega)]
     unfold IntKind.wrap
     simp [IntKind.bits,IntKind.signed]
     omega
    have hbit:=shift_bit ((a+i) % 8) (by omega)
    have hrng:=shr_rng p .u32 .u64 ((31:Int) - (i:Int)) hp0 hp1
    have hlow:=low_bit _ hrng.1 hrng.2
    refine .inl ⟨(((i+1:Nat):Int),biter B.length a p B (i+1),()),?_,⟨i+1,by omega,rfl⟩,?_⟩
    ·unfold withyref01_Burst_l0 RGo
     rw [show biter B.length a p B (i+1)=bstep B.length a p i (biter B.length a p B i) from rfl]
     unfold bstep
     generalize biter B.length a p B i=L at*
     rw [hrm] at hr0
     simp only [decT g1,hwi,hw31,hw,hwa,hwq,hw7,hrm,hbit,decT (show (0:Int)≤(31:Int) - (i:Int) by omega),decT (show ((a+i:Nat):Int)≥0 by omega),decT hq0,decT (show (0:Int)≤((7 - (a+i) % 8:Nat):Int) by omega),show ((8:Int) !=(0:Int))=true from rfl,show ((2:Int) !=(0:Int))=true from rfl]
     have hb2:(iBand .u32 (iShr .u32 .i64 p ((31:Int) - (i:Int))) (1:Int)==(1:Int))=(Int.tmod (iShr .u32 .u64 p ((31:Int) - (i:Int))) (2:Int)==(1:Int)):=by rw [← hlow]
     rw [hb2]
     by_cases hlt:a+i<8*B.length
     ·rw [decT (show ((a+i:Nat):Int)<8*(B.length:Int) by omega),decT hlt,decT (hq1 hlt)]
      cases (Int.tmod (iShr .u32 .u64 p ((31:Int) - (i:Int))) (2:Int)==(1:Int))<;>first | exact ⟨rfl,rfl,rfl⟩ | exact ⟨rfl,trivial,rfl⟩
     ·rw [decF (show ¬ ((a+i:Nat):Int)<8*(B.length:Int) by omega),decF hlt]
      cases (Int.tmod (iShr .u32 .u64 p ((31:Int) - (i:Int))) (2:Int)==(1:Int))<;>first | exact ⟨rfl,rfl,rfl⟩ | exact ⟨rfl,trivial,rfl⟩
    ·show 32 - (((i+1:Nat):Int)).toNat<32 - ((i:Int)).toNat
     omega
   ·have:i=32:=by omega
    subst this
    refine .inr ⟨(true,biter B.length a p B 32,()),?_,rfl⟩
    unfold withyref01_Burst_l0 REnd
    simp only [decF (show ¬ ((32:Nat):Int)<32 by omega),cond_false,Bool.not_false]
    exact ⟨trivial,trivial,trivial⟩) ((0:Int),B,()) ⟨0,by omega,rfl⟩
  unfold withyref01_Burst_r
  simp only [hw,hm,hne,loopD_eq,List.nil_append,e1,if_neg hn,cond_true,List.length_nil,Nat.zero_add,decT (show B.length*1≤140737488355328 by omega),Bool.and_self]
  rw [e2]
  rfl
end Go.Proofs.Ytfeepbajipdfaaa.T
namespace Go.Proofs.Ytfeepbajipdfaaa.T
open Go.Vm Go.Tm
set_option linter.unusedVariables false
set_option linter.unusedSimpArgs false
theorem u32_rng (x:Int):0≤IntKind.u32.wrap x∧IntKind.u32.wrap x<4294967296:=by
 unfold IntKind.wrap
 simp [IntKind.bits,IntKind.signed]
 omega
noncomputable def bentB (B:List Int) (o:Op5):List Int:=
 if o.1=6 then B.take (o.2.2.2.2 % ((B.length:Int)+1)).toNat else if B= [] then [] else biter B.length (o.2.2.1 % (8*(B.length:Int))).toNat (IntKind.u32.wrap o.2.2.2.2) B 32
noncomputable def bentS (f:Fl) (o:Op5):Fl:=if f.2.2.2=true then f else (f.1,f.2.1,bentB f.2.2.1 o,true)
theorem bent_r (f:Fl) (o:Op5) (hf:f.2.2.1.length≤1000000):air_bent_r f o=(true,bentS f o):=by
 have hr:=u32_rng o.2.2.2.2
 unfold air_bent_r
 simp only [cut_r f.2.2.1 o.2.2.2.2 hf,burst_r f.2.2.1 o.2.2.1 _ hf hr.1 hr.2]
 unfold bentS bentB
 by_cases h6:o.1=6
 ·have t6:(o.1==(6:Int))=true:=by simpa using h6
  rw [t6,if_pos h6]
  cases hb:f.2.2.2<;>simp
 ·have t6:(o.1==(6:Int))=false:=beqI h6
  rw [t6,if_neg h6]
  cases hb:f.2.2.2<;>simp
noncomputable def actAt (a:Ar) (o:Op5):Nat:=(o.2.2.2.1 % (a.1.length:Int)).toNat
noncomputable def doS (a:Ar) (o:Op5) (p:Nat):Ar × Fl × Bool:=
 if o.1=8∨o.1=9 then (linkS a o p,fl0,false)
 else if a.1.length=0∨o.1<2∨o.1>7 then (a,fl0,false)
 else if o.1=2 then ((a.1.take (actAt a o)++a.1.drop (actAt a o+1),a.2),(a.1[actAt a o]?).getD fl0,true)
 else if o.1=3 then ((a.1.take (actAt a o)++a.1.drop (actAt a o+1),a.2),fl0,false)
 else if o.1=4 then ((a.1++ [(a.1[actAt a o]?).getD fl0],a.2),fl0,false)
 else if o.1=5 then ((a.1.take (actAt a o)++a.1.drop (actAt a o+1)++ [(a.1[actAt a o]?).getD fl0],a.2),fl0,false)
 else ((a.1.set (actAt a o) (bentS ((a.1[actAt a o]?).getD fl0) o),a.2),fl0,false)
abbrev DoR:=Nat × Nat × Nat × Nat × Fl × Bool × Int × List Fl × List Ed
def airOf (r:DoR):Ar:=((r.2.2.2.2.2.2.2.1.drop r.1).take r.2.1,(r.2.2.2.2.2.2.2.2.drop r.2.2.1).take r.2.2.2.1)
def DoIs (z:Bool × DoR) (x:Ar × Fl × Bool):Prop:=z.1=true∧airOf z.2=x.1∧z.2.2.2.2.2.1=x.2.1∧z.2.2.2.2.2.2.1=x.2.2∧z.2.2.2.2.2.2.2.1=0∧z.2.2.1=x.1.1.length∧z.2.2.2.2.1=x.1.2.length
open Classical in
theorem do_bad (a:Ar) (o:Op5) (hS:Small a) (hm:¬ MayA a):air_Do_r a o=(true,(0,0,0,0,fl0,false,1,[],[])):=by
 unfold air_Do_r
 simp only [airCheck_r a (by have:=hS.2.1; omega) (by have:=hS.1; omega),if_neg hm,show ((1:Int) !=0)=true from rfl,Bool.not_true,cond_false,Bool.and_self,Bool.and_true]
open Classical in
theorem do_link (a:Ar) (o:Op5) (hS:Small a) (hm:MayA a) (hk0:o.1=8∨o.1=9):∃ p,Place a.2 (opE o) p∧DoIs (air_Do_r a o) (doS a o p):=by
 obtain ⟨h1,h2,h3⟩:=id hS
 obtain ⟨p,lo1,n1,lo2,n2,F,L,hp,e1,e2,e3,e4⟩:=link_r a o hk0 h1 h2 hm.strict
 refine ⟨p,hp,?_⟩
 unfold DoIs doS
 rw [if_pos hk0]
 have hair:airOf (lo1,n1,lo2,n2,fl0,false,0,F,L)=linkS a o p:=e2
 rcases hk0 with hk | hk
 ·have t8:(o.1==(8:Int))=true:=by simpa using hk
  have t9:(o.1==(9:Int))=false:=beqI (by omega)
  have t6:(o.1==(6:Int))=false:=beqI (by omega)
  have t7:(o.1==(7:Int))=false:=beqI (by omega)
  have t4:(o.1==(4:Int))=false:=beqI (by omega)
  have t2:(o.1==(2:Int))=false:=beqI (by omega)
  have t5:(o.1==(5:Int))=false:=beqI (by omega)
  have key:air_Do_r a o=(true,(lo1,n1,lo2,n2,fl0,false,0,F,L)):=by
   unfold air_Do_r
   simp only [airCheck_r a (by omega) (by omega),if_pos hm,own_r a hS,e1,t8,t9,t6,t7,t4,t2,t5,show ((0:Int) !=0)=false from rfl,cond_true,cond_false,Bool.not_true,Bool.not_false,Bool.and_self,Bool.and_true,Bool.true_and,Bool.and_false,Bool.false_and]
  rw [key]
  exact ⟨rfl,hair,rfl,rfl,rfl,e3,e4⟩
 ·have t8:(o.1==(8:Int))=false:=beqI (by omega)
  have t9:(o.1==(9:Int))=true:=by simpa using hk
  have t6:(o.1==(6:Int))=false:=beqI (by omega)
  have t7:(o.1==(7:Int))=false:=beqI (by omega)
  have t4:(o.1==(4:Int))=false:=beqI (by omega)
  have t2:(o.1==(2:Int))=false:=beqI (by omega)
  have t5:(o.1==(5:Int))=false:=beqI (by omega)
  have key:air_Do_r a o=(true,(lo1,n1,lo2,n2,fl0,false,0,F,L)):=by
   unfold air_Do_r
   simp only [airCheck_r a (by omega) (by omega),if_pos hm,own_r a hS,e1,t8,t9,t6,t7,t4,t2,t5,show ((0:Int) !=0)=false from rfl,cond_true,cond_false,Bool.not_true,Bool.not_false,Bool.and_self,Bool.and_true,Bool.true_and,Bool.and_false,Bool.false_and]
  rw [key]
  exact ⟨rfl,hair,rfl,rfl,rfl,e3,e4⟩
open Classical in
theorem do_idle (a:Ar) (o:Op5) (hS:Small a) (hm:MayA a) (p:Nat) (hk0:¬ (o.1=8∨o.1=9)) (hn:a.1.length=0∨o.1<2∨o.1>7):DoIs (air_Do_r a o) (doS a o p):=by
 obtain ⟨h1,h2,h3⟩:=id hS
 unfold DoIs doS
 rw [if_neg hk0,if_pos hn]
 have t8:(o.1==(8:Int))=false:=beqI (by omega)
 have t9:(o.1==(9:Int))=false:=beqI (by omega)
 have hair:airOf (0,a.1.length,0,a.2.length,fl0,false,0,a.1,a.2)=a:=by
  unfold airOf
  simp only [List.drop_zero,List.take_length]
 have key:air_Do_r a o=(true,(0,a.1.length,0,a.2.length,fl0,false,0,a.1,a.2)):=by
  unfold air_Do_r
  simp only [airCheck_r a (by omega) (by omega),if_pos hm,own_r a hS,t8,t9,show ((0:Int) !=0)=false from rfl,cond_true,cond_false,Bool.not_true,Bool.not_false,Bool.and_self,Bool.and_true,Bool.true_and,Bool.and_false,Bool.false_and]
  by_cases hz:a.1.length=0
  ·have tz:((a.1.length:Int)==(0:Int))=true:=by simpa using hz
   simp only [tz,show ((0:Int) !=0)=false from rfl,cond_true,cond_false,Bool.not_true,Bool.not_false,Bool.and_self,Bool.and_true,Bool.true_and,Bool.and_false,Bool.false_and]
  ·have tz:((a.1.length:Int)==(0:Int))=false:=beqI (by omega)
   by_cases hl:o.1<2
   ·simp only [tz,decT hl,show ((0:Int) !=0)=false from rfl,cond_true,cond_false,Bool.not_true,Bool.not_false,Bool.and_self,Bool.and_true,Bool.true_and,Bool.and_false,Bool.false_and]
   ·have hg:o.1>7:=by omega
    simp only [tz,decF hl,decT hg,show ((0:Int) !=0)=false from rfl,cond_true,cond_false,Bool.not_true,Bool.not_false,Bool.and_self,Bool.and_true,Bool.true_and,Bool.and_false,Bool.false_and]
 rw [key]
 exact ⟨rfl,hair,rfl,rfl,rfl,rfl,rfl⟩
open Classical in
theorem do_act (a:Ar) (o:Op5) (hS:Small a) (hm:MayA a) (p:Nat) (hz:¬ a.1.length=0) (hl:2≤o.1) (hg:o.1≤7):DoIs (air_Do_r a o) (doS a o p):=by
 obtain ⟨h1,h2,h3⟩:=id hS
 unfold DoIs doS
 rw [if_neg (show ¬ (o.1=8∨o.1=9) by omega),if_neg (show ¬ (a.1.length=0∨o.1<2∨o.1>7) by omega)]
 have tz:((a.1.length:Int)==(0:Int))=false:=beqI (by omega)
 have tz':((a.1.length:Int) !=(0:Int))=true:=bneI (by omega)
 have tl:decide (o.1<(2:Int))=false:=decF (by omega)
 have tg:decide (o.1>(7:Int))=false:=decF (by omega)
 have hb0:0≤o.2.2.2.1 % (a.1.length:Int):=Int.emod_nonneg _ (by omega)
 have hb1:o.2.2.2.1 % (a.1.length:Int)<(a.1.length:Int):=Int.emod_lt_of_pos _ (by omega)
 have hmod:Int.tmod (IntKind.i64.wrap (Int.tmod o.2.2.2.1 (a.1.length:Int)+(a.1.length:Int))) (a.1.length:Int)=((actAt a o:Nat):Int):=by
  have:=congrArg (fun z:Bool × Int=>z.2) (mod_r o.2.2.2.1 (a.1.length:Int) (by omega) (by omega))
  unfold bend_mod_r at this
  unfold actAt
  rw [Int.toNat_of_nonneg hb0]
  exact this
 have hi:actAt a o<a.1.length:=by unfold actAt; omega
 generalize actAt a o=i at*
 have hw:IntKind.i64.wrap ((i:Int)+1)=((i+1:Nat):Int):=by rw [wrap_i64 (by omega) (by omega)]; omega
 have hf:=h3 _ (List.getElem_mem hi)
 have t0:decide ((0:Int)≤(i:Int))=true:=decT (by omega)
 obtain ⟨m,d1,d2⟩:=delFl_r a.1 i hi h1
 have hlast:decide ((a.1.length:Int)<(16384:Int))=true:=decT (by omega)
 have hcl:slices_Clone_byte_r a.1[i].2.2.1=(true,a.1[i].2.2.1):=by
  unfold slices_Clone_byte_r
  rw [decT (show a.1[i].2.2.1.length*1≤140737488355328 by omega)]
 have t48:∀ x:Fl,decide ((a.1.length+ [x].length)*48≤140737488355328)=true:=fun x=>decT (by simp only [List.length_cons,List.length_nil]; omega)
 have t48':∀ x:Fl,decide ((i+(a.1.length - (i+1))+ [x].length)*48≤140737488355328)=true:=fun x=>decT (by simp only [List.length_cons,List.length_nil]; omega)
 have hk2:o.1=2∨o.1=3∨o.1=4∨o.1=5∨o.1=6∨o.1=7:=by omega
 rcases hk2 with hk | hk | hk | hk | hk | hk
 ·have t8:(o.1==(8:Int))=false:=beqI (by omega)
  have t9:(o.1==(9:Int))=false:=beqI (by omega)
  have t6:(o.1==(6:Int))=false:=beqI (by omega)
  have t7:(o.1==(7:Int))=false:=beqI (by omega)
  have t4:(o.1==(4:Int))=false:=beqI (by omega)
  have t2:(o.1==(2:Int))=true:=by simpa using hk
  have t5:(o.1==(5:Int))=false:=beqI (by omega)
  rw [if_pos hk]
  have key:air_Do_r a o=(true,(0,i+(a.1.length - (i+1)),0,a.2.length,a.1[i],true,0,m,a.2)):=by
   unfold air_Do_r
   simp only [airCheck_r a (by omega) (by omega),if_pos hm,own_r a hS,hmod,hw,d1,tz,tz',tl,tg,t0,decT hi,hlast,Int.toNat_natCast,getD_at _ hi,bent_r _ o hf,hcl,t48,t48',t8,t9,t6,t7,t4,t2,t5,show ((0:Int) !=0)=false from rfl,cond_true,cond_false,Bool.not_true,Bool.not_false,Bool.and_self,Bool.and_true,Bool.true_and,Bool.and_false,Bool.false_and,List.drop_zero,d2]
  rw [key,getD_at _ hi]
  refine ⟨rfl,?_,rfl,rfl,rfl,by first | rfl | (simp only [List.length_append,List.length_take,List.length_drop]; omega),rfl⟩
  unfold airOf
  simp only [List.drop_zero,List.take_length,d2]
 ·have t8:(o.1==(8:Int))=false:=beqI (by omega)
  have t9:(o.1==(9:Int))=false:=beqI (by omega)
  have t6:(o.1==(6:Int))=false:=beqI (by omega)
  have t7:(o.1==(7:Int))=false:=beqI (by omega)
  have t4:(o.1==(4:Int))=false:=beqI (by omega)
  have t2:(o.1==(2:Int))=false:=beqI (by omega)
  have t5:(o.1==(5:Int))=false:=beqI (by omega)
  rw [if_neg (show ¬ o.1=2 by omega),if_pos hk]
  have key:air_Do_r a o=(true,(0,i+(a.1.length - (i+1)),0,a.2.length,fl0,false,0,m,a.2)):=by
   unfold air_Do_r
   simp only [airCheck_r a (by omega) (by omega),if_pos hm,own_r a hS,hmod,hw,d1,tz,tz',tl,tg,t0,decT hi,hlast,Int.toNat_natCast,getD_at _ hi,bent_r _ o hf,hcl,t48,t48',t8,t9,t6,t7,t4,t2,t5,show ((0:Int) !=0)=false from rfl,cond_true,cond_false,Bool.not_true,Bool.not_false,Bool.and_self,Bool.and_true,Bool.true_and,Bool.and_false,Bool.false_and,List.drop_zero,d2]
  rw [key]
  refine ⟨rfl,?_,rfl,rfl,rfl,by first | rfl | (simp only [List.length_append,List.length_take,List.length_drop]; omega),rfl⟩
  unfold airOf
  simp only [List.drop_zero,List.take_length,d2]
 ·have t8:(o.1==(8:Int))=false:=beqI (by omega)
  have t9:(o.1==(9:Int))=false:=beqI (by omega)
  have t6:(o.1==(6:Int))=false:=beqI (by omega)
  have t7:(o.1==(7:Int))=false:=beqI (by omega)
  have t4:(o.1==(4:Int))=true:=by simpa using hk
  have t2:(o.1==(2:Int))=false:=beqI (by omega)
  have t5:(o.1==(5:Int))=false:=beqI (by omega)
  rw [if_neg (show ¬ o.1=2 by omega),if_neg (show ¬ o.1=3 by omega),if_pos hk]
  have key:air_Do_r a o=(true,(0,(a.1++ [a.1[i]]).length,0,a.2.length,fl0,false,0,a.1++ [a.1[i]],a.2)):=by
   unfold air_Do_r
   simp only [airCheck_r a (by omega) (by omega),if_pos hm,own_r a hS,hmod,hw,d1,tz,tz',tl,tg,t0,decT hi,hlast,Int.toNat_natCast,getD_at _ hi,bent_r _ o hf,hcl,t48,t48',t8,t9,t6,t7,t4,t2,t5,show ((0:Int) !=0)=false from rfl,cond_true,cond_false,Bool.not_true,Bool.not_false,Bool.and_self,Bool.and_true,Bool.true_and,Bool.and_false,Bool.false_and,List.drop_zero,d2]
  rw [key,getD_at _ hi]
  refine ⟨rfl,?_,rfl,rfl,rfl,by first | rfl | (simp only [List.length_append,List.length_take,List.length_drop]; omega),rfl⟩
  unfold airOf
  simp only [List.drop_zero,List.take_length,d2]
 ·have t8:(o.1==(8:Int))=false:=beqI (by omega)
  have t9:(o.1==(9:Int))=false:=beqI (by omega)
  have t6:(o.1==(6:Int))=false:=beqI (by omega)
  have t7:(o.1==(7:Int))=false:=beqI (by omega)
  have t4:(o.1==(4:Int))=false:=beqI (by omega)
  have t2:(o.1==(2:Int))=false:=beqI (by omega)
  have t5:(o.1==(5:Int))=true:=by simpa using hk
  rw [if_neg (show ¬ o.1=2 by omega),if_neg (show ¬ o.1=3 by omega),if_neg (show ¬ o.1=4 by omega),if_pos hk]
  have key:air_Do_r a o=(true,(0,(a.1.take i++a.1.drop (i+1)++ [a.1[i]]).length,0,a.2.length,fl0,false,0,a.1.take i++a.1.drop (i+1)++ [a.1[i]],a.2)):=by
   unfold air_Do_r
   simp only [airCheck_r a (by omega) (by omega),if_pos hm,own_r a hS,hmod,hw,d1,tz,tz',tl,tg,t0,decT hi,hlast,Int.toNat_natCast,getD_at _ hi,bent_r _ o hf,hcl,t48,t48',t8,t9,t6,t7,t4,t2,t5,show ((0:Int) !=0)=false from rfl,cond_true,cond_false,Bool.not_true,Bool.not_false,Bool.and_self,Bool.and_true,Bool.true_and,Bool.and_false,Bool.false_and,List.drop_zero,d2]
  rw [key,getD_at _ hi]
  refine ⟨rfl,?_,rfl,rfl,rfl,by first | rfl | (simp only [List.length_append,List.length_take,List.length_drop]; omega),rfl⟩
  unfold airOf
  simp only [List.drop_zero,List.take_length,d2]
 ·have t8:(o.1==(8:Int))=false:=beqI (by omega)
  have t9:(o.1==(9:Int))=false:=beqI (by omega)
  have t6:(o.1==(6:Int))=true:=by simpa using hk
  have t7:(o.1==(7:Int))=false:=beqI (by omega)
  have t4:(o.1==(4:Int))=false:=beqI (by omega)
  have t2:(o.1==(2:Int))=false:=beqI (by omega)
  have t5:(o.1==(5:Int))=false:=beqI (by omega)
  rw [if_neg (show ¬ o.1=2 by omega),if_neg (show ¬ o.1=3 by omega),if_neg (show ¬ o.1=4 by omega),if_neg (show ¬ o.1=5 by omega)]
  have key:air_Do_r a o=(true,(0,(a.1.set i (bentS a.1[i] o)).length,0,a.2.length,fl0,false,0,a.1.set i (bentS a.1[i] o),a.2)):=by
   unfold air_Do_r
   simp only [airCheck_r a (by omega) (by omega),if_pos hm,own_r a hS,hmod,hw,d1,tz,tz',tl,tg,t0,decT hi,hlast,Int.toNat_natCast,getD_at _ hi,bent_r _ o hf,hcl,t48,t48',t8,t9,t6,t7,t4,t2,t5,show ((0:Int) !=0)=false from rfl,cond_true,cond_false,Bool.not_true,Bool.not_false,Bool.and_self,Bool.and_true,Bool.true_and,Bool.and_false,Bool.false_and,List.drop_zero,d2]
  rw [key,getD_at _ hi]
  refine ⟨rfl,?_,rfl,rfl,rfl,by first | rfl | (simp only [List.length_append,List.length_take,List.length_drop]; omega),rfl⟩
  unfold airOf
  simp only [List.drop_zero,List.take_length,d2]
 ·have t8:(o.1==(8:Int))=false:=beqI (by omega)
  have t9:(o.1==(9:Int))=false:=beqI (by omega)
  have t6:(o.1==(6:Int))=false:=beqI (by omega)
  have t7:(o.1==(7:Int))=true:=by simpa using hk
  have t4:(o.1==(4:Int))=false:=beqI (by omega)
  have t2:(o.1==(2:Int))=false:=beqI (by omega)
  have t5:(o.1==(5:Int))=false:=beqI (by omega)
  rw [if_neg (show ¬ o.1=2 by omega),if_neg (show ¬ o.1=3 by omega),if_neg (show ¬ o.1=4 by omega),if_neg (show ¬ o.1=5 by omega)]
  have key:air_Do_r a o=(true,(0,(a.1.set i (bentS a.1[i] o)).length,0,a.2.length,fl0,false,0,a.1.set i (bentS a.1[i] o),a.2)):=by
   unfold air_Do_r
   simp only [airCheck_r a (by omega) (by omega),if_pos hm,own_r a hS,hmod,hw,d1,tz,tz',tl,tg,t0,decT hi,hlast,Int.toNat_natCast,getD_at _ hi,bent_r _ o hf,hcl,t48,t48',t8,t9,t6,t7,t4,t2,t5,show ((0:Int) !=0)=false from rfl,cond_true,cond_false,Bool.not_true,Bool.not_false,Bool.and_self,Bool.and_true,Bool.true_and,Bool.and_false,Bool.false_and,List.drop_zero,d2]
  rw [key,getD_at _ hi]
  refine ⟨rfl,?_,rfl,rfl,rfl,by first | rfl | (simp only [List.length_append,List.length_take,List.length_drop]; omega),rfl⟩
  unfold airOf
  simp only [List.drop_zero,List.take_length,d2]
end Go.Proofs.Ytfeepbajipdfaaa.T
namespace Go.Proofs.Ytfeepbajipdfaaa.T
open Go.Vm Go.Tm
set_option linter.unusedVariables false
set_option linter.unusedSimpArgs false
theorem refDo_r (a:Ar) (o:Op5) (hS:Small a) (hm:MayA a) (p:Nat) (hp:Place a.2 (opE o) p):withyref20_Do_r a o=(true,doS a o p):=by
 obtain ⟨h1,h2,h3⟩:=id hS
 unfold doS
 by_cases hk0:o.1=8∨o.1=9
 ·rw [if_pos hk0]
  have e1:=refLink_r a o hk0 h1 h2 hm p hp
  unfold withyref20_Do_r
  rcases hk0 with hk | hk
  ·have t8:(o.1==(8:Int))=true:=by simpa using hk
   have t9:(o.1==(9:Int))=false:=beqI (by omega)
   simp only [e1,t8,t9,cond_true,cond_false,Bool.not_true,Bool.not_false,Bool.and_self,Bool.and_true,Bool.true_and,Bool.and_false,Bool.false_and]
  ·have t8:(o.1==(8:Int))=false:=beqI (by omega)
   have t9:(o.1==(9:Int))=true:=by simpa using hk
   simp only [e1,t8,t9,cond_true,cond_false,Bool.not_true,Bool.not_false,Bool.and_self,Bool.and_true,Bool.true_and,Bool.and_false,Bool.false_and]
 ·rw [if_neg hk0]
  have t8:(o.1==(8:Int))=false:=beqI (by omega)
  have t9:(o.1==(9:Int))=false:=beqI (by omega)
  by_cases hn:a.1.length=0∨o.1<2∨o.1>7
  ·rw [if_pos hn]
   unfold withyref20_Do_r
   by_cases hz:a.1.length=0
   ·have tz:((a.1.length:Int)==(0:Int))=true:=by simpa using hz
    simp only [tz,t8,t9,cond_true,cond_false,Bool.not_true,Bool.not_false,Bool.and_self,Bool.and_true,Bool.true_and,Bool.and_false,Bool.false_and]
   ·have tz:((a.1.length:Int)==(0:Int))=false:=beqI (by omega)
    by_cases hl:o.1<2
    ·simp only [tz,t8,t9,decT hl,cond_true,cond_false,Bool.not_true,Bool.not_false,Bool.and_self,Bool.and_true,Bool.true_and,Bool.and_false,Bool.false_and]
    ·have hg:o.1>7:=by omega
     simp only [tz,t8,t9,decF hl,decT hg,cond_true,cond_false,Bool.not_true,Bool.not_false,Bool.and_self,Bool.and_true,Bool.true_and,Bool.and_false,Bool.false_and]
  ·rw [if_neg hn]
   have hz:¬ a.1.length=0:=fun h=>hn (.inl h)
   have tz:((a.1.length:Int)==(0:Int))=false:=beqI (by omega)
   have tl:decide (o.1<(2:Int))=false:=decF (by omega)
   have tg:decide (o.1>(7:Int))=false:=decF (by omega)
   have hb0:0≤o.2.2.2.1 % (a.1.length:Int):=Int.emod_nonneg _ (by omega)
   have hb1:o.2.2.2.1 % (a.1.length:Int)<(a.1.length:Int):=Int.emod_lt_of_pos _ (by omega)
   have hmod:withyref04_At_r o.2.2.2.1 (a.1.length:Int)=(true,((actAt a o:Nat):Int)):=by
    rw [at_r _ _ (by omega) (by omega)]
    unfold actAt
    rw [Int.toNat_of_nonneg hb0]
   have hi:actAt a o<a.1.length:=by unfold actAt; omega
   generalize actAt a o=i at*
   have hw:IntKind.i64.wrap ((i:Int)+1)=((i+1:Nat):Int):=by rw [wrap_i64 (by omega) (by omega)]; omega
   have hf:=h3 _ (List.getElem_mem hi)
   have t0:decide ((0:Int)≤(i:Int))=true:=decT (by omega)
   have t0':decide ((0:Int)≤((i+1:Nat):Int))=true:=decT (by omega)
   have hlast:decide ((a.1.length:Int)<(16384:Int))=true:=decT (by omega)
   have hdt:(a.1.drop (i+1)).take (a.1.length - (i+1))=a.1.drop (i+1):=List.take_of_length_le (by simp)
   have hlen:(a.1.take i++a.1.drop (i+1)).length=a.1.length - 1:=by simp only [List.length_append,List.length_take,List.length_drop]; omega
   have hlt:(a.1.take i).length=i:=by rw [List.length_take]; omega
   have n1:decide ((0+a.1.length)*48≤140737488355328)=true:=decT (by omega)
   have n2:decide ((0+i)*48≤140737488355328)=true:=decT (by omega)
   have n3:decide ((i+(a.1.length - (i+1)))*48≤140737488355328)=true:=decT (by omega)
   have n4:decide ((a.1.length+(0+1))*48≤140737488355328)=true:=decT (by omega)
   have n5:decide ((i+(a.1.length - (i+1))+(0+1))*48≤140737488355328)=true:=decT (by omega)
   have n6:decide ((a.1.length - 1+(0+1))*48≤140737488355328)=true:=decT (by omega)
   have l1:decide (i≤a.1.length)=true:=decT (by omega)
   have l2:decide (i+1≤a.1.length)=true:=decT (by omega)
   have hr:=u32_rng o.2.2.2.2
   have hcut:withyref04_At_r o.2.2.2.2 (IntKind.i64.wrap ((a.1[i].2.2.1.length:Int)+(1:Int)))=(true,o.2.2.2.2 % ((a.1[i].2.2.1.length:Int)+1)):=by
    rw [wrap_i64 (by omega) (by omega),at_r _ _ (by omega) (by omega)]
   have hc0:0≤o.2.2.2.2 % ((a.1[i].2.2.1.length:Int)+1):=Int.emod_nonneg _ (by omega)
   have hc1:o.2.2.2.2 % ((a.1[i].2.2.1.length:Int)+1)<(a.1[i].2.2.1.length:Int)+1:=Int.emod_lt_of_pos _ (by omega)
   have c0:decide (0≤o.2.2.2.2 % ((a.1[i].2.2.1.length:Int)+1))=true:=decT hc0
   have c1:decide (Int.toNat (o.2.2.2.2 % ((a.1[i].2.2.1.length:Int)+1))≤a.1[i].2.2.1.length)=true:=decT (by omega)
   have hbu:=refBurst_r a.1[i].2.2.1 o.2.2.1 _ hf hr.1 hr.2
   have hset:∀ x:Fl,((a.1.set i x)[i]?).getD fl0=x:=fun x=>by rw [List.getElem?_set_self hi]; rfl
   have hset2:∀ x y:Fl,(a.1.set i x).set i y=a.1.set i y:=fun x y=>List.set_set ..
   have hk2:o.1=2∨o.1=3∨o.1=4∨o.1=5∨o.1=6∨o.1=7:=by omega
   rcases hk2 with hk | hk | hk | hk | hk | hk
   ·have t8:(o.1==(8:Int))=false:=beqI (by omega)
    have t9:(o.1==(9:Int))=false:=beqI (by omega)
    have t2:(o.1==(2:Int))=true:=by simpa using hk
    have t3:(o.1==(3:Int))=false:=beqI (by omega)
    have t4:(o.1==(4:Int))=false:=beqI (by omega)
    have t5:(o.1==(5:Int))=false:=beqI (by omega)
    have t6:(o.1==(6:Int))=false:=beqI (by omega)
    rw [if_pos hk]
    unfold withyref20_Do_r
    simp only [hmod,hw,hdt,tz,tl,tg,t0,t0',decT hi,hlast,Int.toNat_natCast,getD_at _ hi,n1,n2,n3,n4,n5,n6,l1,l2,hlen,hlt,List.length_nil,List.length_cons,List.length_append,List.length_drop,List.length_set,List.nil_append,List.drop_zero,hcut,c0,c1,hbu,hset,hset2,t8,t9,t2,t3,t4,t5,t6,cond_true,cond_false,Bool.not_true,Bool.not_false,Bool.and_self,Bool.and_true,Bool.true_and,Bool.and_false,Bool.false_and]
   ·have t8:(o.1==(8:Int))=false:=beqI (by omega)
    have t9:(o.1==(9:Int))=false:=beqI (by omega)
    have t2:(o.1==(2:Int))=false:=beqI (by omega)
    have t3:(o.1==(3:Int))=true:=by simpa using hk
    have t4:(o.1==(4:Int))=false:=beqI (by omega)
    have t5:(o.1==(5:Int))=false:=beqI (by omega)
    have t6:(o.1==(6:Int))=false:=beqI (by omega)
    rw [if_neg (show ¬ o.1=2 by omega),if_pos hk]
    unfold withyref20_Do_r
    simp only [hmod,hw,hdt,tz,tl,tg,t0,t0',decT hi,hlast,Int.toNat_natCast,getD_at _ hi,n1,n2,n3,n4,n5,n6,l1,l2,hlen,hlt,List.length_nil,List.length_cons,List.length_append,List.length_drop,List.length_set,List.nil_append,List.drop_zero,hcut,c0,c1,hbu,hset,hset2,t8,t9,t2,t3,t4,t5,t6,cond_true,cond_false,Bool.not_true,Bool.not_false,Bool.and_self,Bool.and_true,Bool.true_and,Bool.and_false,Bool.false_and]
   ·have t8:(o.1==(8:Int))=false:=beqI (by omega)
    have t9:(o.1==(9:Int))=false:=beqI (by omega)
    have t2:(o.1==(2:Int))=false:=beqI (by omega)
    have t3:(o.1==(3:Int))=false:=beqI (by omega)
    have t4:(o.1==(4:Int))=true:=by simpa using hk
    have t5:(o.1==(5:Int))=false:=beqI (by omega)
    have t6:(o.1==(6:Int))=false:=beqI (by omega)
    rw [if_neg (show ¬ o.1=2 by omega),if_neg (show ¬ o.1=3 by omega),if_pos hk]
    unfold withyref20_Do_r
    simp only [hmod,hw,hdt,tz,tl,tg,t0,t0',decT hi,hlast,Int.toNat_natCast,getD_at _ hi,n1,n2,n3,n4,n5,n6,l1,l2,hlen,hlt,List.length_nil,List.length_cons,List.length_append,List.length_drop,List.length_set,List.nil_append,List.drop_zero,hcut,c0,c1,hbu,hset,hset2,t8,t9,t2,t3,t4,t5,t6,cond_true,cond_false,Bool.not_true,Bool.not_false,Bool.and_self,Bool.and_true,Bool.true_and,Bool.and_false,Bool.false_and]
   ·have t8:(o.1==(8:Int))=false:=beqI (by omega)
    have t9:(o.1==(9:Int))=false:=beqI (by omega)
    have t2:(o.1==(2:Int))=false:=beqI (by omega)
    have t3:(o.1==(3:Int))=false:=beqI (by omega)
    have t4:(o.1==(4:Int))=false:=beqI (by omega)
    have t5:(o.1==(5:Int))=true:=by simpa using hk
    have t6:(o.1==(6:Int))=false:=beqI (by omega)
    rw [if_neg (show ¬ o.1=2 by omega),if_neg (show ¬ o.1=3 by omega),if_neg (show ¬ o.1=4 by omega),if_pos hk]
    unfold withyref20_Do_r
    simp only [hmod,hw,hdt,tz,tl,tg,t0,t0',decT hi,hlast,Int.toNat_natCast,getD_at _ hi,n1,n2,n3,n4,n5,n6,l1,l2,hlen,hlt,List.length_nil,List.length_cons,List.length_append,List.length_drop,List.length_set,List.nil_append,List.drop_zero,hcut,c0,c1,hbu,hset,hset2,t8,t9,t2,t3,t4,t5,t6,cond_true,cond_false,Bool.not_true,Bool.not_false,Bool.and_self,Bool.and_true,Bool.true_and,Bool.and_false,Bool.false_and]
   ·have t8:(o.1==(8:Int))=false:=beqI (by omega)
    have t9:(o.1==(9:Int))=false:=beqI (by omega)
    have t2:(o.1==(2:Int))=false:=beqI (by omega)
    have t3:(o.1==(3:Int))=false:=beqI (by omega)
    have t4:(o.1==(4:Int))=false:=beqI (by omega)
    have t5:(o.1==(5:Int))=false:=beqI (by omega)
    have t6:(o.1==(6:Int))=true:=by simpa using hk
    rw [if_neg (show ¬ o.1=2 by omega),if_neg (show ¬ o.1=3 by omega),if_neg (show ¬ o.1=4 by omega),if_neg (show ¬ o.1=5 by omega)]
    unfold withyref20_Do_r
    unfold bentS bentB
    cases hb:a.1[i].2.2.2 with
    | false=>
     simp only [hmod,hw,hdt,tz,tl,tg,t0,t0',decT hi,hlast,Int.toNat_natCast,getD_at _ hi,n1,n2,n3,n4,n5,n6,l1,l2,hlen,hlt,List.length_nil,List.length_cons,List.length_append,List.length_drop,List.length_set,List.nil_append,List.drop_zero,hcut,c0,c1,hbu,hset,hset2,hb,t8,t9,t2,t3,t4,t5,t6,cond_true,cond_false,Bool.not_true,Bool.not_false,Bool.and_self,Bool.and_true,Bool.true_and,Bool.and_false,Bool.false_and]
     simp [hb,hk]
    | true=>
     simp only [hmod,hw,hdt,tz,tl,tg,t0,t0',decT hi,hlast,Int.toNat_natCast,getD_at _ hi,n1,n2,n3,n4,n5,n6,l1,l2,hlen,hlt,List.length_nil,List.length_cons,List.length_append,List.length_drop,List.length_set,List.nil_append,List.drop_zero,hcut,c0,c1,hbu,hset,hset2,hb,t8,t9,t2,t3,t4,t5,t6,cond_true,cond_false,Bool.not_true,Bool.not_false,Bool.and_self,Bool.and_true,Bool.true_and,Bool.and_false,Bool.false_and]
     simp [hb,hk]
   ·have t8:(o.1==(8:Int))=false:=beqI (by omega)
    have t9:(o.1==(9:Int))=false:=beqI (by omega)
    have t2:(o.1==(2:Int))=false:=beqI (by omega)
    have t3:(o.1==(3:Int))=false:=beqI (by omega)
    have t4:(o.1==(4:Int))=false:=beqI (by omega)
    have t5:(o.1==(5:Int))=false:=beqI (by omega)
    have t6:(o.1==(6:Int))=false:=beqI (by omega)
    rw [if_neg (show ¬ o.1=2 by omega),if_neg (show ¬ o.1=3 by omega),if_neg (show ¬ o.1=4 by omega),if_neg (show ¬ o.1=5 by omega)]
    unfold withyref20_Do_r
    unfold bentS bentB
    cases hb:a.1[i].2.2.2 with
    | false=>
     simp only [hmod,hw,hdt,tz,tl,tg,t0,t0',decT hi,hlast,Int.toNat_natCast,getD_at _ hi,n1,n2,n3,n4,n5,n6,l1,l2,hlen,hlt,List.length_nil,List.length_cons,List.length_append,List.length_drop,List.length_set,List.nil_append,List.drop_zero,hcut,c0,c1,hbu,hset,hset2,hb,t8,t9,t2,t3,t4,t5,t6,cond_true,cond_false,Bool.not_true,Bool.not_false,Bool.and_self,Bool.and_true,Bool.true_and,Bool.and_false,Bool.false_and]
     simp [hb,hk]
    | true=>
     simp only [hmod,hw,hdt,tz,tl,tg,t0,t0',decT hi,hlast,Int.toNat_natCast,getD_at _ hi,n1,n2,n3,n4,n5,n6,l1,l2,hlen,hlt,List.length_nil,List.length_cons,List.length_append,List.length_drop,List.length_set,List.nil_append,List.drop_zero,hcut,c0,c1,hbu,hset,hset2,hb,t8,t9,t2,t3,t4,t5,t6,cond_true,cond_false,Bool.not_true,Bool.not_false,Bool.and_self,Bool.and_true,Bool.true_and,Bool.and_false,Bool.false_and]
     simp [hb,hk]
end Go.Proofs.Ytfeepbajipdfaaa.T
namespace Go.Proofs.Ytfeepbajipdfaaa.T
open Go.Vm Go.Tm
set_option linter.unusedVariables false
set_option linter.unusedSimpArgs false
theorem strict_iff {l:List Ed} :Strict l↔l.Pairwise Lt2:=by
 rw [List.pairwise_iff_getElem]
 exact ⟨fun h i j hi hj hij=>h i j hij hj,fun h i j hij hj=>h i j (by omega) hj hij⟩
theorem good_of {l:List Ed} (h1:∀ e∈l,May e) (h2:l.Pairwise Lt2) (h3:l.length≤512):chk l=0∧SortedA l:=by
 have hA:AllMay l:=⟨h1,h2.imp fun {a b} hab=>by unfold Apart; unfold Lt2 at hab; omega⟩
 refine ⟨?_,fun i hi=> ?_⟩
 ·unfold chk
  rw [if_pos hA,if_neg (by omega)]
 ·rw [getD_at _ hi,getD_at _ (show i<l.length by omega)]
  exact lt2_asym (strict_iff.2 h2 i (i+1) (by omega) hi)
theorem onL_over {o:Op5} {f:Fl} {e:Ed} (he:e.1<e.2.1) (h:onL f.1 f.2.1 e) (h1:e.1=(opE o).1) (h2:e.2.1=(opE o).2.1):over (opE o) f:=by
 have:=(onL_mn he).2 h
 exact ⟨this.1.symm.trans h1,this.2.symm.trans h2⟩
theorem onL_ends {x y:Int} {e e':Ed} (h:onL x y e) (h1:e'.1=e.1) (h2:e'.2.1=e.2.1):onL x y e':=by
 unfold onL at*; rw [h1,h2]; exact h
open Classical in
theorem linkS_may {a:Ar} {o:Op5} {p:Nat} (hm:MayA a) (hp:Place a.2 (opE o) p):MayA (linkS a o p):=by
 have hst:=hm.strict
 have hpw:=strict_iff.1 hst
 have h512:=(chk_zero hm.1).2
 have hall:=hm.all
 unfold linkS
 by_cases h9:o.1=9
 ·rw [if_pos h9]
  by_cases ht:there a.2 (opE o) p
  ·rw [if_pos ht]
   obtain ⟨hi,t1,t2⟩:=ht
   have hsub:(a.2.take p++a.2.drop (p+1)).Sublist a.2:=by rw [← List.eraseIdx_eq_take_drop_succ]; exact List.eraseIdx_sublist _ _
   have hg:=good_of (fun e he=>hall e (hsub.subset he)) (hpw.sublist hsub) (by have:=hsub.length_le; omega)
   refine ⟨hg.1,hg.2,?_,fun f hf=> ?_⟩
   ·have:=List.length_filter_le (fun f=> !decide (over (opE o) f)) a.1
    have:=hm.2.2.1
    show (a.1.filter _).length≤16384
    omega
   ·have hf:=List.mem_filter.1 hf
    obtain ⟨e,he,hon⟩:=hm.2.2.2 f hf.1
    refine ⟨e,?_,hon⟩
    obtain ⟨j,hj,rfl⟩:=List.getElem_of_mem he
    have hno:¬ over (opE o) f:=by simpa using hf.2
    have hjp:j≠p:=fun hjp=>by
     subst hjp
     exact hno (onL_over (hall _ he).2.2.2.2.1 hon t1 t2)
    show a.2[j]∈a.2.take p++a.2.drop (p+1)
    rcases Nat.lt_or_ge j p with h | h
    ·exact List.mem_append_left _ (List.mem_take_iff_getElem.2 ⟨j,by omega,rfl⟩)
    ·refine List.mem_append_right _ (List.mem_drop_iff_getElem.2 ⟨j - (p+1),by omega,?_⟩)
     congr 1; omega
  ·rw [if_neg ht]; exact hm
 ·rw [if_neg h9]
  by_cases hmay:May (opE o)
  ·rw [if_pos hmay]
   by_cases ht:there a.2 (opE o) p
   ·rw [if_pos ht]
    obtain ⟨hi,t1,t2⟩:=ht
    have hset:a.2.set p (opE o)=a.2.take p++opE o::a.2.drop (p+1):=by rw [List.set_eq_take_append_cons_drop,if_pos hi]
    have hpw2:(a.2.set p (opE o)).Pairwise Lt2:=by
     rw [hset,List.pairwise_append,List.pairwise_cons]
     refine ⟨hpw.sublist (List.take_sublist _ _),⟨fun x hx=> ?_,hpw.sublist (List.drop_sublist _ _)⟩,fun x hx y hy=> ?_⟩
     ·obtain ⟨j,hj,rfl⟩:=List.mem_drop_iff_getElem.1 hx
      have:=hst p (p+1+j) (by omega) (by omega)
      unfold Lt2 at*; omega
     ·obtain ⟨j,hj,rfl⟩:=List.mem_take_iff_getElem.1 hx
      have k1:=hp.2.1 j (by omega) (by omega)
      rcases List.mem_cons.1 hy with rfl | hy
      ·exact k1
      ·obtain ⟨j',hj',rfl⟩:=List.mem_drop_iff_getElem.1 hy
       exact hst j (p+1+j') (by omega) (by omega)
    have hg:=good_of (l:=a.2.set p (opE o)) (fun e he=>by
     rcases List.mem_or_eq_of_mem_set he with h | h
     ·exact hall e h
     ·rw [h]; exact hmay) hpw2 (by rw [List.length_set]; exact h512)
    refine ⟨hg.1,hg.2,hm.2.2.1,fun f hf=> ?_⟩
    obtain ⟨e,he,hon⟩:=hm.2.2.2 f hf
    obtain ⟨j,hj,rfl⟩:=List.getElem_of_mem he
    by_cases hjp:j=p
    ·subst hjp
     exact ⟨opE o,List.mem_set hj _,onL_ends hon t1.symm t2.symm⟩
    ·refine ⟨a.2[j],?_,hon⟩
     have:(a.2.set p (opE o))[j]'(by rw [List.length_set]; exact hj)=a.2[j]:=List.getElem_set_ne (fun h=>hjp h.symm) _
     rw [← this]
     exact List.getElem_mem _
   ·rw [if_neg ht]
    by_cases h5:a.2.length<512
    ·rw [if_pos h5]
     have hpl:=hp.1
     have hpw2:(a.2.take p++opE o::a.2.drop p).Pairwise Lt2:=by
      rw [List.pairwise_append,List.pairwise_cons]
      refine ⟨hpw.sublist (List.take_sublist _ _),⟨fun x hx=> ?_,hpw.sublist (List.drop_sublist _ _)⟩,fun x hx y hy=> ?_⟩
      ·obtain ⟨j,hj,rfl⟩:=List.mem_drop_iff_getElem.1 hx
       have k1:=hp.2.2 (p+j) (by omega) (by omega)
       have k2:¬ ((a.2[p+j]'(by omega)).1=(opE o).1∧(a.2[p+j]'(by omega)).2.1=(opE o).2.1):=fun h=>ht (there_of hst hp (List.getElem_mem _) h.1 h.2)
       unfold Lt2 at*; omega
      ·obtain ⟨j,hj,rfl⟩:=List.mem_take_iff_getElem.1 hx
       have k1:=hp.2.1 j (by omega) (by omega)
       rcases List.mem_cons.1 hy with rfl | hy
       ·exact k1
       ·obtain ⟨j',hj',rfl⟩:=List.mem_drop_iff_getElem.1 hy
        exact hst j (p+j') (by omega) (by omega)
     have hmem:∀ e∈a.2,e∈a.2.take p++opE o::a.2.drop p:=fun e he=>by
      rw [← List.take_append_drop p a.2] at he
      rcases List.mem_append.1 he with h | h
      ·exact List.mem_append_left _ h
      ·exact List.mem_append_right _ (.tail _ h)
     have hg:=good_of (l:=a.2.take p++opE o::a.2.drop p) (fun e he=>by
      rcases List.mem_append.1 he with h | h
      ·exact hall e (List.mem_of_mem_take h)
      ·rcases List.mem_cons.1 h with rfl | h
       ·exact hmay
       ·exact hall e (List.mem_of_mem_drop h)) hpw2 (by simp only [List.length_append,List.length_take,List.length_cons,List.length_drop]; omega)
     exact ⟨hg.1,hg.2,hm.2.2.1,fun f hf=>by
      obtain ⟨e,he,hon⟩:=hm.2.2.2 f hf
      exact ⟨e,hmem e he,hon⟩⟩
    ·rw [if_neg h5]; exact hm
  ·rw [if_neg hmay]; exact hm
theorem bentS_ends (f:Fl) (o:Op5):(bentS f o).1=f.1∧(bentS f o).2.1=f.2.1:=by
 unfold bentS; split<;>exact ⟨rfl,rfl⟩
theorem doS_may {a:Ar} {o:Op5} {p:Nat} (hS:Small a) (hm:MayA a) (hp:Place a.2 (opE o) p):MayA (doS a o p).1:=by
 unfold doS
 by_cases hk:o.1=8∨o.1=9
 ·rw [if_pos hk]; exact linkS_may hm hp
 ·rw [if_neg hk]
  by_cases hn:a.1.length=0∨o.1<2∨o.1>7
  ·rw [if_pos hn]; exact hm
  ·rw [if_neg hn]
   have hi:actAt a o<a.1.length:=by
    have hb0:0≤o.2.2.2.1 % (a.1.length:Int):=Int.emod_nonneg _ (by omega)
    have hb1:o.2.2.2.1 % (a.1.length:Int)<(a.1.length:Int):=Int.emod_lt_of_pos _ (by omega)
    unfold actAt; omega
   generalize actAt a o=i at*
   have key:∀ F:List Fl,F.length≤16384→(∀ f∈F,∃ g∈a.1,f.1=g.1∧f.2.1=g.2.1)→MayA (F,a.2):=fun F h1 h2=>⟨hm.1,hm.2.1,h1,fun f hf=>by
    obtain ⟨g,hg,e1,e2⟩:=h2 f hf
    obtain ⟨e,he,hon⟩:=hm.2.2.2 g hg
    exact ⟨e,he,by rw [e1,e2]; exact hon⟩⟩
   have hlen:=hS.1
   have hrest:∀ f∈a.1.take i++a.1.drop (i+1),∃ g∈a.1,f.1=g.1∧f.2.1=g.2.1:=fun f hf=>by
    rcases List.mem_append.1 hf with h | h
    ·exact ⟨f,List.mem_of_mem_take h,rfl,rfl⟩
    ·exact ⟨f,List.mem_of_mem_drop h,rfl,rfl⟩
   have hone:∃ g∈a.1,((a.1[i]?).getD fl0).1=g.1∧((a.1[i]?).getD fl0).2.1=g.2.1:=by rw [getD_at _ hi]; exact ⟨_,List.getElem_mem hi,rfl,rfl⟩
   have hrl:(a.1.take i++a.1.drop (i+1)).length≤1000:=by simp only [List.length_append,List.length_take,List.length_drop]; omega
   split
   ·exact key _ (by omega) hrest
   ·split
    ·exact key _ (by omega) hrest
    ·split
     ·refine key _ (by simp only [List.length_append,List.length_cons,List.length_nil]; omega) (fun f hf=> ?_)
      rcases List.mem_append.1 hf with h | h
      ·exact ⟨f,h,rfl,rfl⟩
      ·rw [List.mem_singleton.1 h]; exact hone
     ·split
      ·refine key _ (by rw [List.length_append]; simp only [List.length_cons,List.length_nil]; omega) (fun f hf=> ?_)
       rcases List.mem_append.1 hf with h | h
       ·exact hrest f h
       ·rw [List.mem_singleton.1 h]; exact hone
      ·refine key _ (by rw [List.length_set]; omega) (fun f hf=> ?_)
       rcases List.mem_or_eq_of_mem_set hf with h | h
       ·exact ⟨f,h,rfl,rfl⟩
       ·rw [h]
        obtain ⟨g,hg,e1,e2⟩:=hone
        have:=bentS_ends ((a.1[i]?).getD fl0) o
        exact ⟨g,hg,this.1.trans e1,this.2.trans e2⟩
end Go.Proofs.Ytfeepbajipdfaaa.T
namespace Go.Proofs.Ytfeepbajipdfaaa.T
open Go.Vm Go.Tm
set_option linter.unusedVariables false
set_option linter.unusedSimpArgs false
def bytesOf (l:List Int):ByteArray:=ByteArray.mk ((l).map fun n=>UInt8.ofNat (Int.toNat n)).toArray
def flightB (f g:Fl):Bool:=(f.1==g.1) && ((f.2.1==g.2.1) && ((f.2.2.2==g.2.2.2) && (bytesOf f.2.2.1==bytesOf g.2.2.1)))
theorem flight_r (f g:Fl):withyref20_Flight_r f g=(true,flightB f g):=by
 unfold withyref20_Flight_r flightB bytesOf
 generalize (f.1==g.1)=p
 generalize (f.2.1==g.2.1)=q
 generalize (f.2.2.2==g.2.2.2)=r
 cases p<;>cases q<;>cases r<;>rfl
theorem bytes_refl (x:ByteArray):(x==x)=true:=by
 cases x with
 | mk d=>
  show ByteArray.beq _ _=true
  unfold ByteArray.beq
  simp
theorem flightB_refl (f:Fl):flightB f f=true:=by
 unfold flightB
 simp [bytes_refl]
def sameB (a b:Ar):Bool:=decide (a.2=b.2) && (decide (a.1.length=b.1.length) && (List.range a.1.length).all fun i=>flightB ((a.1[i]?).getD fl0) ((b.1[i]?).getD fl0))
theorem sameB_refl (a:Ar):sameB a a=true:=by
 unfold sameB
 simp [flightB_refl]
theorem same20_r (a b:Ar) (h1:a.1.length≤1000000) (h2:a.2.length≤1000000):withyref20_Same_r a b=(true,sameB a b):=by
 unfold withyref20_Same_r sameB
 simp only [same_r a.2 b.2 (by omega),loopD_eq]
 by_cases he:a.2=b.2
 ·by_cases hl:a.1.length=b.1.length
  ·have key:=loop_all (d:=HL.dflt [.bool,.bool,.bool]) (step:=withyref20_Same_l0 a b) a.1.length (fun i=>flightB ((a.1[i]?).getD fl0) ((b.1[i]?).getD fl0)) (true,false,false,()) (false,false,true,())
    (fun i hi=>by
     have g1:(i:Int)<(a.1.length:Int):=by omega
     have hw:IntKind.i64.wrap ((i:Int)+1)=((i+1:Nat):Int):=by rw [wrap_i64 (by omega) (by omega)]; omega
     unfold withyref20_Same_l0
     simp only [decT g1,hw,Int.toNat_natCast,flight_r,decT hi,decT (show i<b.1.length by omega),decT (show (0:Int)≤(i:Int) by omega),cond_true,Bool.and_self,Bool.true_and,Bool.not_not]
     exact ⟨trivial,trivial,fun _=>trivial,fun h=>by rw [h]; rfl⟩)
    (by
     unfold withyref20_Same_l0
     simp only [decF (show ¬ (a.1.length:Int)<(a.1.length:Int) by omega),cond_false,Bool.false_and,Bool.not_false]
     exact ⟨trivial,trivial,trivial⟩)
   have hne:((a.1.length:Int) !=(b.1.length:Int))=false:=by rw [hl]; simp
   have hloop:loopD 0 [.int .i64] [.bool,.bool,.bool] (withyref20_Same_l0 a b) ((0:Int),())=_:=key
   rw [hloop,decT he,decT hl,hne]
   cases (List.range a.1.length).all fun i=>flightB ((a.1[i]?).getD fl0) ((b.1[i]?).getD fl0)<;>rfl
  ·have hne:((a.1.length:Int) !=(b.1.length:Int))=true:=bneI (by omega)
   rw [decT he,decF hl,hne]; rfl
 ·rw [decF he]; rfl
def LinkUp (a:Ar) (f:Fl):Prop:=∃ e∈a.2,onL f.1 f.2.1 e
open Classical in
noncomputable def putS (a:Ar) (f:Fl):Ar:=if LinkUp a f then (a.1++ [f],a.2) else a
theorem up_is (a:Ar) (hall:∀ e∈a.2,May e) (x y:Int) (hl:a.2.length≤1000000):
  (∃ (i:Nat) (hi:i<a.2.length),onL x y a.2[i]∧(∀ j (hj:j<i),¬ onL x y a.2[j])∧air_Up_r a x y=(true,a.2[i].2.2,true))∨((∀ e∈a.2,¬ onL x y e)∧air_Up_r a x y=(true,0,false)):=by
 have hiff:∀ e∈a.2,(e.1=mn x y∧e.2.1=mx x y)↔onL x y e:=fun e he=>onL_mn (hall e he).2.2.2.2.1
 rcases up_r a x y hl with ⟨i,hi,h1,h2,h3⟩ | ⟨h1,h2⟩
 ·exact .inl ⟨i,hi,(hiff _ (List.getElem_mem hi)).1 h1,fun j hj=>fun h=>h2 j hj ((hiff _ (List.getElem_mem _)).2 h),h3⟩
 ·exact .inr ⟨fun e he h=>h1 e he ((hiff e he).2 h),h2⟩
open Classical in
theorem put_r (a:Ar) (f:Fl) (hS:Small a) (hm:MayA a) (hf:f.2.2.1.length≤1000000):air_Put_r a f=(true,(0,(putS a f).1,(putS a f).2)):=by
 obtain ⟨h1,h2,h3⟩:=id hS
 have hcl:slices_Clone_byte_r f.2.2.1=(true,f.2.2.1):=by
  unfold slices_Clone_byte_r
  rw [decT (show f.2.2.1.length*1≤140737488355328 by omega)]
 have t48:∀ x:Fl,decide ((a.1.length+ [x].length)*48≤140737488355328)=true:=fun x=>decT (by simp only [List.length_cons,List.length_nil]; omega)
 have hlast:decide ((a.1.length:Int)<(16384:Int))=true:=decT (by omega)
 unfold air_Put_r putS
 rcases up_is a hm.all f.1 f.2.1 (by omega) with ⟨i,hi,k1,_,k2⟩ | ⟨k1,k2⟩
 ·rw [if_pos ⟨_,List.getElem_mem hi,k1⟩]
  simp only [airCheck_r a (by omega) (by omega),if_pos hm,own_r a hS,k2,hcl,t48,hlast,show ((0:Int) !=0)=false from rfl,cond_true,cond_false,Bool.not_false,Bool.and_self]
 ·rw [if_neg (fun ⟨e,he,ho⟩=>k1 e he ho)]
  simp only [airCheck_r a (by omega) (by omega),if_pos hm,own_r a hS,k2,show ((0:Int) !=0)=false from rfl,cond_true,cond_false,Bool.not_false,Bool.and_self]
open Classical in
theorem put_bad (a:Ar) (f:Fl) (hS:Small a) (hm:¬ MayA a):air_Put_r a f=(true,(1,[],[])):=by
 obtain ⟨h1,h2,h3⟩:=id hS
 unfold air_Put_r
 simp only [airCheck_r a (by omega) (by omega),if_neg hm,show ((1:Int) !=0)=true from rfl,cond_false,Bool.not_true,Bool.and_self]
theorem small_nil:Small ([],[]):=⟨by simp,by simp,fun f hf=>by simp at hf⟩
theorem may_nil:MayA ([],[]):=by
 have:=good_of (l:= []) (fun e he=>by simp at he) List.Pairwise.nil (by simp)
 exact ⟨this.1,this.2,by simp,fun f hf=>by simp at hf⟩
theorem awake_r:withylaw20_awake_r=(true,true):=by
 obtain ⟨p,hp,k1,k2,k3,k4,k5,k6,k7⟩:=do_link ([],[]) (8,2,1,0,5) small_nil may_nil (.inl rfl)
 have hp0:p=0:=by have:=hp.1; simpa using this
 have hE:opE (8,2,1,0,5)=(1,2,5):=by unfold opE mn mx; rfl
 have hmay:May (1,2,5):=by decide
 have hs:(doS ([],[]) (8,2,1,0,5) p).1=([],[(1,2,5)]):=by
  unfold doS linkS
  rw [if_pos (.inl rfl),if_neg (by decide),hE,if_pos hmay,if_neg (fun ⟨h,_⟩=>by simp at h),if_pos (by simp)]
  simp
 rw [hs] at k2
 have m1:MayA ([],[(1,2,5)]):=by
  have:=good_of (l:= [(1,2,5)]) (fun e he=>by rw [List.mem_singleton.1 he]; exact hmay) (List.pairwise_singleton _ _) (by simp)
  exact ⟨this.1,this.2,by simp,fun f hf=>by simp at hf⟩
 have s1:Small ([],[(1,2,5)]):=⟨by simp,by simp,fun f hf=>by simp at hf⟩
 have e2:=put_r ([],[(1,2,5)]) (1,2,[120],false) s1 m1 (by simp)
 have hup:LinkUp ([],[(1,2,5)]) (1,2,[120],false):=⟨(1,2,5),.head _,.inl ⟨rfl,rfl⟩⟩
 have hput:putS ([],[(1,2,5)]) (1,2,[120],false)=([(1,2,[120],false)],[(1,2,5)]):=by
  unfold putS
  rw [if_pos hup]
  rfl
 rw [hput] at e2
 have m2:MayA ([(1,2,[120],false)],[(1,2,5)]):=⟨m1.1,m1.2.1,by simp,fun f hf=>by rw [List.mem_singleton.1 hf]; exact hup⟩
 have s2:Small ([(1,2,[120],false)],[(1,2,5)]):=⟨by simp,by simp,fun f hf=>by rw [List.mem_singleton.1 hf]; simp⟩
 have e3:air_Up_r ([(1,2,[120],false)],[(1,2,5)]) 2 1=(true,5,true):=by
  rcases up_is ([(1,2,[120],false)],[(1,2,5)]) m2.all 2 1 (by simp) with ⟨i,hi,k1,_,k2⟩ | ⟨k1,k2⟩
  ·have:i=0:=by simpa using hi
   subst this
   exact k2
  ·exact absurd (.inr ⟨rfl,rfl⟩) (k1 (1,2,5) (.head _))
 obtain ⟨q1,q2,q3,q4,q5,q6,q7⟩:=do_act ([(1,2,[120],false)],[(1,2,5)]) (2,0,0,0,0) s2 m2 0 (by simp) (by decide) (by decide)
 have hact:actAt ([(1,2,[120],false)],[(1,2,5)]) (2,0,0,0,0)=0:=by unfold actAt; rfl
 have hd:doS ([(1,2,[120],false)],[(1,2,5)]) (2,0,0,0,0) 0=(([],[(1,2,5)]),(1,2,[120],false),true):=by
  unfold doS
  rw [hact,if_neg (by decide),if_neg (by simp),if_pos rfl]
  rfl
 rw [hd] at q2 q3 q4 q6
 unfold withylaw20_awake_r
 dsimp only
 generalize air_Do_r ([],[]) (8,2,1,0,5)=z at*
 unfold airOf at k2
 simp only [k2,e2,e3]
 generalize air_Do_r ([(1,2,[120],false)],[(1,2,5)]) (2,0,0,0,0)=y at*
 have q6:y.2.2.1=0:=q6
 have q3:y.2.2.2.2.2.1=(1,2,[120],false):=q3
 have q4:y.2.2.2.2.2.2.1=true:=q4
 have hb:(bytesOf [120]==ByteArray.mk #[120])=true:=by
  have:bytesOf [120]=ByteArray.mk #[120]:=by
   unfold bytesOf
   rfl
  rw [this]; exact bytes_refl _
 unfold bytesOf at hb
 simp only [k1,k5,q1,q5,q3,q4,q6,hb]
 rfl
end Go.Proofs.Ytfeepbajipdfaaa.T
namespace Go.Proofs.Ytfeepbajipdfaaa.T
open Go.Vm Go.Tm
set_option linter.unusedVariables false
set_option linter.unusedSimpArgs false
abbrev TyF:Ty:=.row (.prod (.int .i64) (.prod (.int .i64) (.prod (.fl (.int .u8)) .bool)))
abbrev TyA:Ty:=.row (.prod (.fl TyF) (.fl (.row (.prod (.int .i64) (.prod (.int .i64) (.int .i64))))))
theorem wf_air {a:Ar} (h:wfD TyA a):a.1.length≤1152921504606846976∧a.2.length≤1152921504606846976∧∀ f∈a.1,f.2.2.1.length≤1152921504606846976:=
 have hr:Go.reachBytes≤1152921504606846976:=by decide
 ⟨Nat.le_trans h.1.1 hr,Nat.le_trans h.2.1 hr,fun f hf=>Nat.le_trans (h.1.2 f hf).2.2.1.1 hr⟩
theorem light_small {a:Ar} (h:wfD TyA a):∃ b,withylaw20_light_r a=(true,b)∧(b=true→Small a∧a.1.length≤150∧a.2.length≤600):=by
 obtain ⟨h1,h2,h3⟩:=wf_air h
 obtain ⟨b,e1,e2⟩:=light_r a h1 h2 h3
 refine ⟨b,e1,fun hb=> ?_⟩
 obtain ⟨k1,k2,k3⟩:=e2 hb
 exact ⟨⟨by omega,by omega,fun f hf=>by have:=k3 f hf; omega⟩,k1,k2⟩
theorem place_ex (l:List Ed) (t:Ed) (hl:l.length≤1000) (hs:Strict l):∃ p,Place l t p:=by
 obtain ⟨i,hp,_⟩:=search_r l t hl hs
 exact ⟨i,hp⟩
theorem do_r (a:Ar) (o:Op5) (hS:Small a) (hm:MayA a):∃ p,Place a.2 (opE o) p∧DoIs (air_Do_r a o) (doS a o p):=by
 by_cases hk:o.1=8∨o.1=9
 ·exact do_link a o hS hm hk
 ·obtain ⟨p,hp⟩:=place_ex a.2 (opE o) hS.2.1 hm.strict
  refine ⟨p,hp,?_⟩
  by_cases hn:a.1.length=0∨o.1<2∨o.1>7
  ·exact do_idle a o hS hm p hk hn
  ·exact do_act a o hS hm p (fun h=>hn (.inl h)) (by omega) (by omega)
theorem linkS_len (a:Ar) (o:Op5) (p:Nat):(linkS a o p).1.length≤a.1.length∧(linkS a o p).2.length≤a.2.length+1:=by
 unfold linkS
 have:=List.length_filter_le (fun f=> !decide (over (opE o) f)) a.1
 split
 ·split
  ·exact ⟨this,by simp only [List.length_append,List.length_take,List.length_drop]; omega⟩
  ·exact ⟨Nat.le_refl _,by omega⟩
 ·split
  ·split
   ·exact ⟨Nat.le_refl _,by simp⟩
   ·split
    ·exact ⟨Nat.le_refl _,by simp only [List.length_append,List.length_take,List.length_cons,List.length_drop]; omega⟩
    ·exact ⟨Nat.le_refl _,by omega⟩
  ·exact ⟨Nat.le_refl _,by omega⟩
theorem doS_len (a:Ar) (o:Op5) (p:Nat):(doS a o p).1.1.length≤a.1.length+1∧(doS a o p).1.2.length≤a.2.length+1:=by
 have:=linkS_len a o p
 unfold doS
 split
 ·exact ⟨Nat.le_succ_of_le this.1,this.2⟩
 ·split
  ·exact ⟨Nat.le_succ _,Nat.le_succ _⟩
  ·split
   ·exact ⟨by simp only [List.length_append,List.length_take,List.length_drop]; omega,by simp⟩
   ·split
    ·exact ⟨by simp only [List.length_append,List.length_take,List.length_drop]; omega,by simp⟩
    ·split
     ·exact ⟨by simp,by simp⟩
     ·split
      ·exact ⟨by simp only [List.length_append,List.length_take,List.length_drop,List.length_cons,List.length_nil]; omega,by simp⟩
      ·exact ⟨by simp,by simp⟩
open Classical in
theorem airDoes_pure (a:Ar) (o:Op5) (hw:wfD TyA a) (_:wfD (.row (.prod (.int .i64) (.prod (.int .i64) (.prod (.int .i64) (.prod (.int .i64) (.int .i64)))))) o):withylaw20_AirDoes_r a o=(true,true):=by
 obtain ⟨b,e1,hb⟩:=light_small hw
 unfold withylaw20_AirDoes_r
 dsimp only
 simp only [e1,awake_r]
 cases b with
 | false=>rfl
 | true=>
  obtain ⟨hS,k1,k2⟩:=hb rfl
  have ec:=airCheck_r a (by omega) (by omega)
  have em:=mayA_r a (by omega) (by omega)
  by_cases hm:MayA a
  ·obtain ⟨p,hp,q1,q2,q3,q4,q5,q6,q7⟩:=do_r a o hS hm
   have er:=refDo_r a o hS hm p hp
   have hmay:=doS_may hS hm hp
   have hlen:=doS_len a o p
   rw [if_pos hm] at ec
   rw [decT hm] at em
   generalize doS a o p=x at*
   generalize air_Do_r a o=z at*
   simp only [ec,em,er,q1,q3,q4,q5,flight_r,flightB_refl]
   have hc:∀ c:Bool,((((cond c z.2.2.2.2.2.2.2.2.1 z.2.2.2.2.2.2.2.2.1).drop z.2.1).take z.2.2.1),(((cond c z.2.2.2.2.2.2.2.2.2 z.2.2.2.2.2.2.2.2.2).drop z.2.2.2.1).take z.2.2.2.2.1))=x.1:=fun c=>by
    cases c<;>exact q2
   have hc0:(((z.2.2.2.2.2.2.2.2.1.drop z.2.1).take z.2.2.1),((z.2.2.2.2.2.2.2.2.2.drop z.2.2.2.1).take z.2.2.2.2.1))=x.1:=q2
   have es:=same20_r x.1 x.1 (by omega) (by omega)
   have emx:=mayA_r x.1 (by omega) (by omega)
   rw [sameB_refl] at es
   rw [decT hmay] at emx
   simp only [hc,hc0,es,emx]
   have hx:(x.2.2==x.2.2)=true:=by simp
   simp only [hx]
   rfl
  ·have ed:=do_bad a o hS hm
   rw [if_neg hm] at ec
   rw [decF hm] at em
   have es:=same20_r ([],[]) ([],[]) (by simp) (by simp)
   rw [sameB_refl] at es
   simp only [ec,em,ed,flight_r,flightB_refl,List.drop_nil,List.take_nil,List.drop_zero,es]
   rfl
end Go.Proofs.Ytfeepbajipdfaaa.T
namespace Go.Tm
set_option linter.unusedVariables false
set_option linter.unusedSimpArgs false
abbrev Rg:=BitVec 32
def crcPoly:Rg:=0x04C11DB7#32
def crcStep (r:Rg) (b:Bool):Rg:=cond (r.msb ^^ b) ((r<<<1) ^^^ crcPoly) (r<<<1)
def crcRun (r:Rg) (l:List Bool):Rg:=l.foldl crcStep r
theorem crcStep_xor (r r':Rg) (b b':Bool):crcStep (r ^^^ r') (b ^^ b')=crcStep r b ^^^ crcStep r' b':=by
 unfold crcStep
 rw [BitVec.msb_xor,BitVec.shiftLeft_xor_distrib]
 generalize r<<<1=u
 generalize r'<<<1=v
 generalize crcPoly=p
 have h1:u ^^^ v ^^^ p=u ^^^ p ^^^ v:=by rw [BitVec.xor_assoc,BitVec.xor_comm v p,← BitVec.xor_assoc]
 have h2:u ^^^ p ^^^ (v ^^^ p)=u ^^^ v:=by rw [BitVec.xor_assoc,BitVec.xor_comm v p,← BitVec.xor_assoc p p v,BitVec.xor_self,BitVec.zero_xor]
 cases r.msb<;>cases r'.msb<;>cases b<;>cases b'<;>simp only [Bool.xor_false,Bool.false_xor,Bool.xor_true,Bool.true_xor,Bool.not_true,Bool.not_false,Bool.xor_self,cond_true,cond_false]<;>first | rfl | exact h1 | exact h2.symm | (rw [BitVec.xor_assoc])
theorem crcRun_xor:∀ (l l':List Bool) (r r':Rg),l.length=l'.length→crcRun (r ^^^ r') (List.zipWith (· ^^ ·) l l')=crcRun r l ^^^ crcRun r' l'
 | [],[],r,r',_=>rfl
 | [],_::_,r,r',h=>by cases h
 | _::_,[],r,r',h=>by cases h
 | b::l,b'::l',r,r',h=>by
  have ih:=crcRun_xor l l' (crcStep r b) (crcStep r' b') (by simpa using h)
  rw [← crcStep_xor] at ih
  exact ih
theorem crcRun_append (r:Rg) (l m:List Bool):crcRun r (l++m)=crcRun (crcRun r l) m:=by unfold crcRun; rw [List.foldl_append]
theorem crcPoly_low:crcPoly.getMsbD 31=true:=by decide
theorem crcStep_low (d:Rg) (b:Bool):(crcStep d b).getMsbD 31=(d.msb ^^ b):=by
 have hs:(d<<<1).getMsbD 31=false:=by rw [BitVec.getMsbD_shiftLeft]; exact BitVec.getMsbD_of_ge _ _ (by decide)
 unfold crcStep
 cases h:(d.msb ^^ b) with
 | true=>rw [cond_true,BitVec.getMsbD_xor,hs,crcPoly_low]; rfl
 | false=>rw [cond_false,hs]
theorem crcBack:∀ (l:List Bool) (d:Rg),l.length≤32→crcRun d l=0#32→∀ j,j<32→d.getMsbD j=(l[j]?).getD false
 | [],d,_,h,j,hj=>by
  have h:d=0#32:=h
  subst h
  simp
 | b::l,d,hl,h,j,hj=>by
  have hl':l.length≤31:=by simpa using hl
  have ih:=crcBack l (crcStep d b) (by omega) h
  have hlow:=ih 31 (by omega)
  rw [crcStep_low,List.getElem?_eq_none (by omega)] at hlow
  have hlow:(d.msb ^^ b)=false:=hlow
  have hmsb:d.msb=b:=by
   revert hlow
   cases d.msb<;>cases b<;>decide
  cases j with
  | zero=>rw [← BitVec.msb_eq_getMsbD_zero,hmsb]; rfl
  | succ j=>
   have h2:=ih j (by omega)
   unfold crcStep at h2
   rw [hlow,cond_false,BitVec.getMsbD_shiftLeft] at h2
   rw [List.getElem?_cons_succ]
   exact h2
theorem rg_ext {a b:Rg} (h:∀ j,j<32→a.getMsbD j=b.getMsbD j):a=b:=BitVec.eq_of_getMsbD_eq (fun i hi=>h i hi)
theorem crcZeros:∀ n,crcRun 0#32 (List.replicate n false)=0#32
 | 0=>rfl
 | n+1=>by
  rw [List.replicate_succ]
  show crcRun (crcStep 0#32 false) _=_
  rw [show crcStep 0#32 false=0#32 from by decide]
  exact crcZeros n
theorem crcZeros_back:∀ (n:Nat) (d:Rg),crcRun d (List.replicate n false)=0#32→d=0#32
 | 0,d,h=>h
 | n+1,d,h=>by
  rw [List.replicate_succ] at h
  have h1:=crcZeros_back n (crcStep d false) h
  refine rg_ext fun j hj=> ?_
  have:=crcBack [false] d (by decide) h1 j hj
  rw [this]
  cases j with
  | zero=>simp
  | succ j=>simp
def bitsOfRg (d:Rg):List Bool:=(List.range 32).map d.getMsbD
theorem bitsOfRg_len (d:Rg):(bitsOfRg d).length=32:=by simp [bitsOfRg]
theorem bitsOfRg_get (d:Rg) {j:Nat} (h:j<32):(bitsOfRg d)[j]? =some (d.getMsbD j):=by
 unfold bitsOfRg
 rw [List.getElem?_map,List.getElem?_range h]; rfl
theorem crcSelf (d:Rg):crcRun d (bitsOfRg d)=0#32:=by
 have key:∀ m,m≤32→crcRun d ((List.range m).map d.getMsbD)=d<<<m:=by
  intro m
  induction m with
  | zero=>intro _; simp [crcRun]
  | succ m ih=>
   intro hm
   rw [List.range_succ,List.map_append,crcRun_append,ih (by omega)]
   show crcStep (d<<<m) (d.getMsbD m)=_
   have hmsb:(d<<<m).msb=d.getMsbD m:=by rw [BitVec.msb_eq_getMsbD_zero,BitVec.getMsbD_shiftLeft,Nat.zero_add]
   unfold crcStep
   rw [hmsb,Bool.xor_self,cond_false,← BitVec.shiftLeft_add]
 have h:=key 32 (Nat.le_refl _)
 unfold bitsOfRg
 rw [h]
 exact BitVec.shiftLeft_eq_zero (Nat.le_refl _)
theorem zipXor_get (x y:List Bool) (i:Nat) (hx:i<x.length) (hy:i<y.length):(List.zipWith (· ^^ ·) x y)[i]? =some (x[i] ^^ y[i]):=by
 rw [List.getElem?_zipWith,List.getElem?_eq_getElem hx,List.getElem?_eq_getElem hy]
def crcSeal (x:List Bool):List Bool:=x++(bitsOfRg (crcRun (BitVec.allOnes 32) x)).map (!·)
theorem crc_finds (x y:List Bool) (hl:x.length=y.length) (s:Nat) (h:∀ i,(i<s∨s+32≤i)→(crcSeal x)[i]? =(crcSeal y)[i]?):crcSeal x=crcSeal y:=by
 have hlen:(crcSeal x).length=(crcSeal y).length:=by simp [crcSeal,bitsOfRg_len,hl]
 have h0:crcRun 0#32 (List.zipWith (· ^^ ·) (crcSeal x) (crcSeal y))=0#32:=by
  have e:=crcRun_xor (crcSeal x) (crcSeal y) (BitVec.allOnes 32) (BitVec.allOnes 32) hlen
  rw [BitVec.xor_self] at e
  rw [e]
  have hx:∀ z:List Bool,crcRun (BitVec.allOnes 32) (crcSeal z)=crcRun (crcRun (BitVec.allOnes 32) z) ((bitsOfRg (crcRun (BitVec.allOnes 32) z)).map (!·)):=fun z=>by
   unfold crcSeal; rw [crcRun_append]
  rw [hx x,hx y]
  generalize crcRun (BitVec.allOnes 32) x=p
  generalize crcRun (BitVec.allOnes 32) y=q
  rw [← crcRun_xor _ _ p q (by simp [bitsOfRg_len])]
  have hz:List.zipWith (· ^^ ·) ((bitsOfRg p).map (!·)) ((bitsOfRg q).map (!·))=bitsOfRg (p ^^^ q):=by
   refine List.ext_getElem? fun i=> ?_
   by_cases hi:i<32
   ·rw [List.getElem?_zipWith,List.getElem?_map,List.getElem?_map,bitsOfRg_get p hi,bitsOfRg_get q hi,bitsOfRg_get _ hi,BitVec.getMsbD_xor]
    show some ((!p.getMsbD i) ^^ (!q.getMsbD i))=_
    cases p.getMsbD i<;>cases q.getMsbD i<;>rfl
   ·rw [List.getElem?_eq_none (by simp [bitsOfRg_len]; omega),List.getElem?_eq_none (by simp [bitsOfRg_len]; omega)]
  rw [hz]
  exact crcSelf _
 generalize hX:crcSeal x=X at*
 generalize hY:crcSeal y=Y at*
 have hD:∀ i,i<X.length→(List.zipWith (· ^^ ·) X Y)[i]? =some ((X[i]?).getD false ^^ (Y[i]?).getD false):=fun i hi=>by
  rw [zipXor_get X Y i hi (by omega),List.getElem?_eq_getElem hi,List.getElem?_eq_getElem (show i<Y.length by omega)]; rfl
 have hDl:(List.zipWith (· ^^ ·) X Y).length=X.length:=by rw [List.length_zipWith]; omega
 generalize hDD:List.zipWith (· ^^ ·) X Y=D at*
 have hz:∀ i,(i<s∨s+32≤i)→i<X.length→D[i]? =some false:=fun i hi hlt=>by
  rw [hD i hlt,h i hi,Bool.xor_self]
 have hsplit:D=D.take s++((D.drop s).take 32++(D.drop s).drop 32):=by rw [List.take_append_drop,List.take_append_drop]
 have ht1:D.take s=List.replicate (D.take s).length false:=by
  refine List.eq_replicate_iff.2 ⟨rfl,fun b hb=> ?_⟩
  obtain ⟨i,hi,rfl⟩:=List.mem_take_iff_getElem.1 hb
  have:=hz i (.inl (by omega)) (by omega)
  rw [List.getElem?_eq_getElem (by omega)] at this
  injection this
 have ht3:(D.drop s).drop 32=List.replicate ((D.drop s).drop 32).length false:=by
  refine List.eq_replicate_iff.2 ⟨rfl,fun b hb=> ?_⟩
  rw [List.drop_drop] at hb
  obtain ⟨i,hi,rfl⟩:=List.mem_drop_iff_getElem.1 hb
  have:=hz (s+32+i) (.inr (by omega)) (by omega)
  rw [List.getElem?_eq_getElem (by omega)] at this
  injection this
 rw [hsplit,crcRun_append,crcRun_append,ht1,crcZeros,ht3] at h0
 have h1:=crcZeros_back _ _ h0
 have hW:=crcBack ((D.drop s).take 32) 0#32 (by rw [List.length_take]; omega) h1
 refine List.ext_getElem? fun i=> ?_
 by_cases hi:i<s∨s+32≤i
 ·exact h i hi
 ·by_cases hlt:i<X.length
  ·have hw:=hW (i - s) (by omega)
   rw [List.getElem?_take,if_pos (by omega),List.getElem?_drop,show s+(i - s)=i by omega,hD i hlt] at hw
   have hw:false=((X[i]?).getD false ^^ (Y[i]?).getD false):=by simpa using hw
   rw [List.getElem?_eq_getElem hlt,List.getElem?_eq_getElem (show i<Y.length by omega)] at hw ⊢
   have hw:false=(X[i] ^^ Y[i]'(by omega)):=hw
   revert hw
   generalize X[i]=u
   generalize Y[i]'(by omega)=v
   cases u<;>cases v<;>decide
  ·rw [List.getElem?_eq_none (by omega),List.getElem?_eq_none (by omega)]
end Go.Tm
namespace Go.Proofs.Ytfeepbajipdfaaa.T
open Go.Vm Go.Tm
set_option linter.unusedVariables false
set_option linter.unusedSimpArgs false
def byteBit (x:Int) (j:Nat):Bool:=(Int.tmod (iShr .u8 .u64 x ((7 - (j:Int)))) (2:Int))==(1:Int)
def bitAt (B:List Int) (i:Nat):Bool:=byteBit ((B[i / 8]?).getD 0) (i % 8)
def bitsB (B:List Int):List Bool:=(List.range (8*B.length)).map (bitAt B)
theorem bitsB_len (B:List Int):(bitsB B).length=8*B.length:=by simp [bitsB]
theorem of_l0 (B:List Int):loopR (HL.dflt [.bool,.fl .bool]) (withyref01_Of_l0 B) ((0:Int),(List.replicate (Int.toNat (32:Int)) false),())=(true,(true,bitsOfRg (BitVec.allOnes 32),())):=
 loopR_of (n:=40) (by kernel_rfl)
def shiftL (v:Rg):List Bool:=(List.range 31).map (fun k=>v.getMsbD (k+1))++ [v.getMsbD 31]
theorem of_l2 (B:List Int) (v:Rg):loopR (HL.dflt [.bool,.fl .bool]) (withyref01_Of_l2 B) ((0:Int),bitsOfRg v,())=(true,(true,shiftL v,())):=
 loopR_of (n:=40) (by kernel_rfl)
def turnL (v:Rg):List Bool:=(List.range 32).map fun k=>cond (crcPoly.getMsbD k) (!(((shiftL v).set 31 false)[k]?).getD false) ((((shiftL v).set 31 false)[k]?).getD false)
theorem of_l3 (B:List Int) (v:Rg):loopR (HL.dflt [.bool,.fl .bool]) (withyref01_Of_l3 B) ((0:Int),(shiftL v).set 31 false,())=(true,(true,turnL v,())):=
 loopR_of (n:=40) (by kernel_rfl)
theorem shift_is (v:Rg):(shiftL v).set 31 false=bitsOfRg (v<<<1):=by
 refine List.ext_getElem? fun k=> ?_
 have hl:(shiftL v).length=32:=by simp [shiftL]
 by_cases hk:k<32
 ·rw [bitsOfRg_get _ hk,BitVec.getMsbD_shiftLeft,List.getElem?_set]
  by_cases h31:31=k
  ·subst h31
   rw [if_pos rfl,if_pos (by omega)]
   rw [BitVec.getMsbD_of_ge _ _ (by decide)]
  ·rw [if_neg h31]
   unfold shiftL
   rw [List.getElem?_append_left (by simp; omega),List.getElem?_map,List.getElem?_range (by omega)]
   rfl
 ·rw [List.getElem?_eq_none (by rw [List.length_set]; omega),List.getElem?_eq_none (by rw [bitsOfRg_len]; omega)]
theorem turn_is (v:Rg):turnL v=bitsOfRg ((v<<<1) ^^^ crcPoly):=by
 refine List.ext_getElem? fun k=> ?_
 by_cases hk:k<32
 ·rw [bitsOfRg_get _ hk,BitVec.getMsbD_xor]
  unfold turnL
  rw [List.getElem?_map,List.getElem?_range hk,shift_is]
  show some (bif BitVec.getMsbD crcPoly k then !(bitsOfRg (v<<<1))[k]?.getD false else (bitsOfRg (v<<<1))[k]?.getD false)=_
  rw [bitsOfRg_get _ hk]
  cases crcPoly.getMsbD k<;>simp
 ·rw [List.getElem?_eq_none (by simp [turnL]; omega),List.getElem?_eq_none (by rw [bitsOfRg_len]; omega)]
theorem of_l1 (B:List Int) (hB:B.length≤100000):∃ u,loopR (HL.dflt [.bool,.fl .bool]) (withyref01_Of_l1 B) ((0:Int),bitsOfRg (BitVec.allOnes 32),())=(true,(true,bitsOfRg (crcRun (BitVec.allOnes 32) (bitsB B)),u)):=by
 obtain ⟨⟨r0,r1,r2⟩,k1,k2,k3⟩:=loop_inv (d:=HL.dflt [.bool,.fl .bool]) (step:=withyref01_Of_l1 B)
  (fun s:Int × List Bool × Unit=>∃ i:Nat,i≤8*B.length∧s.1=(i:Int)∧s.2.1=bitsOfRg (crcRun (BitVec.allOnes 32) ((List.range i).map (bitAt B)))) (fun s=>8*B.length - s.1.toNat)
  (fun r:Bool × List Bool × Unit=>r.1=true∧r.2.1=bitsOfRg (crcRun (BitVec.allOnes 32) (bitsB B))) (by
   rintro ⟨i',L,u⟩ ⟨i,hi,rfl,rfl⟩
   have hw8:IntKind.i64.wrap ((8:Int)*(B.length:Int))=8*(B.length:Int):=wrap_i64 (by omega) (by omega)
   by_cases hlt:i<8*B.length
   ·left
    have hw:IntKind.i64.wrap ((i:Int)+1)=((i+1:Nat):Int):=by rw [wrap_i64 (by omega) (by omega)]; omega
    have hd:IntKind.i64.wrap (Int.tdiv (i:Int) (8:Int))=((i / 8:Nat):Int):=by rw [Int.tdiv_eq_ediv_of_nonneg (by omega),wrap_i64 (by omega) (by omega)]; omega
    have hm:Int.tmod (i:Int) (8:Int)=((i % 8:Nat):Int):=by rw [Int.tmod_eq_emod_of_nonneg (by omega)]; omega
    have hs:IntKind.u64.wrap (IntKind.i64.wrap ((7:Int) - ((i % 8:Nat):Int)))=7 - ((i % 8:Nat):Int):=by
     rw [wrap_i64 (by omega) (by omega)]
     unfold IntKind.wrap
     simp [IntKind.bits,IntKind.signed]
     omega
    generalize hv:crcRun (BitVec.allOnes 32) ((List.range i).map (bitAt B))=v
    have hnext:crcRun (BitVec.allOnes 32) ((List.range (i+1)).map (bitAt B))=crcStep v (bitAt B i):=by
     rw [List.range_succ,List.map_append,crcRun_append,hv]; rfl
    have e2:loopD 2 [.int .i64,.fl .bool] [.bool,.fl .bool] (withyref01_Of_l2 B) ((0:Int),bitsOfRg v,())=_:=of_l2 B v
    have e3:loopD 3 [.int .i64,.fl .bool] [.bool,.fl .bool] (withyref01_Of_l3 B) ((0:Int),(shiftL v).set 31 false,())=_:=of_l3 B v
    have h0:(((bitsOfRg v)[(0:Nat)]?).getD false)=v.msb:=by rw [bitsOfRg_get v (by decide),BitVec.msb_eq_getMsbD_zero]; rfl
    have hsl:(shiftL v).length=32:=by simp [shiftL]
    have n31:Int.toNat (31:Int)=31:=rfl
    have n0:Int.toNat (0:Int)=0:=rfl
    have hbit:((Int.tmod (iShr .u8 .u64 ((B[i / 8]?).getD (0:Int)) (7 - ((i % 8:Nat):Int))) (2:Int))==(1:Int))=bitAt B i:=rfl
    refine ⟨(((i+1:Nat):Int),bitsOfRg (crcStep v (bitAt B i)),()),?_,⟨i+1,by omega,rfl,by rw [hnext]⟩,by show 8*B.length - (((i+1:Nat):Int)).toNat<8*B.length - ((i:Int)).toNat; omega⟩
    unfold withyref01_Of_l1 RGo
    simp only [hw8,hw,hd,hm,hs,e2,e3,h0,hsl,n31,n0,hbit,Int.toNat_natCast,bitsOfRg_len,decT (show (i:Int)<8*(B.length:Int) by omega),decT (show (0:Int)≤((i / 8:Nat):Int) by omega),decT (show i / 8<B.length by omega),decT (show (0:Int)≤7 - ((i % 8:Nat):Int) by omega)]
    rw [turn_is,shift_is]
    unfold crcStep
    cases v.msb<;>cases bitAt B i<;>refine ⟨?_,?_,?_⟩<;>first | rfl | trivial
   ·right
    have:i=8*B.length:=by omega
    subst this
    refine ⟨(true,bitsOfRg (crcRun (BitVec.allOnes 32) (bitsB B)),()),?_,rfl,rfl⟩
    unfold withyref01_Of_l1 REnd
    simp only [hw8,decF (show ¬ ((8*B.length:Nat):Int)<8*(B.length:Int) by omega)]
    refine ⟨?_,?_,?_⟩<;>first | rfl | trivial) ((0:Int),bitsOfRg (BitVec.allOnes 32),()) ⟨0,by omega,rfl,rfl⟩
 have k2:r0=true:=k2
 have k3:r1=_:=k3
 subst k2; subst k3
 exact ⟨r2,k1⟩
theorem half_bit (x k:Nat):x / 2 ^ k=2*(x / 2 ^ (k+1))+(x.testBit k).toNat:=by
 rw [Nat.pow_succ,← Nat.div_div_eq_div_mul,Nat.testBit_eq_decide_div_mod_eq]
 have:=Nat.div_add_mod (x / 2 ^ k) 2
 rcases Nat.mod_two_eq_zero_or_one (x / 2 ^ k) with h | h
 ·simp [h]; omega
 ·simp [h]; omega
theorem of_l4 (B:List Int) (v:Rg) (e0:loopD 0 [.int .i64,.fl .bool] [.bool,.fl .bool] (withyref01_Of_l0 B) ((0:Int),(List.replicate (Int.toNat (32:Int)) false),())=(true,(true,bitsOfRg (BitVec.allOnes 32),())))
  (u:Unit) (e1:loopD 1 [.int .i64,.fl .bool] [.bool,.fl .bool] (withyref01_Of_l1 B) ((0:Int),bitsOfRg (BitVec.allOnes 32),())=(true,(true,bitsOfRg v,u))):
  ∃ u,loopR (HL.dflt [.bool,.int .u32]) (withyref01_Of_l4 B) ((0:Int),(0:Int),())=(true,(true,(((~~~v).toNat:Nat):Int),u)):=by
 obtain ⟨⟨r0,r1,r2⟩,k1,k2,k3⟩:=loop_inv (d:=HL.dflt [.bool,.int .u32]) (step:=withyref01_Of_l4 B)
  (fun s:Int × Int × Unit=>∃ i:Nat,i≤32∧s.1=(i:Int)∧s.2.1=(((~~~v).toNat / 2 ^ (32 - i):Nat):Int)) (fun s=>32 - s.1.toNat)
  (fun r:Bool × Int × Unit=>r.1=true∧r.2.1=(((~~~v).toNat:Nat):Int)) (by
   rintro ⟨i',n,u'⟩ ⟨i,hi,rfl,rfl⟩
   have hlt32:=(~~~v).isLt
   by_cases hlt:i<32
   ·left
    have hw:IntKind.i64.wrap ((i:Int)+1)=((i+1:Nat):Int):=by rw [wrap_i64 (by omega) (by omega)]; omega
    have hb:(~~~v).toNat.testBit (31 - i)= !(v.getMsbD i):=by
     have h1:(~~~v).getMsbD i= !(v.getMsbD i):=by rw [BitVec.getMsbD_not]; simp [hlt]
     rw [← h1]
     simp [BitVec.getMsbD,hlt,BitVec.getLsbD]
    have hstep:=half_bit (~~~v).toNat (31 - i)
    have e32:31 - i+1=32 - i:=by omega
    have e31:32 - (i+1)=31 - i:=by omega
    rw [e32,hb] at hstep
    have hq:(~~~v).toNat / 2 ^ (31 - i)≤(~~~v).toNat:=Nat.div_le_self _ _
    generalize (~~~v).toNat / 2 ^ (32 - i)=q at hstep ⊢
    have hwr:∀ z:Int,0≤z→z<4294967296→IntKind.u32.wrap z=z:=fun z h0 h1=>by
     unfold IntKind.wrap
     simp [IntKind.bits,IntKind.signed]
     omega
    have hq2:2*q+(!(v.getMsbD i)).toNat<4294967296:=by rw [← hstep]; omega
    refine ⟨(((i+1:Nat):Int),(((~~~v).toNat / 2 ^ (31 - i):Nat):Int),()),?_,⟨i+1,by omega,rfl,by rw [e31]⟩,by show 32 - (((i+1:Nat):Int)).toNat<32 - ((i:Int)).toNat; omega⟩
    unfold withyref01_Of_l4 RGo
    simp only [e0,e1,hw,Int.toNat_natCast,bitsOfRg_len,bitsOfRg_get v hlt,Option.getD_some,decT (show (i:Int)<32 by omega),decT hlt,decT (show (0:Int)≤(i:Int) by omega)]
    rw [hwr ((q:Int)*2) (by omega) (by omega)]
    rw [hstep]
    cases hv:v.getMsbD i with
    | true=>
     have hc:((2*q+(!true).toNat:Nat):Int)=(q:Int)*2:=by rw [show (!true).toNat=0 from rfl]; omega
     rw [hc]
     refine ⟨?_,?_,?_⟩<;>first | rfl | trivial
    | false=>
     rw [hv] at hq2
     have hq3:2*q+1<4294967296:=hq2
     rw [hwr ((q:Int)*2+1) (by omega) (by omega)]
     have hc:((2*q+(!false).toNat:Nat):Int)=(q:Int)*2+1:=by rw [show (!false).toNat=1 from rfl]; omega
     rw [hc]
     refine ⟨?_,?_,?_⟩<;>first | rfl | trivial
   ·right
    have:i=32:=by omega
    subst this
    refine ⟨(true,(((~~~v).toNat:Nat):Int),()),?_,rfl,rfl⟩
    unfold withyref01_Of_l4 REnd
    simp only [e0,e1,decF (show ¬ ((32:Nat):Int)<32 by omega)]
    refine ⟨?_,?_,?_⟩<;>first | rfl | trivial | simp) ((0:Int),(0:Int),()) ⟨0,by omega,rfl,by
     show (0:Int)=(((~~~v).toNat / 2 ^ 32:Nat):Int)
     rw [Nat.div_eq_of_lt (~~~v).isLt]; rfl⟩
 have k2:r0=true:=k2
 have k3:r1=_:=k3
 subst k2; subst k3
 exact ⟨r2,k1⟩
def sumOf (B:List Int):Nat:=(~~~(crcRun (BitVec.allOnes 32) (bitsB B))).toNat
theorem of_r (B:List Int) (hB:B.length≤100000):withyref01_Of_r B=(true,(sumOf B:Int)):=by
 have e0:loopD 0 [.int .i64,.fl .bool] [.bool,.fl .bool] (withyref01_Of_l0 B) ((0:Int),(List.replicate (Int.toNat (32:Int)) false),())=_:=of_l0 B
 obtain ⟨u,e1⟩:=of_l1 B hB
 have e1':loopD 1 [.int .i64,.fl .bool] [.bool,.fl .bool] (withyref01_Of_l1 B) ((0:Int),bitsOfRg (BitVec.allOnes 32),())=_:=e1
 obtain ⟨u2,e4⟩:=of_l4 B _ e0 u e1'
 have e4':loopD 4 [.int .i64,.int .u32] [.bool,.int .u32] (withyref01_Of_l4 B) ((0:Int),(0:Int),())=_:=e4
 unfold withyref01_Of_r
 simp only [e0,e1',e4']
 rfl
end Go.Proofs.Ytfeepbajipdfaaa.T
namespace Go.Proofs.Ytfeepbajipdfaaa.T
open Go.Vm Go.Tm
set_option linter.unusedVariables false
set_option linter.unusedSimpArgs false
def Byt (x:Int):Prop:=0≤x∧x<256
theorem Byt.nat {x:Int} (h:Byt x):∃ n:Nat,x=(n:Int)∧n<256:=⟨x.toNat,by have:=h.1; omega,by have:=h.1; have:=h.2; omega⟩
theorem byteBit_nat (n j:Nat) (hj:j≤7):byteBit (n:Int) j=n.testBit (7 - j):=by
 have h7:(7:Int) - (j:Int)=((7 - j:Nat):Int):=by omega
 unfold byteBit
 rw [h7]
 have hs:iShr .u8 .u64 ((n:Nat):Int) (((7 - j:Nat):Int))=((n / 2 ^ (7 - j):Nat):Int):=by
  show Int.fdiv ((n:Nat):Int) (2 ^ (min (Int.toNat ((7 - j:Nat):Int)) 8))=_
  rw [Int.toNat_natCast,Nat.min_eq_left (by omega)]
  rw [Int.fdiv_eq_ediv_of_nonneg _ (Int.le_of_lt (Int.pow_pos (by decide)))]
  norm_cast
 rw [hs,Int.tmod_eq_emod_of_nonneg (Int.natCast_nonneg _),Nat.testBit_eq_decide_div_mod_eq]
 generalize n / 2 ^ (7 - j)=q
 by_cases h:q % 2=1
 ·have h':((q:Nat):Int) % 2=1:=by omega
  rw [h',decT h]; rfl
 ·have h':¬ ((q:Nat):Int) % 2=1:=by omega
  rw [decF h]; exact beqI h'
def tailB (B:List Int):List Int:= [((sumOf B / 2 ^ 24 % 256:Nat):Int),((sumOf B / 2 ^ 16 % 256:Nat):Int),((sumOf B / 2 ^ 8 % 256:Nat):Int),((sumOf B % 256:Nat):Int)]
def sealB (B:List Int):List Int:=B++tailB B
theorem sealB_len (B:List Int):(sealB B).length=B.length+4:=by simp [sealB,tailB]
theorem u8_nat (n:Nat):IntKind.u8.wrap ((n:Nat):Int)=((n % 256:Nat):Int):=by
 unfold IntKind.wrap
 simp [IntKind.bits,IntKind.signed]
theorem seal_r (B:List Int) (hB:B.length≤100000):withyref01_Seal_r B=(true,sealB B):=by
 have hs:∀ k:Nat,k≤32→iShr .u32 .u64 ((sumOf B:Nat):Int) ((k:Nat):Int)=((sumOf B / 2 ^ k:Nat):Int):=fun k hk=>by
  show Int.fdiv ((sumOf B:Nat):Int) (2 ^ (min (Int.toNat ((k:Nat):Int)) 32))=_
  rw [Int.toNat_natCast,Nat.min_eq_left hk,Int.fdiv_eq_ediv_of_nonneg _ (Int.le_of_lt (Int.pow_pos (by decide)))]
  norm_cast
 have h24:=hs 24 (by decide)
 have h16:=hs 16 (by decide)
 have h8:=hs 8 (by decide)
 have h24:iShr .u32 .u64 ((sumOf B:Nat):Int) (24:Int)=_:=h24
 have h16:iShr .u32 .u64 ((sumOf B:Nat):Int) (16:Int)=_:=h16
 have h8:iShr .u32 .u64 ((sumOf B:Nat):Int) (8:Int)=_:=h8
 unfold withyref01_Seal_r
 simp only [of_r B hB,h24,h16,h8,u8_nat]
 refine Prod.ext ?_ rfl
 simp only [List.length_append,List.length_nil,List.length_cons,Nat.zero_add,decT (show B.length*1≤140737488355328 by omega),decT (show (0:Int)≤24 by omega),decT (show (0:Int)≤16 by omega),decT (show (0:Int)≤8 by omega),decT (show (B.length+(0+1+1+1+1))*1≤140737488355328 by omega),Bool.and_self]
theorem sum_bit (B:List Int) (m:Nat) (hm:m<32):(sumOf B).testBit (31 - m)= !(crcRun (BitVec.allOnes 32) (bitsB B)).getMsbD m:=by
 unfold sumOf
 generalize crcRun (BitVec.allOnes 32) (bitsB B)=v
 have h1:(~~~v).getMsbD m= !(v.getMsbD m):=by rw [BitVec.getMsbD_not]; simp [hm]
 rw [← h1]
 simp [BitVec.getMsbD,hm,BitVec.getLsbD]
theorem tail_bit (B:List Int) (m:Nat) (hm:m<32):byteBit (((tailB B)[m / 8]?).getD 0) (m % 8)= !(crcRun (BitVec.allOnes 32) (bitsB B)).getMsbD m:=by
 rw [← sum_bit B m hm]
 have key:∀ a k:Nat,a=24 - 8*(m / 8)→((sumOf B / 2 ^ a % 256:Nat)).testBit (7 - m % 8)=(sumOf B).testBit (31 - m):=fun a k ha=>by
  rw [show 256=2 ^ 8 from rfl,Nat.testBit_mod_two_pow,Nat.testBit_div_two_pow,decT (show 7 - m % 8<8 by omega),Bool.true_and]
  congr 1
  omega
 have hc:m / 8=0∨m / 8=1∨m / 8=2∨m / 8=3:=by omega
 rcases hc with h | h | h | h
 ·rw [h]
  show byteBit ((sumOf B / 2 ^ 24 % 256:Nat):Int) (m % 8)=_
  rw [byteBit_nat _ _ (by omega),key 24 0 (by omega)]
 ·rw [h]
  show byteBit ((sumOf B / 2 ^ 16 % 256:Nat):Int) (m % 8)=_
  rw [byteBit_nat _ _ (by omega),key 16 0 (by omega)]
 ·rw [h]
  show byteBit ((sumOf B / 2 ^ 8 % 256:Nat):Int) (m % 8)=_
  rw [byteBit_nat _ _ (by omega),key 8 0 (by omega)]
 ·rw [h]
  show byteBit ((sumOf B % 256:Nat):Int) (m % 8)=_
  have:=key 0 0 (by omega)
  rw [Nat.pow_zero,Nat.div_one] at this
  rw [byteBit_nat _ _ (by omega),this]
theorem bitsB_get (B:List Int) {i:Nat} (h:i<8*B.length):(bitsB B)[i]? =some (bitAt B i):=by
 unfold bitsB
 rw [List.getElem?_map,List.getElem?_range h]; rfl
theorem bits_seal (B:List Int):bitsB (sealB B)=crcSeal (bitsB B):=by
 refine List.ext_getElem? fun i=> ?_
 have hl:=sealB_len B
 by_cases hi:i<8*B.length
 ·rw [bitsB_get _ (by omega)]
  unfold crcSeal
  rw [List.getElem?_append_left (by rw [bitsB_len]; exact hi),bitsB_get _ hi]
  congr 1
  unfold bitAt sealB
  rw [List.getElem?_append_left (by omega)]
 ·by_cases hi2:i<8*B.length+32
  ·rw [bitsB_get _ (by omega)]
   unfold crcSeal
   rw [List.getElem?_append_right (by rw [bitsB_len]; omega),bitsB_len,List.getElem?_map,bitsOfRg_get _ (show i - 8*B.length<32 by omega)]
   have ht:=tail_bit B (i - 8*B.length) (by omega)
   show some _=some (!(crcRun (BitVec.allOnes 32) (bitsB B)).getMsbD (i - 8*B.length))
   rw [← ht]
   congr 1
   unfold bitAt sealB
   rw [List.getElem?_append_right (by omega),show i / 8 - B.length=(i - 8*B.length) / 8 by omega,show i % 8=(i - 8*B.length) % 8 by omega]
  ·rw [List.getElem?_eq_none (by rw [bitsB_len]; omega),List.getElem?_eq_none (by simp [crcSeal,bitsOfRg_len,bitsB_len]; omega)]
theorem bits_inj {X Y:List Int} (hX:∀ x∈X,Byt x) (hY:∀ y∈Y,Byt y) (hl:X.length=Y.length) (h:bitsB X=bitsB Y):X=Y:=by
 refine List.ext_getElem hl fun k h1 h2=> ?_
 obtain ⟨n,e1,n1⟩:=(hX _ (List.getElem_mem h1)).nat
 obtain ⟨m,e2,m1⟩:=(hY _ (List.getElem_mem h2)).nat
 rw [e1,e2]
 congr 1
 refine Nat.eq_of_testBit_eq fun b=> ?_
 by_cases hb:b<8
 ·have hi:8*k+(7 - b)<8*X.length:=by omega
  have e:(bitsB X)[8*k+(7 - b)]? =(bitsB Y)[8*k+(7 - b)]? :=by rw [h]
  rw [bitsB_get X hi,bitsB_get Y (by omega)] at e
  injection e with e
  unfold bitAt at e
  rw [show (8*k+(7 - b)) / 8=k by omega,show (8*k+(7 - b)) % 8=7 - b by omega,List.getElem?_eq_getElem h1,List.getElem?_eq_getElem h2] at e
  have e:byteBit X[k] (7 - b)=byteBit Y[k] (7 - b):=e
  rw [e1,e2,byteBit_nat n _ (by omega),byteBit_nat m _ (by omega),show 7 - (7 - b)=b by omega] at e
  exact e
 ·have hp:(256:Nat)≤2 ^ b:=by
   have:(2:Nat) ^ 8≤2 ^ b:=Nat.pow_le_pow_right (by decide) (by omega)
   simpa using this
  rw [Nat.testBit_lt_two_pow (by omega),Nat.testBit_lt_two_pow (by omega)]
theorem shr128 (m:Nat) (hm:m<8):iShr .u8 .i64 (128:Int) ((m:Nat):Int)=((2 ^ (7 - m):Nat):Int):=by
 match m,hm with
 | 0,_=>decide
 | 1,_=>decide
 | 2,_=>decide
 | 3,_=>decide
 | 4,_=>decide
 | 5,_=>decide
 | 6,_=>decide
 | 7,_=>decide
theorem bxor_nat (n y:Nat) (hn:n<256) (hy:y<256):iBxor .u8 ((n:Nat):Int) ((y:Nat):Int)=((n ^^^ y:Nat):Int)∧n ^^^ y<256:=by
 have hlt:n ^^^ y<256:=Nat.xor_lt_two_pow (n:=8) hn hy
 refine ⟨?_,hlt⟩
 show IntKind.u8.wrap (((BitVec.ofInt 8 ((n:Nat):Int) ^^^ BitVec.ofInt 8 ((y:Nat):Int)).toNat:Nat):Int)=_
 have e1:∀ z:Nat,z<256→(BitVec.ofInt 8 ((z:Nat):Int)).toNat=z:=fun z hz=>by
  rw [BitVec.toNat_ofInt]
  have:((z:Nat):Int) % ((2 ^ 8:Nat):Int)=((z:Nat):Int):=Int.emod_eq_of_lt (by omega) (by simpa using (by omega:(z:Int)<256))
  rw [this]; rfl
 rw [BitVec.toNat_xor,e1 n hn,e1 y hy,u8_nat,Nat.mod_eq_of_lt hlt]
theorem biter_bits (n a:Nat) (p:Int) (L:List Int) (hL:∀ x∈L,Byt x) (hn:n=L.length):∀ i,i≤32→(∀ x∈biter n a p L i,Byt x)∧∀ j,(j<a∨a+32≤j)→bitAt (biter n a p L i) j=bitAt L j
 | 0,_=>⟨hL,fun j _=>rfl⟩
 | i+1,hi=>by
  obtain ⟨h1,h2⟩:=biter_bits n a p L hL hn i (by omega)
  have hlen:=biter_len n a p L i
  show (∀ x∈bstep n a p i (biter n a p L i),Byt x)∧∀ j,(j<a∨a+32≤j)→bitAt (bstep n a p i (biter n a p L i)) j=bitAt L j
  unfold bstep
  cases hc:(iBand .u32 (iShr .u32 .i64 p ((31:Int) - (i:Int))) (1:Int)==(1:Int) && decide (a+i<8*n)) with
  | false=>exact ⟨h1,h2⟩
  | true=>
   rw [Bool.and_eq_true,decide_eq_true_eq] at hc
   have hlt:=hc.2
   have hq:Int.toNat (Int.tdiv ((a+i:Nat):Int) (8:Int))=(a+i) / 8:=by
    rw [Int.tdiv_eq_ediv_of_nonneg (by omega)]; omega
   have hm:Int.tmod ((a+i:Nat):Int) (8:Int)=(((a+i) % 8:Nat):Int):=by rw [Int.tmod_eq_emod_of_nonneg (by omega)]; omega
   rw [hq,hm,shr128 _ (by omega),cond_true]
   generalize biter n a p L i=M at h1 h2 hlen ⊢
   have hqM:(a+i) / 8<M.length:=by omega
   have hx:M[(a+i) / 8]? =some M[(a+i) / 8]:=List.getElem?_eq_getElem hqM
   obtain ⟨z,ez,hz⟩:=(h1 _ (List.getElem_mem hqM)).nat
   have hp2:(2:Nat) ^ (7 - (a+i) % 8)<256:=by
    have:(2:Nat) ^ (7 - (a+i) % 8)≤2 ^ 7:=Nat.pow_le_pow_right (by decide) (by omega)
    omega
   obtain ⟨b1,b2⟩:=bxor_nat z (2 ^ (7 - (a+i) % 8)) hz hp2
   rw [hx,Option.getD_some,ez,b1]
   refine ⟨fun x hxm=> ?_,fun j hj=> ?_⟩
   ·rcases List.mem_or_eq_of_mem_set hxm with h | h
    ·exact h1 x h
    ·rw [h]; exact ⟨by omega,by omega⟩
   ·rw [← h2 j hj]
    unfold bitAt
    rw [List.getElem?_set]
    by_cases hj8:(a+i) / 8=j / 8
    ·rw [if_pos hj8,if_pos hqM,← hj8,hx]
     show byteBit ((z ^^^ 2 ^ (7 - (a+i) % 8):Nat):Int) (j % 8)=byteBit M[(a+i) / 8] (j % 8)
     rw [ez,byteBit_nat _ _ (by omega),byteBit_nat _ _ (by omega),Nat.testBit_xor,Nat.testBit_two_pow,decF (show ¬ 7 - (a+i) % 8=7 - j % 8 by omega),Bool.xor_false]
    ·rw [if_neg hj8]
end Go.Proofs.Ytfeepbajipdfaaa.T
namespace Go.Proofs.Ytfeepbajipdfaaa.T
open Go.Vm Go.Tm
set_option linter.unusedVariables false
set_option linter.unusedSimpArgs false
abbrev Fm:=Int × Int × Int × Int × List Int
abbrev fm0:Fm:=(0,0,0,0,[])
def low (n:Int):Int:=IntKind.u8.wrap (Int.tmod n (256:Int))
def dwn (n:Int):Int:=IntKind.i64.wrap (Int.tdiv n (256:Int))
theorem num1_r (n:Int):withyref02_Num_r n (1:Int)=(true,[low n]):=by
 have h:loopR (HL.dflt [.bool,.fl (.int .u8)]) (withyref02_Num_l0 n (1:Int)) ((0:Int),n,([]:List Int),())=(true,(true,[low n],())):=loopR_of (n:=10) (by kernel_rfl)
 have h':loopD 0 [.int .i64,.int .i64,.fl (.int .u8)] [.bool,.fl (.int .u8)] (withyref02_Num_l0 n (1:Int)) ((0:Int),n,([]:List Int),())=_:=h
 unfold withyref02_Num_r
 dsimp only
 rw [h']
theorem num2_r (n:Int):withyref02_Num_r n (2:Int)=(true,[low (dwn n),low n]):=by
 have h:loopR (HL.dflt [.bool,.fl (.int .u8)]) (withyref02_Num_l0 n (2:Int)) ((0:Int),n,([]:List Int),())=(true,(true,[low (dwn n),low n],())):=loopR_of (n:=10) (by kernel_rfl)
 have h':loopD 0 [.int .i64,.int .i64,.fl (.int .u8)] [.bool,.fl (.int .u8)] (withyref02_Num_l0 n (2:Int)) ((0:Int),n,([]:List Int),())=_:=h
 unfold withyref02_Num_r
 dsimp only
 rw [h']
theorem num4_r (n:Int):withyref02_Num_r n (4:Int)=(true,[low (dwn (dwn (dwn n))),low (dwn (dwn n)),low (dwn n),low n]):=by
 have h:loopR (HL.dflt [.bool,.fl (.int .u8)]) (withyref02_Num_l0 n (4:Int)) ((0:Int),n,([]:List Int),())=(true,(true,[low (dwn (dwn (dwn n))),low (dwn (dwn n)),low (dwn n),low n],())):=loopR_of (n:=10) (by kernel_rfl)
 have h':loopD 0 [.int .i64,.int .i64,.fl (.int .u8)] [.bool,.fl (.int .u8)] (withyref02_Num_l0 n (4:Int)) ((0:Int),n,([]:List Int),())=_:=h
 unfold withyref02_Num_r
 dsimp only
 rw [h']
theorem low_byt (n:Int):Byt (low n):=by
 unfold low Byt IntKind.wrap
 simp [IntKind.bits,IntKind.signed]
 omega
def headF (f:Fm):List Int:= [low (dwn f.2.2.2.2.length),low f.2.2.2.2.length,low f.1,low (dwn (dwn (dwn f.2.1))),low (dwn (dwn f.2.1)),low (dwn f.2.1),low f.2.1,low (dwn (dwn (dwn f.2.2.1))),low (dwn (dwn f.2.2.1)),low (dwn f.2.2.1),low f.2.2.1,low (dwn (dwn (dwn f.2.2.2.1))),low (dwn (dwn f.2.2.2.1)),low (dwn f.2.2.2.1),low f.2.2.2.1]
def bytesF (f:Fm):List Int:=sealB (headF f++f.2.2.2.2)
theorem bytes_r (f:Fm) (h:f.2.2.2.2.length≤50000):withyref03_Bytes_r f=(true,bytesF f):=by
 have hs:withyref01_Seal_r (headF f++f.2.2.2.2)=(true,sealB (headF f++f.2.2.2.2)):=seal_r _ (by simp [headF]; omega)
 unfold withyref03_Bytes_r
 simp only [num1_r,num2_r,num4_r]
 have e:(((([low (dwn (f.2.2.2.2.length:Int)),low (f.2.2.2.2.length:Int)]++ [low f.1])++ [low (dwn (dwn (dwn f.2.1))),low (dwn (dwn f.2.1)),low (dwn f.2.1),low f.2.1])++ [low (dwn (dwn (dwn f.2.2.1))),low (dwn (dwn f.2.2.1)),low (dwn f.2.2.1),low f.2.2.1])++ [low (dwn (dwn (dwn f.2.2.2.1))),low (dwn (dwn f.2.2.2.1)),low (dwn f.2.2.2.1),low f.2.2.2.1])=headF f:=rfl
 rw [e,hs]
 have e15:(headF f).length=15:=rfl
 rw [e15,decT (show (15+f.2.2.2.2.length)*1≤140737488355328 by omega)]
 rfl
theorem headF_byt (f:Fm):∀ x∈headF f,Byt x:=by
 intro x hx
 unfold headF at hx
 simp only [List.mem_cons,List.not_mem_nil,or_false] at hx
 rcases hx with h | h | h | h | h | h | h | h | h | h | h | h | h | h | h<;>(rw [h]; exact low_byt _)
theorem tailB_byt (B:List Int):∀ x∈tailB B,Byt x:=by
 intro x hx
 unfold tailB at hx
 simp only [List.mem_cons,List.not_mem_nil,or_false] at hx
 rcases hx with h | h | h | h<;>(rw [h]; refine ⟨by omega,?_⟩)<;>omega
theorem bytesF_byt (f:Fm) (h:∀ x∈f.2.2.2.2,Byt x):∀ x∈bytesF f,Byt x:=by
 intro x hx
 unfold bytesF sealB at hx
 rcases List.mem_append.1 hx with hx | hx
 ·rcases List.mem_append.1 hx with hx | hx
  ·exact headF_byt f x hx
  ·exact h x hx
 ·exact tailB_byt _ x hx
theorem bytesF_len (f:Fm):(bytesF f).length=f.2.2.2.2.length+19:=by
 unfold bytesF
 rw [sealB_len,List.length_append]
 show 15+_+4=_
 omega
theorem low_small {n:Nat} (h:n<65536):low (dwn (n:Int))=((n / 256:Nat):Int)∧low (n:Int)=((n % 256:Nat):Int):=by
 have hd:dwn (n:Int)=((n / 256:Nat):Int):=by
  unfold dwn
  rw [Int.tdiv_eq_ediv_of_nonneg (by omega),wrap_i64 (by omega) (by omega)]; omega
 have hl:∀ m:Nat,low (m:Int)=((m % 256:Nat):Int):=fun m=>by
  unfold low
  rw [Int.tmod_eq_emod_of_nonneg (by omega),show ((m:Int) % 256)=((m % 256:Nat):Int) by omega,u8_nat,Nat.mod_mod]
 refine ⟨?_,hl n⟩
 rw [hd,hl,Nat.mod_eq_of_lt (by omega)]
theorem bytes_eq {X Y:List Int} (hX:∀ x∈X,Byt x) (hY:∀ y∈Y,Byt y) (h:(bytesOf X==bytesOf Y)=true):X=Y:=by
 have hd:(X.map fun n=>UInt8.ofNat (Int.toNat n))=(Y.map fun n=>UInt8.ofNat (Int.toNat n)):=by
  have h:ByteArray.beq (bytesOf X) (bytesOf Y)=true:=h
  unfold ByteArray.beq bytesOf at h
  have h2:(List.map (fun n=>UInt8.ofNat (Int.toNat n)) X).toArray=(List.map (fun n=>UInt8.ofNat (Int.toNat n)) Y).toArray:=by simpa using h
  exact List.toArray_inj h2
 have hlen:X.length=Y.length:=by have:=congrArg List.length hd; simpa using this
 refine List.ext_getElem hlen fun k h1 h2=> ?_
 have e:=congrArg (fun l=>l[k]?) hd
 simp only [List.getElem?_map,List.getElem?_eq_getElem h1,List.getElem?_eq_getElem h2,Option.map_some,Option.some.injEq] at e
 obtain ⟨n,e1,n1⟩:=(hX _ (List.getElem_mem h1)).nat
 obtain ⟨m,e2,m1⟩:=(hY _ (List.getElem_mem h2)).nat
 rw [e1,e2,Int.toNat_natCast,Int.toNat_natCast] at e
 have e:=congrArg UInt8.toNat e
 rw [UInt8.toNat_ofNat',UInt8.toNat_ofNat'] at e
 rw [e1,e2]
 have:n=m:=by
  rw [Nat.mod_eq_of_lt (by simpa using n1),Nat.mod_eq_of_lt (by simpa using m1)] at e
  exact e
 rw [this]
theorem number_ok (l:List Int) (h:l.length≤100000):(withyref02_number_r l).1=true:=by
 obtain ⟨r,k1,_⟩:=loop_inv (d:=HL.dflt [.bool,.int .i64]) (step:=withyref02_number_l0 l) (fun s:Int × Int × Unit=>∃ i:Nat,i≤l.length∧s.1=(i:Int)) (fun s=>l.length - s.1.toNat) (fun _=>True) (by
  rintro ⟨i',n,u⟩ ⟨i,hi,rfl⟩
  by_cases hlt:i<l.length
  ·left
   have hw:IntKind.i64.wrap ((i:Int)+1)=((i+1:Nat):Int):=by rw [wrap_i64 (by omega) (by omega)]; omega
   refine ⟨_,⟨?_,?_,rfl⟩,⟨i+1,by omega,?_⟩,?_⟩
   ·unfold withyref02_number_l0
    simp only [decT (show (i:Int)<(l.length:Int) by omega),Int.toNat_natCast,decT hlt,decT (show (0:Int)≤(i:Int) by omega)]
    rfl
   ·unfold withyref02_number_l0
    simp only [decT (show (i:Int)<(l.length:Int) by omega)]
   ·unfold withyref02_number_l0
    exact hw
   ·show l.length - (IntKind.i64.wrap ((i:Int)+1)).toNat<l.length - ((i:Int)).toNat
    rw [hw]; omega
  ·right
   have:i=l.length:=by omega
   subst this
   refine ⟨_,⟨?_,?_,rfl⟩,trivial⟩
   ·unfold withyref02_number_l0
    simp only [decF (show ¬ (l.length:Int)<(l.length:Int) by omega)]
    rfl
   ·unfold withyref02_number_l0
    simp only [decF (show ¬ (l.length:Int)<(l.length:Int) by omega)]) ((0:Int),(0:Int),()) ⟨0,by omega,rfl⟩
 have k1':loopD 0 [.int .i64,.int .i64] [.bool,.int .i64] (withyref02_number_l0 l) ((0:Int),(0:Int),())=_:=k1
 unfold withyref02_number_r
 dsimp only
 rw [k1']
theorem limit_ok (w:Int) (hw:w=1∨w=2∨w=4):(withyref02_Limit_r w).1=true:=by
 have h:∃ r,loopR (HL.dflt [.bool,.int .i64]) (withyref02_Limit_l0 w) ((0:Int),(1:Int),())=(true,r):=by
  rcases hw with h | h | h<;>subst h
  ·exact ⟨(true,256,()),loopR_of (n:=10) (by kernel_rfl)⟩
  ·exact ⟨(true,65536,()),loopR_of (n:=10) (by kernel_rfl)⟩
  ·exact ⟨(true,4294967296,()),loopR_of (n:=10) (by kernel_rfl)⟩
 obtain ⟨r,h⟩:=h
 have h':loopD 0 [.int .i64,.int .i64] [.bool,.int .i64] (withyref02_Limit_l0 w) ((0:Int),(1:Int),())=_:=h
 unfold withyref02_Limit_r
 dsimp only
 rw [h']
theorem take_ok (w:Int) (s:List Int × Int) (hw:w=1∨w=2∨w=4) (h:s.1.length≤100000):(withyref02_Take_r w s).1=true∧∃ k,(withyref02_Take_r w s).2.2.1=s.1.drop k:=by
 have h1:¬ w<1:=by omega
 have h4:¬ w>4:=by omega
 have h0:(0:Int)≤w:=by omega
 have hl:=limit_ok w hw
 have hn:=number_ok ((s.1.drop 0).take (Int.toNat w)) (by simp; omega)
 unfold withyref02_Take_r
 simp only [decF h1,decF h4,decT h0,hl,hn]
 by_cases he:s.2=0
 ·have hb:(s.2 !=(0:Int))=false:=by rw [he]; rfl
  simp only [hb]
  by_cases hs:(s.1.length:Int)<w
  ·simp only [decT hs]
   exact ⟨rfl,0,by rw [List.drop_zero]; rfl⟩
  ·simp only [decF hs,decT (show Int.toNat w≤s.1.length by omega)]
   cases decide ((withyref02_number_r (List.take (Int.toNat w) (List.drop 0 s.1))).2>(withyref02_Limit_r w).2) with
   | true=>exact ⟨rfl,0,by rw [List.drop_zero]; rfl⟩
   | false=>
    refine ⟨rfl,Int.toNat w,?_⟩
    show (s.1.drop (Int.toNat w)).take (s.1.length - Int.toNat w)=_
    exact List.take_of_length_le (by rw [List.length_drop]; exact Nat.le_refl _)
 ·have hb:(s.2 !=(0:Int))=true:=bneI he
  simp only [hb]
  exact ⟨rfl,0,by rw [List.drop_zero]; rfl⟩
theorem may_ok (f:Fm):(withyref03_May_r f).1=true:=by
 obtain ⟨r,k1,_⟩:=loop_inv (d:=HL.dflt [.bool,.bool,.bool]) (step:=withyref03_May_l0 f) (fun s:Int × Unit=>∃ i:Nat,i≤3∧s.1=(i:Int)) (fun s=>3 - s.1.toNat) (fun _=>True) (by
  rintro ⟨i',u⟩ ⟨i,hi,rfl⟩
  by_cases hlt:i<3
  ·have hw:IntKind.i64.wrap ((i:Int)+1)=((i+1:Nat):Int):=by rw [wrap_i64 (by omega) (by omega)]; omega
   have hl:([f.2.1,f.2.2.1,f.2.2.2.1]:List Int).length=3:=rfl
   generalize hq:(([f.2.1,f.2.2.1,f.2.2.2.1]:List Int)[i]?).getD (0:Int)=q
   by_cases hb:q<0
   ·right
    refine ⟨_,⟨?_,?_,rfl⟩,trivial⟩
    ·unfold withyref03_May_l0
     simp only [hl,decT (show (i:Int)<((3:Nat):Int) by omega),Int.toNat_natCast,decT hlt,decT (show (0:Int)≤(i:Int) by omega),hq,decT hb]
     rfl
    ·unfold withyref03_May_l0
     simp only [hl,decT (show (i:Int)<((3:Nat):Int) by omega),Int.toNat_natCast,hq,decT hb]
     rfl
   ·by_cases hb2:q>2147483647
    ·right
     refine ⟨_,⟨?_,?_,rfl⟩,trivial⟩
     ·unfold withyref03_May_l0
      simp only [hl,decT (show (i:Int)<((3:Nat):Int) by omega),Int.toNat_natCast,decT hlt,decT (show (0:Int)≤(i:Int) by omega),hq,decF hb]
      rfl
     ·unfold withyref03_May_l0
      simp only [hl,decT (show (i:Int)<((3:Nat):Int) by omega),Int.toNat_natCast,hq,decF hb,decT hb2]
      rfl
    ·left
     refine ⟨_,⟨?_,?_,rfl⟩,⟨i+1,by omega,?_⟩,?_⟩
     ·unfold withyref03_May_l0
      simp only [hl,decT (show (i:Int)<((3:Nat):Int) by omega),Int.toNat_natCast,decT hlt,decT (show (0:Int)≤(i:Int) by omega),hq,decF hb]
      rfl
     ·unfold withyref03_May_l0
      simp only [hl,decT (show (i:Int)<((3:Nat):Int) by omega),Int.toNat_natCast,hq,decF hb,decF hb2]
      rfl
     ·unfold withyref03_May_l0
      exact hw
     ·show 3 - (IntKind.i64.wrap ((i:Int)+1)).toNat<3 - ((i:Int)).toNat
      rw [hw]; omega
  ·right
   have:i=3:=by omega
   subst this
   have hl:([f.2.1,f.2.2.1,f.2.2.2.1]:List Int).length=3:=rfl
   refine ⟨_,⟨?_,?_,rfl⟩,trivial⟩
   ·unfold withyref03_May_l0
    simp only [hl,decF (show ¬ ((3:Nat):Int)<((3:Nat):Int) by omega)]
    rfl
   ·unfold withyref03_May_l0
    simp only [hl,decF (show ¬ ((3:Nat):Int)<((3:Nat):Int) by omega)]
    rfl) ((0:Int),()) ⟨0,by omega,rfl⟩
 have k1':loopD 0 [.int .i64] [.bool,.bool,.bool] (withyref03_May_l0 f) ((0:Int),())=_:=k1
 unfold withyref03_May_r
 dsimp only
 rw [k1']
 generalize r.2.2.1=c42
 generalize decide (f.1≥(1:Int))=a
 generalize decide (f.1<(6:Int))=b
 generalize decide ((f.2.2.2.2.length:Int)≤(16384:Int))=c
 generalize (f.1==(3:Int))=d
 cases c42<;>cases a<;>cases b<;>cases c<;>cases d<;>rfl
theorem open_r (B:List Int) (h4:4≤B.length) (h:B.length≤40000):withyref01_Open_r B=(true,(((B.drop 0).take (B.length - 4)),(bytesOf (sealB ((B.drop 0).take (B.length - 4)))==bytesOf B))):=by
 have hw:IntKind.i64.wrap ((B.length:Int) - 4)=((B.length - 4:Nat):Int):=by rw [wrap_i64 (by omega) (by omega)]; omega
 have hs:withyref01_Seal_r ((B.drop 0).take (B.length - 4))=(true,sealB ((B.drop 0).take (B.length - 4))):=seal_r _ (by simp; omega)
 unfold withyref01_Open_r
 simp only [hw,Int.toNat_natCast,hs,decF (show ¬ (B.length:Int)<4 by omega),decT (show (0:Int)≤((B.length - 4:Nat):Int) by omega),decT (show B.length - 4≤B.length by omega)]
 rfl
theorem decode_r (B:List Int) (h:B.length≤40000) (hB:∀ x∈B,Byt x):∃ f e,withyref03_Decode_r B=(true,(f,e))∧(e=0→∃ f':Fm,(∀ x∈f'.2.2.2.2,Byt x)∧B=bytesF f'):=by
 by_cases h1:(B.length:Int)>16403
 ·refine ⟨fm0,3,?_,fun h=>by cases h⟩
  unfold withyref03_Decode_r
  simp only [decT h1]
  rfl
 ·by_cases h2:(B.length:Int)<19
  ·refine ⟨fm0,5,?_,fun h=>by cases h⟩
   unfold withyref03_Decode_r
   simp only [decF h1,decT h2]
   rfl
  ·have ho:=open_r B (by omega) h
   generalize hC:(B.drop 0).take (B.length - 4)=C at ho
   have hCl:C.length≤40000:=by rw [← hC,List.length_take,List.length_drop]; omega
   have hCb:∀ x∈C,Byt x:=fun x hx=>hB x (by rw [← hC] at hx; exact List.mem_of_mem_drop (List.mem_of_mem_take hx))
   cases hq:(bytesOf (sealB C)==bytesOf B) with
   | false=>
    rw [hq] at ho
    refine ⟨fm0,6,?_,fun h=>by cases h⟩
    unfold withyref03_Decode_r
    simp only [decF h1,decF h2,ho]
    rfl
   | true=>
    rw [hq] at ho
    obtain ⟨a1,k1,b1⟩:=take_ok 2 (C,0) (.inr (.inl rfl)) (by show C.length≤_; omega)
    generalize hs1:withyref02_Take_r (2:Int) (C,(0:Int))=s1 at a1 b1
    have b1:s1.2.2.1=C.drop k1:=b1
    obtain ⟨a2,k2,b2⟩:=take_ok 1 s1.2.2 (.inl rfl) (by rw [b1,List.length_drop]; omega)
    generalize hs2:withyref02_Take_r (1:Int) s1.2.2=s2 at a2 b2
    rw [b1,List.drop_drop] at b2
    obtain ⟨a3,k3,b3⟩:=take_ok 4 s2.2.2 (.inr (.inr rfl)) (by rw [b2,List.length_drop]; omega)
    generalize hs3:withyref02_Take_r (4:Int) s2.2.2=s3 at a3 b3
    rw [b2,List.drop_drop] at b3
    obtain ⟨a4,k4,b4⟩:=take_ok 4 s3.2.2 (.inr (.inr rfl)) (by rw [b3,List.length_drop]; omega)
    generalize hs4:withyref02_Take_r (4:Int) s3.2.2=s4 at a4 b4
    rw [b3,List.drop_drop] at b4
    obtain ⟨a5,k5,b5⟩:=take_ok 4 s4.2.2 (.inr (.inr rfl)) (by rw [b4,List.length_drop]; omega)
    generalize hs5:withyref02_Take_r (4:Int) s4.2.2=s5 at a5 b5
    rw [b4,List.drop_drop] at b5
    have hPl:s5.2.2.1.length≤50000:=by rw [b5,List.length_drop]; omega
    have hPb:∀ x∈s5.2.2.1,Byt x:=fun x hx=>hCb x (by rw [b5] at hx; exact List.mem_of_mem_drop hx)
    have hm:=may_ok (s2.2.1,(s3.2.1,(s4.2.1,(s5.2.1,s5.2.2.1))))
    have hb:=bytes_r (s2.2.1,(s3.2.1,(s4.2.1,(s5.2.1,s5.2.2.1)))) hPl
    have hbf:=bytesF_byt (s2.2.1,(s3.2.1,(s4.2.1,(s5.2.1,s5.2.2.1)))) hPb
    refine ⟨(withyref03_Decode_r B).2.1,(withyref03_Decode_r B).2.2,?_,?_⟩
    ·refine Prod.ext ?_ rfl
     show (withyref03_Decode_r B).1=true
     unfold withyref03_Decode_r
     simp only [decF h1,decF h2,ho,hs1,hs2,hs3,hs4,hs5,a1,a2,a3,a4,a5,hm,hb]
     generalize (s5.2.2.2 !=(0:Int))=p
     generalize (withyref03_May_r (s2.2.1,(s3.2.1,(s4.2.1,(s5.2.1,s5.2.2.1))))).2=q
     cases p<;>cases q<;>rfl
    ·intro he
     unfold withyref03_Decode_r at he
     simp only [decF h1,decF h2,ho,hs1,hs2,hs3,hs4,hs5,a1,a2,a3,a4,a5,hm,hb] at he
     refine ⟨(s2.2.1,(s3.2.1,(s4.2.1,(s5.2.1,s5.2.2.1)))),hPb,?_⟩
     cases hr:(bytesOf (bytesF (s2.2.1,(s3.2.1,(s4.2.1,(s5.2.1,s5.2.2.1)))))==bytesOf B) with
     | true=>exact (bytes_eq hbf hB hr).symm
     | false=>
      exfalso
      have hr':((ByteArray.mk ((bytesF (s2.2.1,(s3.2.1,(s4.2.1,(s5.2.1,s5.2.2.1))))).map fun n=>UInt8.ofNat (Int.toNat n)).toArray)==(ByteArray.mk ((B).map fun n=>UInt8.ofNat (Int.toNat n)).toArray))=false:=hr
      simp only [hr'] at he
      revert he
      generalize (s5.2.2.2 !=(0:Int))=p
      generalize (withyref03_May_r (s2.2.1,(s3.2.1,(s4.2.1,(s5.2.1,s5.2.2.1))))).2=q
      cases p<;>cases q<;>(intro he; exact absurd he (by decide))
theorem cut_whole {f f':Fm} {k:Nat} (hf:f.2.2.2.2.length≤20000) (hf':f'.2.2.2.2.length≤20000) (h:(bytesF f).take k=bytesF f'):(bytesF f).take k=bytesF f:=by
 have hl:=congrArg List.length h
 rw [List.length_take,bytesF_len,bytesF_len] at hl
 have h0:=congrArg (fun l=>l[0]?) h
 have h1:=congrArg (fun l=>l[1]?) h
 simp only [List.getElem?_take,if_pos (show 0<k by omega),if_pos (show 1<k by omega)] at h0 h1
 have e0:∀ g:Fm,(bytesF g)[0]? =some (low (dwn (g.2.2.2.2.length:Int))):=fun g=>rfl
 have e1:∀ g:Fm,(bytesF g)[1]? =some (low (g.2.2.2.2.length:Int)):=fun g=>rfl
 rw [e0,e0] at h0
 rw [e1,e1] at h1
 injection h0 with h0
 injection h1 with h1
 obtain ⟨p1,p2⟩:=low_small (n:=f.2.2.2.2.length) (by omega)
 obtain ⟨p3,p4⟩:=low_small (n:=f'.2.2.2.2.length) (by omega)
 rw [p1,p3] at h0
 rw [p2,p4] at h1
 exact List.take_of_length_le (by rw [bytesF_len]; omega)
theorem burst_whole {f f':Fm} {a:Nat} {p:Int} (hf:∀ x∈f.2.2.2.2,Byt x) (hf':∀ x∈f'.2.2.2.2,Byt x) (h:biter (bytesF f).length a p (bytesF f) 32=bytesF f'):bytesF f'=bytesF f:=by
 obtain ⟨_,k2⟩:=biter_bits (bytesF f).length a p (bytesF f) (bytesF_byt f hf) rfl 32 (Nat.le_refl _)
 rw [h] at k2
 have hlen:(bytesF f').length=(bytesF f).length:=by rw [← h,biter_len]
 refine bits_inj (bytesF_byt f' hf') (bytesF_byt f hf) hlen ?_
 have e:∀ g:Fm,bitsB (bytesF g)=crcSeal (bitsB (headF g++g.2.2.2.2)):=fun g=>bits_seal _
 rw [e,e]
 have hl2:(bitsB (headF f'++f'.2.2.2.2)).length=(bitsB (headF f++f.2.2.2.2)).length:=by
  rw [bitsB_len,bitsB_len]
  rw [bytesF_len,bytesF_len] at hlen
  simp only [List.length_append]
  show 8*(15+_)=8*(15+_)
  omega
 refine crc_finds _ _ hl2 a fun i hi=> ?_
 rw [← e,← e]
 by_cases hlt:i<8*(bytesF f).length
 ·rw [bitsB_get _ hlt,bitsB_get _ (by omega),k2 i hi]
 ·rw [List.getElem?_eq_none (by rw [bitsB_len]; omega),List.getElem?_eq_none (by rw [bitsB_len]; omega)]
end Go.Proofs.Ytfeepbajipdfaaa.T
namespace Go.Proofs.Ytfeepbajipdfaaa.T
open Go.Vm Go.Tm
set_option linter.unusedVariables false
set_option linter.unusedSimpArgs false
abbrev Up0:=Int × Int × Nat × Nat × Nat × Nat × List Fl × List Ed × Unit
def airAt (lo1 n1 lo2 n2:Nat) (F:List Fl) (L:List Ed):Ar:=((F.drop lo1).take n1,(L.drop lo2).take n2)
theorem linkS_up (a:Ar) (o:Op5) (p:Nat) (h:o.1=8):(linkS a o p).1=a.1:=by
 unfold linkS
 rw [if_neg (by omega)]
 split
 ·split
  ·rfl
  ·split<;>rfl
 ·rfl
theorem bends_l0 (ups:List Ed) (fs:List Fm) (l:List Op5) (hu:ups.length≤30):
  ∃ r:Bool × Int × Nat × Nat × Nat × Nat × List Fl × List Ed × Unit,loopR (HL.dflt [.bool,.int .i64,.nat,.nat,.nat,.nat,(.fl (.row (.prod (.int .i64) (.prod (.int .i64) (.prod (.fl (.int .u8)) .bool))))),(.fl (.row (.prod (.int .i64) (.prod (.int .i64) (.int .i64)))))]) (withylaw20_AirBends_l0 ups fs l) ((0:Int),(0:Int),(0:Nat),(0:Nat),(0:Nat),(0:Nat),([]:List Fl),([]:List Ed),())=(true,r)∧
   (r.2.1=0∧MayA (airAt r.2.2.1 r.2.2.2.1 r.2.2.2.2.1 r.2.2.2.2.2.1 r.2.2.2.2.2.2.1 r.2.2.2.2.2.2.2.1)∧(airAt r.2.2.1 r.2.2.2.1 r.2.2.2.2.1 r.2.2.2.2.2.1 r.2.2.2.2.2.2.1 r.2.2.2.2.2.2.2.1).1= []∧(airAt r.2.2.1 r.2.2.2.1 r.2.2.2.2.1 r.2.2.2.2.2.1 r.2.2.2.2.2.2.1 r.2.2.2.2.2.2.2.1).2.length≤30):=by
 refine loop_inv (d:=HL.dflt [.bool,.int .i64,.nat,.nat,.nat,.nat,(.fl (.row (.prod (.int .i64) (.prod (.int .i64) (.prod (.fl (.int .u8)) .bool))))),(.fl (.row (.prod (.int .i64) (.prod (.int .i64) (.int .i64)))))]) (step:=withylaw20_AirBends_l0 ups fs l)
  (fun s:Up0=>∃ i:Nat,i≤ups.length∧s.1=(i:Int)∧s.2.1=0∧MayA (airAt s.2.2.1 s.2.2.2.1 s.2.2.2.2.1 s.2.2.2.2.2.1 s.2.2.2.2.2.2.1 s.2.2.2.2.2.2.2.1)∧(airAt s.2.2.1 s.2.2.2.1 s.2.2.2.2.1 s.2.2.2.2.2.1 s.2.2.2.2.2.2.1 s.2.2.2.2.2.2.2.1).1= []∧(airAt s.2.2.1 s.2.2.2.1 s.2.2.2.2.1 s.2.2.2.2.2.1 s.2.2.2.2.2.2.1 s.2.2.2.2.2.2.2.1).2.length≤i)
  (fun s=>ups.length - s.1.toNat) _ ?_ _ ⟨0,by omega,rfl,rfl,may_nil,rfl,by simp [airAt]⟩
 rintro ⟨k,e,lo1,n1,lo2,n2,F,L,u⟩ ⟨i,hi,rfl,rfl,hm,hF,hL⟩
 dsimp only at hm hF hL ⊢
 by_cases hlt:i<ups.length
 ·left
  have hS:Small (airAt lo1 n1 lo2 n2 F L):=⟨by rw [hF]; simp,by omega,fun f hf=>by rw [hF] at hf; simp at hf⟩
  have hx:ups[i]? =some ups[i]:=List.getElem?_eq_getElem hlt
  obtain ⟨p,hp,q1,q2,q3,q4,q5,q6,q7⟩:=do_link (airAt lo1 n1 lo2 n2 F L) (8,ups[i].1,ups[i].2.1,0,ups[i].2.2) hS hm (.inl rfl)
  have hd0:doS (airAt lo1 n1 lo2 n2 F L) (8,ups[i].1,ups[i].2.1,0,ups[i].2.2) p=(linkS (airAt lo1 n1 lo2 n2 F L) (8,ups[i].1,ups[i].2.1,0,ups[i].2.2) p,fl0,false):=by
   unfold doS; rw [if_pos (.inl rfl)]
  rw [hd0] at q2 q3 q4 q6 q7
  have hmay:=linkS_may hm hp
  have hup:=linkS_up (airAt lo1 n1 lo2 n2 F L) (8,ups[i].1,ups[i].2.1,0,ups[i].2.2) p rfl
  have hlen:=(linkS_len (airAt lo1 n1 lo2 n2 F L) (8,ups[i].1,ups[i].2.1,0,ups[i].2.2) p).2
  have hw:IntKind.i64.wrap ((i:Int)+1)=((i+1:Nat):Int):=by rw [wrap_i64 (by omega) (by omega)]; omega
  generalize linkS (airAt lo1 n1 lo2 n2 F L) (8,ups[i].1,ups[i].2.1,0,ups[i].2.2) p=A at*
  generalize hz:air_Do_r (airAt lo1 n1 lo2 n2 F L) (8,ups[i].1,ups[i].2.1,0,ups[i].2.2)=z at*
  have hz':air_Do_r (((F.drop lo1).take n1),((L.drop lo2).take n2)) ((8:Int),(ups[i].1,(ups[i].2.1,((0:Int),ups[i].2.2))))=z:=hz
  refine ⟨(((i+1:Nat):Int),(0:Int),z.2.1,z.2.2.1,z.2.2.2.1,z.2.2.2.2.1,z.2.2.2.2.2.2.2.2.1,z.2.2.2.2.2.2.2.2.2,()),?_,⟨i+1,by omega,rfl,rfl,?_,?_,?_⟩,by show ups.length - (((i+1:Nat):Int)).toNat<ups.length - ((i:Int)).toNat; omega⟩
  ·unfold withylaw20_AirBends_l0 RGo
   simp only [decT (show (i:Int)<(ups.length:Int) by omega),Int.toNat_natCast,decT hlt,decT (show (0:Int)≤(i:Int) by omega),hx,Option.getD_some,hz',hw,q1,q5]
   exact ⟨rfl,rfl,trivial⟩
  ·show MayA (airOf z.2)
   rw [q2]; exact hmay
  ·show (airOf z.2).1= []
   rw [q2]; exact hup.trans hF
  ·show (airOf z.2).2.length≤_
   rw [q2]
   show A.2.length≤_
   omega
 ·right
  have:i=ups.length:=by omega
  subst this
  refine ⟨(true,(0:Int),lo1,n1,lo2,n2,F,L,()),?_,rfl,hm,hF,by show (airAt lo1 n1 lo2 n2 F L).2.length≤30; omega⟩
  unfold withylaw20_AirBends_l0 REnd
  simp only [decF (show ¬ (ups.length:Int)<(ups.length:Int) by omega)]
  refine ⟨?_,?_,?_⟩<;>first | rfl | trivial
theorem linkS_sub (a:Ar) (o:Op5) (p:Nat):∀ f∈(linkS a o p).1,f∈a.1:=by
 unfold linkS
 intro f hf
 split at hf
 ·split at hf
  ·exact (List.mem_filter.1 hf).1
  ·exact hf
 ·split at hf
  ·split at hf
   ·exact hf
   ·split at hf<;>exact hf
  ·exact hf
theorem putS_may {a:Ar} {f:Fl} (hm:MayA a) (hl:a.1.length≤1000):MayA (putS a f):=by
 classical
 unfold putS
 split
 ·rename_i h
  refine ⟨hm.1,hm.2.1,by show (a.1++ [f]).length≤16384; simp only [List.length_append,List.length_cons,List.length_nil]; omega,fun g hg=> ?_⟩
  rcases List.mem_append.1 hg with hg | hg
  ·exact hm.2.2.2 g hg
  ·rw [List.mem_singleton.1 hg]; exact h
 ·exact hm
theorem putS_mem {a:Ar} {f g:Fl} (h:g∈(putS a f).1):g∈a.1∨g=f:=by
 classical
 unfold putS at h
 split at h
 ·rcases List.mem_append.1 h with h | h
  ·exact .inl h
  ·exact .inr (List.mem_singleton.1 h)
 ·exact .inl h
theorem putS_len (a:Ar) (f:Fl):(putS a f).1.length≤a.1.length+1∧(putS a f).2=a.2:=by
 classical
 unfold putS
 split
 ·exact ⟨by simp,rfl⟩
 ·exact ⟨by omega,rfl⟩
def GoodF (put:List ByteArray) (f:Fl):Prop:=∃ fr:Fm,(∀ x∈fr.2.2.2.2,Byt x)∧fr.2.2.2.2.length≤100∧bytesOf (bytesF fr)∈put∧
 ((f.2.2.2=false∧f.2.2.1=bytesF fr)∨(f.2.2.2=true∧((∃ k,f.2.2.1=(bytesF fr).take k)∨∃ a p,f.2.2.1=biter (bytesF fr).length a p (bytesF fr) 32)))
theorem GoodF.small {put:List ByteArray} {f:Fl} (h:GoodF put f):f.2.2.1.length≤119∧∀ x∈f.2.2.1,Byt x:=by
 obtain ⟨fr,h1,h2,h3,h4⟩:=h
 have hl:=bytesF_len fr
 have hb:=bytesF_byt fr h1
 rcases h4 with ⟨_,e⟩ | ⟨_,⟨k,e⟩ | ⟨a,p,e⟩⟩
 ·rw [e]; exact ⟨by omega,hb⟩
 ·rw [e]; exact ⟨by rw [List.length_take]; omega,fun x hx=>hb x (List.mem_of_mem_take hx)⟩
 ·rw [e]; exact ⟨by rw [biter_len]; omega,(biter_bits _ a p (bytesF fr) hb rfl 32 (Nat.le_refl _)).1⟩
theorem GoodF.more {put put':List ByteArray} {f:Fl} (h:GoodF put f) (hp:∀ b∈put,b∈put'):GoodF put' f:=by
 obtain ⟨fr,h1,h2,h3,h4⟩:=h
 exact ⟨fr,h1,h2,hp _ h3,h4⟩
theorem GoodF.whole {put:List ByteArray} {f:Fl} (h:GoodF put f) {f':Fm} (hf':∀ x∈f'.2.2.2.2,Byt x) (he:f.2.2.1=bytesF f'):bytesOf f.2.2.1∈put:=by
 have hs:=h.small.1
 rw [he,bytesF_len] at hs
 obtain ⟨fr,h1,h2,h3,h4⟩:=h
 rcases h4 with ⟨_,e⟩ | ⟨_,⟨k,e⟩ | ⟨a,p,e⟩⟩
 ·rw [e]; exact h3
 ·have:=cut_whole (f:=fr) (f':=f') (k:=k) (by omega) (by omega) (by rw [← e]; exact he)
  rw [e,this]; exact h3
 ·have:=burst_whole (f:=fr) (f':=f') (a:=a) (p:=p) h1 hf' (by rw [← e]; exact he)
  rw [he,this]; exact h3
theorem bentS_good {put:List ByteArray} {f:Fl} (o:Op5) (h:GoodF put f):GoodF put (bentS f o):=by
 unfold bentS
 by_cases hb:f.2.2.2=true
 ·rw [if_pos hb]; exact h
 ·rw [if_neg hb]
  obtain ⟨fr,h1,h2,h3,h4⟩:=h
  rcases h4 with ⟨_,e⟩ | ⟨k,_⟩
  ·refine ⟨fr,h1,h2,h3,.inr ⟨rfl,?_⟩⟩
   show (∃ k,bentB f.2.2.1 o=(bytesF fr).take k)∨∃ a p,bentB f.2.2.1 o=biter (bytesF fr).length a p (bytesF fr) 32
   rw [e]
   have hne:¬ bytesF fr= []:=fun h=>by have:=bytesF_len fr; rw [h] at this; simp at this
   unfold bentB
   split
   ·exact .inl ⟨_,rfl⟩
   ·first
     | (rw [if_neg hne]; exact .inr ⟨_,_,rfl⟩)
     | exact .inr ⟨_,_,rfl⟩
  ·exact absurd k hb
theorem doS_good {put:List ByteArray} (a:Ar) (o:Op5) (p:Nat) (h:∀ f∈a.1,GoodF put f):(∀ f∈(doS a o p).1.1,GoodF put f)∧((doS a o p).2.2=true→GoodF put (doS a o p).2.1):=by
 have hat:¬ a.1.length=0→(a.1[actAt a o]?).getD fl0∈a.1:=fun h=>by
  have:actAt a o<a.1.length:=by
   unfold actAt
   have h1:=Int.emod_nonneg o.2.2.2.1 (show (a.1.length:Int)≠0 by omega)
   have h2:=Int.emod_lt_of_pos o.2.2.2.1 (show (0:Int)<a.1.length by omega)
   omega
  rw [getD_at _ this]
  exact List.getElem_mem this
 have hsub:∀ n,∀ f∈a.1.take n++a.1.drop (n+1),f∈a.1:=fun n f hf=>by
  rcases List.mem_append.1 hf with h | h
  ·exact List.mem_of_mem_take h
  ·exact List.mem_of_mem_drop h
 unfold doS
 by_cases h8:o.1=8∨o.1=9
 ·rw [if_pos h8]
  exact ⟨fun f hf=>h f (linkS_sub a o p f hf),fun h=>by cases h⟩
 ·rw [if_neg h8]
  by_cases hz:a.1.length=0∨o.1<2∨o.1>7
  ·rw [if_pos hz]
   exact ⟨h,fun h=>by cases h⟩
  ·rw [if_neg hz]
   have hat:=h _ (hat (fun h=>hz (.inl h)))
   by_cases k2:o.1=2
   ·rw [if_pos k2]
    exact ⟨fun f hf=>h f (hsub _ f hf),fun _=>hat⟩
   ·rw [if_neg k2]
    by_cases k3:o.1=3
    ·rw [if_pos k3]
     exact ⟨fun f hf=>h f (hsub _ f hf),fun h=>by cases h⟩
    ·rw [if_neg k3]
     by_cases k4:o.1=4
     ·rw [if_pos k4]
      refine ⟨fun f hf=> ?_,fun h=>by cases h⟩
      rcases List.mem_append.1 hf with hf | hf
      ·exact h f hf
      ·rw [List.mem_singleton.1 hf]; exact hat
     ·rw [if_neg k4]
      by_cases k5:o.1=5
      ·rw [if_pos k5]
       refine ⟨fun f hf=> ?_,fun h=>by cases h⟩
       rcases List.mem_append.1 hf with hf | hf
       ·exact h f (hsub _ f hf)
       ·rw [List.mem_singleton.1 hf]; exact hat
      ·rw [if_neg k5]
       refine ⟨fun f hf=> ?_,fun h=>by cases h⟩
       rcases List.mem_or_eq_of_mem_set hf with hf | hf
       ·exact h f hf
       ·rw [hf]; exact bentS_good o hat
abbrev SB:=Int × Int × Nat × Nat × Nat × Nat × List ByteArray × List Fl × List Ed × Unit
noncomputable def putsF (ups:List Ed) (fs:List Fm) (i:Nat):Bool:=cond (cond (cond (decide ((i:Int)<(fs.length:Int))) (decide ((ups.length:Int)>(0:Int))) false) (withyref03_May_r ((fs[i]?).getD ((0:Int),((0:Int),((0:Int),((0:Int),([]:List Int))))))).2 false) (decide ((((fs[i]?).getD ((0:Int),((0:Int),((0:Int),((0:Int),([]:List Int)))))).2.2.2.2.length:Int)≤(100:Int))) false
end Go.Proofs.Ytfeepbajipdfaaa.T
namespace Go.Proofs.Ytfeepbajipdfaaa.T
open Go.Vm Go.Tm
set_option linter.unusedVariables false
set_option linter.unusedSimpArgs false
def inBody (P:List ByteArray) (Bd:List Int) (s2:Int × Bool × Unit):Bool × Bool × (Int × Bool × Unit) × (Bool × Bool × Unit):=
 ((cond (decide (s2.1<(P.length:Int))) ((((((cond (!s2.2.1) ((!s2.2.1) && ((!s2.2.1) && ((decide ((0:Int)≤s2.1)) && (decide (Int.toNat s2.1<P.length))))) true) && (cond (!s2.2.1) ((!s2.2.1) && (decide (Int.toNat s2.1<P.length))) true)) && (cond (!s2.2.1) (!s2.2.1) true)) && (cond (!s2.2.1) (!s2.2.1) true)) && (cond (!s2.2.1) ((!s2.2.1) && (!s2.2.1)) true)) && (cond s2.2.1 true (!s2.2.1))) true),(decide (s2.1<(P.length:Int))),((IntKind.i64.wrap (s2.1+(1:Int))),(cond s2.2.1 true (((P[Int.toNat s2.1]?).getD ByteArray.empty)==bytesOf Bd)),()),((!(decide (s2.1<(P.length:Int)))),s2.2.1,()))
theorem in_r (P:List ByteArray) (Bd:List Int) (hl:P.length≤1000):∃ r:Bool × Bool × Unit,loopR (HL.dflt [.bool,.bool]) (inBody P Bd) ((0:Int),false,())=(true,r)∧(bytesOf Bd∈P→r.2.1=true):=by
 refine loop_inv (d:=HL.dflt [.bool,.bool]) (step:=inBody P Bd) (fun s:Int × Bool × Unit=>∃ i:Nat,i≤P.length∧s.1=(i:Int)∧(bytesOf Bd∈P→s.2.1=true∨bytesOf Bd∈P.drop i)) (fun s=>P.length - s.1.toNat) _ ?_ _ ⟨0,by omega,rfl,fun h=>.inr h⟩
 rintro ⟨k,b,u⟩ ⟨i,hi,rfl,hb⟩
 dsimp only at hb ⊢
 by_cases hlt:i<P.length
 ·left
  have hx:P[i]? =some P[i]:=List.getElem?_eq_getElem hlt
  have hw:IntKind.i64.wrap ((i:Int)+1)=((i+1:Nat):Int):=by rw [wrap_i64 (by omega) (by omega)]; omega
  refine ⟨(((i+1:Nat):Int),(cond b true (P[i]==bytesOf Bd)),()),?_,⟨i+1,by omega,rfl,fun hin=> ?_⟩,by show P.length - (((i+1:Nat):Int)).toNat<P.length - ((i:Int)).toNat; omega⟩
  ·unfold inBody RGo
   simp only [decT (show (i:Int)<(P.length:Int) by omega),Int.toNat_natCast,decT hlt,decT (show (0:Int)≤(i:Int) by omega),hx,Option.getD_some,hw]
   cases b<;>refine ⟨?_,?_,?_⟩<;>first | rfl | trivial
  ·rcases hb hin with hb | hb
   ·subst hb; exact .inl rfl
   ·rw [List.drop_eq_getElem_cons hlt] at hb
    rcases List.mem_cons.1 hb with hb | hb
    ·left
     show (cond b true (P[i]==bytesOf Bd))=true
     rw [← hb,bytes_refl]
     cases b<;>rfl
    ·exact .inr hb
 ·right
  have:i=P.length:=by omega
  subst this
  refine ⟨(true,b,()),?_,fun hin=> ?_⟩
  ·unfold inBody REnd
   simp only [decF (show ¬ (P.length:Int)<(P.length:Int) by omega)]
   refine ⟨?_,?_,?_⟩<;>first | rfl | trivial
  ·rcases hb hin with hb | hb
   ·exact hb
   ·rw [List.drop_length] at hb; cases hb
noncomputable def bytesAt (fs:List Fm) (i:Nat):List Int:=(withyref03_Bytes_r ((fs[i]?).getD ((0:Int),((0:Int),((0:Int),((0:Int),([]:List Int))))))).2
noncomputable def putAt (ups:List Ed) (fs:List Fm) (i:Nat) (put:List ByteArray):List ByteArray:=cond (putsF ups fs i) (put++(bytesOf (bytesAt fs i)::([]:List ByteArray))) put
def endsAt (ups:List Ed) (i:Nat):Ed:=(ups[Int.toNat (Int.tmod (i:Int) (ups.length:Int))]?).getD ((0:Int),((0:Int),(0:Int)))
noncomputable def airPut (ups:List Ed) (fs:List Fm) (i:Nat) (a:Ar):Bool × (Int × List Fl × List Ed):=air_Put_r a ((endsAt ups i).1,((endsAt ups i).2.1,(bytesAt fs i,false)))
noncomputable def airNext (ups:List Ed) (fs:List Fm) (i lo1 n1 lo2 n2:Nat) (F:List Fl) (L:List Ed):Ar:=
 (((cond (putsF ups fs i) (airPut ups fs i (airAt lo1 n1 lo2 n2 F L)).2.2.1 F).drop (cond (putsF ups fs i) 0 lo1)).take (cond (putsF ups fs i) (airPut ups fs i (airAt lo1 n1 lo2 n2 F L)).2.2.1.length n1),((cond (putsF ups fs i) (airPut ups fs i (airAt lo1 n1 lo2 n2 F L)).2.2.2 L).drop (cond (putsF ups fs i) 0 lo2)).take (cond (putsF ups fs i) (airPut ups fs i (airAt lo1 n1 lo2 n2 F L)).2.2.2.length n2))
noncomputable def doAt (ups:List Ed) (fs:List Fm) (l:List Op5) (i lo1 n1 lo2 n2:Nat) (F:List Fl) (L:List Ed):Bool × DoR:=air_Do_r (airNext ups fs i lo1 n1 lo2 n2 F L) ((l[i]?).getD ((0:Int),((0:Int),((0:Int),((0:Int),(0:Int))))))
theorem l2_is (ups:List Ed) (fs:List Fm) (l:List Op5) (i lo1 n1 lo2 n2:Nat) (e:Int) (put:List ByteArray) (F:List Fl) (L:List Ed) (u:Unit):
  withylaw20_AirBends_l2 ups fs l ((i:Int),e,lo1,n1,lo2,n2,put,F,L,u)=inBody (putAt ups fs i put) (doAt ups fs l i lo1 n1 lo2 n2 F L).2.2.2.2.2.1.2.2.1:=rfl
noncomputable def outBody (c94 c99e c100 c105r c106 c108:Bool) (c118:Bool × Bool) (c147r c149a c161 c16z c165 c157z:Bool) (c190:Bool × (Int × List Fl × List Ed)) (c201:Bool) (c220:Bool × DoR) (c230:Bool × (Fm × Int)) (c268:Bool × (Bool × Bool × Unit)) (wi e0:Int) (lo1 n1 lo2 n2:Nat) (put putp:List ByteArray) (F:List Fl) (L:List Ed):Bool × Bool × SB × (Bool × Bool × Nat × Nat × Nat × Nat × List Fl × List Ed × Bool × Int × Nat × Nat × Nat × Nat × List Fl × List Ed × Unit):=
 let c95:=(cond c94 c94 true)
 let c99:=(cond c94 c99e false)
 let c101:=(cond c100 c100 true)
 let c105:=(cond c100 c105r false)
 let c109:=(c106 && c108)
 let c126:=(cond c105 c118.2 false)
 let c131:=(cond c126 c126 true)
 let c147:=(cond c126 c147r false)
 let c166:=(c16z && c165)
 let c199:=((cond c147 c190.2.1 e0) !=(0:Int))
 let c200:=(!c199)
 let c204:=c190.2.2.1
 let c206:=(cond c147 c204.length n1)
 let c207:=(cond c147 0 lo1)
 let c208:=(cond c147 c204 F)
 let c211:=c190.2.2.2
 let c213:=(cond c147 c211.length n2)
 let c214:=(cond c147 0 lo2)
 let c215:=(cond c147 c211 L)
 let c224:=(!c220.2.2.2.2.2.2.1)
 let c225:=(!c224)
 let c233:=(c230.2.2 !=(0:Int))
 let c234:=(!c233)
 let c237:=(cond c147 putp put)
 let c279:=(!c268.2.2.1)
 let c283:=(c200 && (c225 && (c234 && (!c279))))
 let c289:=c220.2.2.2.2.2.2.2.1
 let c291:=c220.2.1
 let c293:=c220.2.2.1
 let c295:=c220.2.2.2.1
 let c297:=c220.2.2.2.2.1
 let c300:=c220.2.2.2.2.2.2.2.2.1
 let c302:=c220.2.2.2.2.2.2.2.2.2
 (((c95 && c95) && (cond c99 ((((((((((((((c101 && c101) && c101) && (cond c105 (c105 && (c105 && c109)) true)) && (cond c105 (c105 && c108) true)) && (cond c105 (c105 && c118.1) true)) && (cond c105 c105 true)) && (cond c126 (c126 && (c126 && c109)) true)) && c131) && (cond c126 (c126 && c108) true)) && c131) && c131) && c131) && (cond c147 (((c109 && c108) && c149a) && (c157z && ((((((c161 && c166) && c165) && c161) && c166) && c165) && c190.1))) true)) && (cond c200 ((((c106 && c201) && c201) && c220.1) && (cond c225 (c230.1 && (cond c234 c268.1 true)) true)) true)) true)),(c99 && (c283 || (c200 && (cond c225 c233 c224)))),(wi,(cond c283 c289 c289),(cond c283 c291 c291),(cond c283 c293 c293),(cond c283 c295 c295),(cond c283 c297 c297),(cond c283 c237 c237),(cond c283 c300 c300),(cond c283 c302 c302),()),((c99 && (cond c200 (c225 && (c234 && c279)) c199)),(cond c200 false false),(cond c200 c291 c207),(cond c200 c293 c206),(cond c200 c295 c214),(cond c200 c297 c213),(cond c200 c300 c208),(cond c200 c302 c215),(!c99),e0,lo1,n1,lo2,n2,F,L,()))
theorem l1_is (ups:List Ed) (fs:List Fm) (l:List Op5) (i lo1 n1 lo2 n2:Nat) (e:Int) (put:List ByteArray) (F:List Fl) (L:List Ed) (u:Unit):
  withylaw20_AirBends_l1 ups fs l ((i:Int),e,lo1,n1,lo2,n2,put,F,L,u)=outBody (decide ((i:Int)<(l.length:Int))) (e==(0:Int)) (decide ((i:Int)<(fs.length:Int))) (decide ((ups.length:Int)>(0:Int))) (decide ((0:Int)≤(i:Int))) (decide (i<fs.length)) (withyref03_May_r ((fs[i]?).getD fm0)) (decide ((((fs[i]?).getD fm0).2.2.2.2.length:Int)≤(100:Int))) (withyref03_Bytes_r ((fs[i]?).getD fm0)).1 ((ups.length:Int) !=(0:Int)) (decide ((0:Int)≤Int.tmod (i:Int) (ups.length:Int))) (decide (Int.toNat (Int.tmod (i:Int) (ups.length:Int))<ups.length)) (decide ((put.length+(bytesOf (bytesAt fs i)::([]:List ByteArray)).length)*16≤140737488355328)) (airPut ups fs i (airAt lo1 n1 lo2 n2 F L)) (decide (i<l.length)) (doAt ups fs l i lo1 n1 lo2 n2 F L) (withyref03_Decode_r (doAt ups fs l i lo1 n1 lo2 n2 F L).2.2.2.2.2.1.2.2.1) (loopD 2 [.int .i64,.bool] [.bool,.bool] (withylaw20_AirBends_l2 ups fs l ((i:Int),e,lo1,n1,lo2,n2,put,F,L,u)) ((0:Int),false,())) (IntKind.i64.wrap ((i:Int)+(1:Int))) e lo1 n1 lo2 n2 put (put++(bytesOf (bytesAt fs i)::([]:List ByteArray))) F L:=rfl
def BInv (i:Nat) (a:Ar) (put:List ByteArray):Prop:=MayA a∧a.1.length≤2*i∧a.2.length≤30+i∧put.length≤i∧∀ f∈a.1,GoodF put f
theorem put_step (ups:List Ed) (fs:List Fm) (i lo1 n1 lo2 n2:Nat) (put:List ByteArray) (F:List Fl) (L:List Ed) (hi:i≤150) (hb:∀ f∈fs,∀ x∈f.2.2.2.2,Byt x) (hT:BInv i (airAt lo1 n1 lo2 n2 F L) put):
  (putsF ups fs i=true→(airPut ups fs i (airAt lo1 n1 lo2 n2 F L)).1=true∧(airPut ups fs i (airAt lo1 n1 lo2 n2 F L)).2.1=0∧(withyref03_Bytes_r ((fs[i]?).getD fm0)).1=true∧i<fs.length∧0<ups.length)∧
  (putAt ups fs i put).length≤i+1∧MayA (airNext ups fs i lo1 n1 lo2 n2 F L)∧Small (airNext ups fs i lo1 n1 lo2 n2 F L)∧(airNext ups fs i lo1 n1 lo2 n2 F L).1.length≤2*i+1∧(airNext ups fs i lo1 n1 lo2 n2 F L).2.length≤30+i∧∀ f∈(airNext ups fs i lo1 n1 lo2 n2 F L).1,GoodF (putAt ups fs i put) f:=by
 obtain ⟨t1,t2,t3,t4,t5⟩:=hT
 have hS:Small (airAt lo1 n1 lo2 n2 F L):=⟨by omega,by omega,fun f hf=>by have:=(t5 f hf).small.1; omega⟩
 unfold putAt airNext
 cases hc:putsF ups fs i with
 | false=>
  refine ⟨fun h=>(by cases h),?_,t1,hS,?_,t3,t5⟩
  ·show put.length≤_
   omega
  ·show (airAt lo1 n1 lo2 n2 F L).1.length≤_
   omega
 | true=>
  have h1:i<fs.length:=by
   unfold putsF at hc
   by_cases h:(i:Int)<(fs.length:Int)
   ·omega
   ·rw [decF h] at hc; cases hc
  have h2:0<ups.length:=by
   unfold putsF at hc
   rw [decT (show (i:Int)<(fs.length:Int) by omega)] at hc
   by_cases h:(ups.length:Int)>0
   ·omega
   ·rw [decF h] at hc; cases hc
  have hx:fs[i]? =some fs[i]:=List.getElem?_eq_getElem h1
  have hmem:=hb fs[i] (List.getElem_mem h1)
  have h3:fs[i].2.2.2.2.length≤100:=by
   unfold putsF at hc
   rw [hx] at hc
   by_cases h:(fs[i].2.2.2.2.length:Int)≤100
   ·omega
   ·revert hc
    simp only [Option.getD_some,decF h]
    generalize (cond (cond (decide ((i:Int)<(fs.length:Int))) (decide ((ups.length:Int)>0)) false) (withyref03_May_r fs[i]).2 false)=q
    intro hc
    cases q<;>cases hc
  have hby:=bytes_r fs[i] (by omega)
  have hba:bytesAt fs i=bytesF fs[i]:=by
   unfold bytesAt
   rw [hx]
   exact congrArg Prod.snd hby
  have hgood:GoodF (put++ [bytesOf (bytesF fs[i])]) ((endsAt ups i).1,(endsAt ups i).2.1,bytesF fs[i],false):=⟨fs[i],hmem,h3,List.mem_append_right _ (.head _),.inl ⟨rfl,rfl⟩⟩
  have hp:airPut ups fs i (airAt lo1 n1 lo2 n2 F L)=(true,(0,(putS (airAt lo1 n1 lo2 n2 F L) ((endsAt ups i).1,(endsAt ups i).2.1,bytesF fs[i],false)).1,(putS (airAt lo1 n1 lo2 n2 F L) ((endsAt ups i).1,(endsAt ups i).2.1,bytesF fs[i],false)).2)):=by
   unfold airPut
   rw [hba]
   exact put_r _ _ hS t1 (by have:=hgood.small.1; show (bytesF fs[i]).length≤_; have h':(bytesF fs[i]).length≤119:=this; omega)
  rw [hba,hp]
  have hlen:=putS_len (airAt lo1 n1 lo2 n2 F L) ((endsAt ups i).1,(endsAt ups i).2.1,bytesF fs[i],false)
  have hmay:=putS_may (f:=((endsAt ups i).1,(endsAt ups i).2.1,bytesF fs[i],false)) t1 hS.1
  have hmem2:∀ g∈(putS (airAt lo1 n1 lo2 n2 F L) ((endsAt ups i).1,(endsAt ups i).2.1,bytesF fs[i],false)).1,g∈(airAt lo1 n1 lo2 n2 F L).1∨g=((endsAt ups i).1,(endsAt ups i).2.1,bytesF fs[i],false):=fun g hg=>putS_mem hg
  generalize putS (airAt lo1 n1 lo2 n2 F L) ((endsAt ups i).1,(endsAt ups i).2.1,bytesF fs[i],false)=A at hlen hmay hmem2 ⊢
  simp only [cond_true,List.drop_zero,List.take_length]
  have hg2:∀ f∈A.1,GoodF (put++ [bytesOf (bytesF fs[i])]) f:=fun f hf=>by
   rcases hmem2 f hf with h | h
   ·exact (t5 f h).more fun b hb=>List.mem_append_left _ hb
   ·rw [h]; exact hgood
  refine ⟨fun _=>⟨trivial,trivial,by rw [hx]; exact congrArg Prod.fst hby,h1,h2⟩,by simp only [List.length_append,List.length_cons,List.length_nil]; omega,hmay,⟨by show A.1.length≤1000; omega,by show A.2.length≤1000; rw [hlen.2]; omega,fun f hf=>by have:=(hg2 f hf).small.1; omega⟩,by show A.1.length≤_; omega,by show A.2.length≤_; rw [hlen.2]; exact t3,hg2⟩
theorem bends_l1 (ups:List Ed) (fs:List Fm) (l:List Op5) (hl:l.length≤150) (hb:∀ f∈fs,∀ x∈f.2.2.2.2,Byt x) (lo1 n1 lo2 n2:Nat) (F:List Fl) (L:List Ed) (ha:BInv 0 (airAt lo1 n1 lo2 n2 F L) []):
  ∃ r:Bool × Bool × Nat × Nat × Nat × Nat × List Fl × List Ed × Bool × Int × Nat × Nat × Nat × Nat × List Fl × List Ed × Unit,loopR (HL.dflt [.bool,.bool,.nat,.nat,.nat,.nat,(.fl (.row (.prod (.int .i64) (.prod (.int .i64) (.prod (.fl (.int .u8)) .bool))))),(.fl (.row (.prod (.int .i64) (.prod (.int .i64) (.int .i64))))),.bool,.int .i64,.nat,.nat,.nat,.nat,(.fl (.row (.prod (.int .i64) (.prod (.int .i64) (.prod (.fl (.int .u8)) .bool))))),(.fl (.row (.prod (.int .i64) (.prod (.int .i64) (.int .i64)))))]) (withylaw20_AirBends_l1 ups fs l) ((0:Int),(0:Int),lo1,n1,lo2,n2,([]:List ByteArray),F,L,())=(true,r)∧
   (r.2.2.2.2.2.2.2.2.1=true∧r.2.2.2.2.2.2.2.2.2.1=0):=by
 refine loop_inv (step:=withylaw20_AirBends_l1 ups fs l)
  (fun s:SB=>∃ i:Nat,i≤l.length∧s.1=(i:Int)∧s.2.1=0∧BInv i (airAt s.2.2.1 s.2.2.2.1 s.2.2.2.2.1 s.2.2.2.2.2.1 s.2.2.2.2.2.2.2.1 s.2.2.2.2.2.2.2.2.1) s.2.2.2.2.2.2.1)
  (fun s=>l.length - s.1.toNat) _ ?_ _ ⟨0,by omega,rfl,rfl,ha⟩
 rintro ⟨k,e,lo1,n1,lo2,n2,put,F,L,u⟩ ⟨i,hi,rfl,rfl,hT⟩
 dsimp only at hT ⊢
 by_cases hlt:i<l.length
 ·left
  have hw:IntKind.i64.wrap ((i:Int)+1)=((i+1:Nat):Int):=by rw [wrap_i64 (by omega) (by omega)]; omega
  have hxl:l[i]? =some l[i]:=List.getElem?_eq_getElem hlt
  have hpl:put.length≤i:=hT.2.2.2.1
  obtain ⟨g1,g2,g3,g4,g5,g6,g7⟩:=put_step ups fs i lo1 n1 lo2 n2 put F L (by omega) hb hT
  obtain ⟨p,hp,q1,q2,q3,q4,q5,q6,q7⟩:=do_r (airNext ups fs i lo1 n1 lo2 n2 F L) l[i] g4 g3
  have hgood:=doS_good (put:=putAt ups fs i put) (airNext ups fs i lo1 n1 lo2 n2 F L) l[i] p g7
  have hmay:=doS_may g4 g3 hp
  have hlen:=doS_len (airNext ups fs i lo1 n1 lo2 n2 F L) l[i] p
  generalize doS (airNext ups fs i lo1 n1 lo2 n2 F L) l[i] p=x at*
  obtain ⟨⟨aF,aL⟩,xf,xc⟩:=x
  dsimp only at q2 q3 q4 q6 q7 hgood hmay hlen
  have hdo:doAt ups fs l i lo1 n1 lo2 n2 F L=air_Do_r (airNext ups fs i lo1 n1 lo2 n2 F L) l[i]:=by unfold doAt; rw [hxl]; rfl
  obtain ⟨⟨r0,r1,ru⟩,el,hr1⟩:=in_r (putAt ups fs i put) (doAt ups fs l i lo1 n1 lo2 n2 F L).2.2.2.2.2.1.2.2.1 (by omega)
  rw [← l2_is ups fs l i lo1 n1 lo2 n2 0 put F L u] at el
  have el':loopD 2 [.int .i64,.bool] [.bool,.bool] (withylaw20_AirBends_l2 ups fs l ((i:Int),(0:Int),lo1,n1,lo2,n2,put,F,L,u)) ((0:Int),false,())=(true,r0,r1,ru):=el
  have hdec:xc=true→∃ f e,withyref03_Decode_r xf.2.2.1=(true,(f,e))∧(e=0→r1=true):=fun hc=>by
   have hg:=hgood.2 hc
   obtain ⟨f,e,d1,d2⟩:=decode_r xf.2.2.1 (by have:=hg.small.1; omega) hg.small.2
   refine ⟨f,e,d1,fun he=> ?_⟩
   obtain ⟨f',c1,c2⟩:=d2 he
   refine hr1 ?_
   rw [hdo,q3]
   exact hg.whole c1 c2
  refine ⟨(((i+1:Nat):Int),(0:Int),(doAt ups fs l i lo1 n1 lo2 n2 F L).2.1,(doAt ups fs l i lo1 n1 lo2 n2 F L).2.2.1,(doAt ups fs l i lo1 n1 lo2 n2 F L).2.2.2.1,(doAt ups fs l i lo1 n1 lo2 n2 F L).2.2.2.2.1,putAt ups fs i put,(doAt ups fs l i lo1 n1 lo2 n2 F L).2.2.2.2.2.2.2.2.1,(doAt ups fs l i lo1 n1 lo2 n2 F L).2.2.2.2.2.2.2.2.2,()),?_,⟨i+1,by omega,rfl,rfl,?_⟩,by show l.length - (((i+1:Nat):Int)).toNat<l.length - ((i:Int)).toNat; omega⟩
  ·have hPt:=fun h=>g1 h
   have hdo':(air_Do_r (airNext ups fs i lo1 n1 lo2 n2 F L) ((l[i]?).getD ((0:Int),((0:Int),((0:Int),((0:Int),(0:Int)))))))=doAt ups fs l i lo1 n1 lo2 n2 F L:=rfl
   rw [← hdo] at q1 q3 q4 q5
   have hs16:decide ((put.length+(bytesOf (bytesAt fs i)::([]:List ByteArray)).length)*16≤140737488355328)=true:=decT (by simp only [List.length_cons,List.length_nil]; omega)
   have htm:0<ups.length→decide ((0:Int)≤Int.tmod (i:Int) (ups.length:Int))=true∧decide (Int.toNat (Int.tmod (i:Int) (ups.length:Int))<ups.length)=true∧((ups.length:Int) !=(0:Int))=true:=fun h=>by
    have h1:=Int.emod_nonneg (i:Int) (show (ups.length:Int)≠0 by omega)
    have h2:=Int.emod_lt_of_pos (i:Int) (show (0:Int)<(ups.length:Int) by omega)
    rw [Int.tmod_eq_emod_of_nonneg (by omega)]
    exact ⟨decT h1,decT (by omega),bneI (by omega)⟩
   have hmok:=may_ok ((fs[i]?).getD fm0)
   have hc1:decide ((i:Int)<(fs.length:Int))=decide (i<fs.length):=by
    by_cases h:i<fs.length
    ·rw [decT h,decT (by omega)]
    ·rw [decF h,decF (by omega)]
   rw [l1_is,el']
   have hputp:putAt ups fs i put=cond (putsF ups fs i) (put++(bytesOf (bytesAt fs i)::([]:List ByteArray))) put:=rfl
   have hpf:putsF ups fs i=cond (cond (cond (decide (i<fs.length)) (decide ((ups.length:Int)>(0:Int))) false) (withyref03_May_r ((fs[i]?).getD fm0)).2 false) (decide ((((fs[i]?).getD fm0).2.2.2.2.length:Int)≤(100:Int))) false:=by rw [← hc1]; rfl
   rw [hputp]
   rw [hpf] at hPt ⊢
   unfold outBody RGo
   rw [hc1,decT (show (i:Int)<(l.length:Int) by omega),decT hlt,decT (show (0:Int)≤(i:Int) by omega),hs16,hw]
   generalize (withyref03_May_r ((fs[i]?).getD fm0))=m at hmok hPt ⊢
   obtain ⟨m1,m2⟩:=m
   have hmok:m1=true:=hmok
   subst hmok
   generalize airPut ups fs i (airAt lo1 n1 lo2 n2 F L)=PT at hPt ⊢
   generalize (withyref03_Bytes_r ((fs[i]?).getD fm0)).1=BO at hPt ⊢
   generalize decide ((((fs[i]?).getD fm0).2.2.2.2.length:Int)≤(100:Int))=d4 at hPt ⊢
   generalize put++(bytesOf (bytesAt fs i)::([]:List ByteArray))=PP
   have hdec':(doAt ups fs l i lo1 n1 lo2 n2 F L).2.2.2.2.2.2.1=true→∃ f e,withyref03_Decode_r (doAt ups fs l i lo1 n1 lo2 n2 F L).2.2.2.2.2.1.2.2.1=(true,(f,e))∧(e=0→r1=true):=fun h=>by rw [q3]; exact hdec (by rw [← q4]; exact h)
   generalize doAt ups fs l i lo1 n1 lo2 n2 F L=z at q1 q3 q4 q5 hdec' ⊢
   obtain ⟨z0,zl1,zn1,zl2,zn2,zf,zc,ze,zF,zL⟩:=z
   dsimp only at q1 q3 q4 q5 hdec' ⊢
   subst q1; subst q5
   have hfin:∀ (Y:Bool × (Fm × Int)),(zc=true→Y.1=true∧(Y.2.2=0→r1=true))→(zc=false∨(Y.2.2 !=(0:Int))=true∨((Y.2.2 !=(0:Int))=false∧r1=true)):=fun Y hY=>by
    cases hz:zc with
    | false=>exact .inl rfl
    | true=>
     by_cases hy:Y.2.2=0
     ·exact .inr (.inr ⟨by rw [hy]; rfl,(hY hz).2 hy⟩)
     ·exact .inr (.inl (bneI hy))
   have hY:zc=true→(withyref03_Decode_r zf.2.2.1).1=true∧((withyref03_Decode_r zf.2.2.1).2.2=0→r1=true):=fun hz=>by
    obtain ⟨f,e,d1,d2⟩:=hdec' hz
    rw [d1]; exact ⟨rfl,d2⟩
   have hthree:=hfin _ hY
   generalize withyref03_Decode_r zf.2.2.1=Y at hY hthree ⊢
   obtain ⟨Y1,Yf,Ye⟩:=Y
   dsimp only at hY hthree ⊢
   have hl0:∀ h:decide (i<fs.length)=true,i<fs.length:=fun h=>of_decide_eq_true h
   cases hd1:decide (i<fs.length) with
   | false=>
    rcases hthree with h | h | ⟨h,h'⟩
    ·subst h; refine ⟨?_,?_,?_⟩<;>first | rfl | trivial
    ·rw [h]
     cases zc with
     | false=>refine ⟨?_,?_,?_⟩<;>first | rfl | trivial
     | true=>rw [(hY rfl).1]; refine ⟨?_,?_,?_⟩<;>first | rfl | trivial
    ·rw [h,h']
     cases zc with
     | false=>refine ⟨?_,?_,?_⟩<;>first | rfl | trivial
     | true=>rw [(hY rfl).1]; refine ⟨?_,?_,?_⟩<;>first | rfl | trivial
   | true=>
    by_cases hu0:0<ups.length
    ·obtain ⟨w1,w2,w3⟩:=htm hu0
     rw [hd1,decT (show (ups.length:Int)>0 by omega)] at hPt
     rw [w1,w2,w3,decT (show (ups.length:Int)>0 by omega)]
     have hq:(cond (cond m2 d4 false) true false)=true→PT.1=true∧PT.2.1=0∧BO=true:=fun h=>by
      obtain ⟨x1,x2,x3,_⟩:=hPt (by revert h; cases m2<;>cases d4<;>simp)
      exact ⟨x1,x2,x3⟩
     obtain ⟨PT0,PT1,PTF,PTL⟩:=PT
     dsimp only at hq ⊢
     cases hm2:m2 with
     | false=>
      rcases hthree with h | h | ⟨h,h'⟩
      ·subst h; refine ⟨?_,?_,?_⟩<;>first | rfl | trivial
      ·rw [h]
       cases zc with
       | false=>refine ⟨?_,?_,?_⟩<;>first | rfl | trivial
       | true=>rw [(hY rfl).1]; refine ⟨?_,?_,?_⟩<;>first | rfl | trivial
      ·rw [h,h']
       cases zc with
       | false=>refine ⟨?_,?_,?_⟩<;>first | rfl | trivial
       | true=>rw [(hY rfl).1]; refine ⟨?_,?_,?_⟩<;>first | rfl | trivial
     | true=>
      cases hd4:d4 with
      | false=>
       rcases hthree with h | h | ⟨h,h'⟩
       ·subst h; refine ⟨?_,?_,?_⟩<;>first | rfl | trivial
       ·rw [h]
        cases zc with
        | false=>refine ⟨?_,?_,?_⟩<;>first | rfl | trivial
        | true=>rw [(hY rfl).1]; refine ⟨?_,?_,?_⟩<;>first | rfl | trivial
       ·rw [h,h']
        cases zc with
        | false=>refine ⟨?_,?_,?_⟩<;>first | rfl | trivial
        | true=>rw [(hY rfl).1]; refine ⟨?_,?_,?_⟩<;>first | rfl | trivial
      | true=>
       obtain ⟨x1,x2,x3⟩:=hq (by rw [hm2,hd4]; rfl)
       subst x1; subst x2; subst x3
       rcases hthree with h | h | ⟨h,h'⟩
       ·subst h; refine ⟨?_,?_,?_⟩<;>first | rfl | trivial
       ·rw [h]
        cases zc with
        | false=>refine ⟨?_,?_,?_⟩<;>first | rfl | trivial
        | true=>rw [(hY rfl).1]; refine ⟨?_,?_,?_⟩<;>first | rfl | trivial
       ·rw [h,h']
        cases zc with
        | false=>refine ⟨?_,?_,?_⟩<;>first | rfl | trivial
        | true=>rw [(hY rfl).1]; refine ⟨?_,?_,?_⟩<;>first | rfl | trivial
    ·rw [decF (show ¬ (ups.length:Int)>0 by omega)]
     rcases hthree with h | h | ⟨h,h'⟩
     ·subst h; refine ⟨?_,?_,?_⟩<;>first | rfl | trivial
     ·rw [h]
      cases zc with
      | false=>refine ⟨?_,?_,?_⟩<;>first | rfl | trivial
      | true=>rw [(hY rfl).1]; refine ⟨?_,?_,?_⟩<;>first | rfl | trivial
     ·rw [h,h']
      cases zc with
      | false=>refine ⟨?_,?_,?_⟩<;>first | rfl | trivial
      | true=>rw [(hY rfl).1]; refine ⟨?_,?_,?_⟩<;>first | rfl | trivial
  ·have hA:airAt (doAt ups fs l i lo1 n1 lo2 n2 F L).2.1 (doAt ups fs l i lo1 n1 lo2 n2 F L).2.2.1 (doAt ups fs l i lo1 n1 lo2 n2 F L).2.2.2.1 (doAt ups fs l i lo1 n1 lo2 n2 F L).2.2.2.2.1 (doAt ups fs l i lo1 n1 lo2 n2 F L).2.2.2.2.2.2.2.2.1 (doAt ups fs l i lo1 n1 lo2 n2 F L).2.2.2.2.2.2.2.2.2=(aF,aL):=by rw [hdo]; exact q2
   show BInv (i+1) (airAt _ _ _ _ _ _) _
   rw [hA]
   exact ⟨hmay,by show aF.length≤_; omega,by show aL.length≤_; omega,by omega,hgood.1⟩
 ·right
  have:i=l.length:=by omega
  subst this
  refine ⟨_,⟨?_,?_,rfl⟩,?_⟩
  ·unfold withylaw20_AirBends_l1
   simp only [decF (show ¬ (l.length:Int)<(l.length:Int) by omega)]
   rfl
  ·unfold withylaw20_AirBends_l1
   simp only [decF (show ¬ (l.length:Int)<(l.length:Int) by omega)]
   rfl
  ·unfold withylaw20_AirBends_l1
   simp only [decF (show ¬ (l.length:Int)<(l.length:Int) by omega)]
   refine ⟨?_,?_⟩<;>first | rfl | trivial
end Go.Proofs.Ytfeepbajipdfaaa.T
namespace Go.Proofs.Ytfeepbajipdfaaa.T
open Go.Vm Go.Tm
set_option linter.unusedVariables false
set_option linter.unusedSimpArgs false
theorem byt_of {x:Int} (h:wfD (.int .u8) x):Byt x:=by
 have h:(Lit.int .u8 x).wf=true:=h
 simp [Lit.wf,IntKind.bits,IntKind.signed,IntKind.min,IntKind.max] at h
 unfold Byt
 omega
theorem airBends_pure (ups:List Ed) (fs:List Fm) (l:List Op5) (_:wfD (.fl (.row (.prod (.int .i64) (.prod (.int .i64) (.int .i64))))) ups) (hf:wfD (.fl (.row (.prod (.int .i64) (.prod (.int .i64) (.prod (.int .i64) (.prod (.int .i64) (.fl (.int .u8)))))))) fs) (_:wfD (.fl (.row (.prod (.int .i64) (.prod (.int .i64) (.prod (.int .i64) (.prod (.int .i64) (.int .i64))))))) l):withylaw20_AirBends_r ups fs l=(true,true):=by
 have hb:∀ f∈fs,∀ x∈f.2.2.2.2,Byt x:=fun f hm x hx=>byt_of ((hf.2 f hm).2.2.2.2.2 x hx)
 unfold withylaw20_AirBends_r
 dsimp only
 simp only [awake_r]
 by_cases h1:(ups.length:Int)>20
 ·simp only [decT h1]; rfl
 ·by_cases h2:(fs.length:Int)>40
  ·simp only [decF h1,decT h2]; rfl
  ·by_cases h3:(l.length:Int)>150
   ·simp only [decF h1,decF h2,decT h3]; rfl
   ·obtain ⟨⟨f0,e0,lo1,n1,lo2,n2,F,L,u0⟩,k1,k2,k3,k4,k5⟩:=bends_l0 ups fs l (by omega)
    have k1':loopD 0 [.int .i64,.int .i64,.nat,.nat,.nat,.nat,(.fl (.row (.prod (.int .i64) (.prod (.int .i64) (.prod (.fl (.int .u8)) .bool))))),(.fl (.row (.prod (.int .i64) (.prod (.int .i64) (.int .i64)))))] [.bool,.int .i64,.nat,.nat,.nat,.nat,(.fl (.row (.prod (.int .i64) (.prod (.int .i64) (.prod (.fl (.int .u8)) .bool))))),(.fl (.row (.prod (.int .i64) (.prod (.int .i64) (.int .i64)))))] (withylaw20_AirBends_l0 ups fs l) ((0:Int),(0:Int),0,0,0,0,([]:List (Int × (Int × ((List Int) × Bool)))),([]:List (Int × (Int × Int))),())=_:=k1
    have k2:e0=0:=k2
    subst k2
    obtain ⟨r,j1,j2,j3⟩:=bends_l1 ups fs l (by omega) hb lo1 n1 lo2 n2 F L ⟨k3,by rw [show (airAt lo1 n1 lo2 n2 F L).1= [] from k4]; simp,by have:=k5; simpa using this,by simp,fun f hf=>by rw [show (airAt lo1 n1 lo2 n2 F L).1= [] from k4] at hf; simp at hf⟩
    have j1':loopD 1 [.int .i64,.int .i64,.nat,.nat,.nat,.nat,(.fl .str),(.fl (.row (.prod (.int .i64) (.prod (.int .i64) (.prod (.fl (.int .u8)) .bool))))),(.fl (.row (.prod (.int .i64) (.prod (.int .i64) (.int .i64)))))] [.bool,.bool,.nat,.nat,.nat,.nat,(.fl (.row (.prod (.int .i64) (.prod (.int .i64) (.prod (.fl (.int .u8)) .bool))))),(.fl (.row (.prod (.int .i64) (.prod (.int .i64) (.int .i64))))),.bool,.int .i64,.nat,.nat,.nat,.nat,(.fl (.row (.prod (.int .i64) (.prod (.int .i64) (.prod (.fl (.int .u8)) .bool))))),(.fl (.row (.prod (.int .i64) (.prod (.int .i64) (.int .i64)))))] (withylaw20_AirBends_l1 ups fs l) ((0:Int),(0:Int),lo1,n1,lo2,n2,([]:List ByteArray),F,L,())=_:=j1
    simp only [decF h1,decF h2,decF h3,k1',j1',j2,j3]
    rfl
end Go.Proofs.Ytfeepbajipdfaaa.T
