/- Numbers in order; the view of two; the order does not matter. -/
import Derived.Test.YtoaegfcmfkalfaaTVoP1
namespace Go.Proofs.Ytoaegfcmfkalfaa.T.I
open Go.Vm Go.Tm Go.Proofs.Ytoaegfcmfkalfaa.T Go.Proofs.Ytoaegfcmfkalfaa.T.Q
set_option linter.unusedVariables false
set_option linter.unusedSimpArgs false
abbrev lt (a b:Int):Prop:=a<b
theorem lt_asym (a b:Int) (h:lt a b):¬ lt b a:=by unfold lt at*; omega
theorem le_trans' (a b c:Int) (h:¬ lt b a) (h':¬ lt c b):¬ lt c a:=by unfold lt at*; omega
theorem le_anti (a b:Int) (h:¬ lt b a) (h':¬ lt a b):a=b:=by unfold lt at*; omega
theorem less_r (a b:Int):cmp_Less_int_r a b=(true,decide (lt a b)):=by
 unfold cmp_Less_int_r cmp_isNaN_int_r lt
 by_cases h:a<b<;>simp [h]
theorem ins_l1 (a:Nat) (b:Int) (L l:List Int) (i:Nat) (hai:a≤i) (hi:i<l.length) (hbig:l.length≤4611686018427387904) (h:InOrder lt a i l):
  (loopR (HL.dflt [.bool,(.fl (.int .i64))]) (slices_insertionSortOrdered_int_l1 (a:Int) b L) ((i:Int),l,())).1=true∧
  (fun r:Bool × List Int × Unit=>RP a (i+1) l r.2.1∧InOrder lt a (i+1) r.2.1) (loopR (HL.dflt [.bool,(.fl (.int .i64))]) (slices_insertionSortOrdered_int_l1 (a:Int) b L) ((i:Int),l,())).2:=by
 refine loopR_by (d:=HL.dflt [.bool,(.fl (.int .i64))]) (step:=slices_insertionSortOrdered_int_l1 (a:Int) b L) (fun s:Int × List Int × Unit=>∃ (j:Nat) (m:List Int),s=((j:Int),m,())∧a≤j∧j≤i∧RP a (i+1) l m∧InsAt lt a (i+1) j m) (fun s=>s.1.toNat) (fun r:Bool × List Int × Unit=>RP a (i+1) l r.2.1∧InOrder lt a (i+1) r.2.1) ((i:Int),l,()) ⟨i,l,rfl,hai,Nat.le_refl _,RP.refl _ _ _,InsAt.start h⟩ ?_
 rintro _ ⟨j,m,rfl,h1,h2,h3,h4⟩
 have hlen:=h3.len
 by_cases hj:a<j
 ·obtain ⟨k,rfl⟩:∃ k,j=k+1:=⟨j - 1,by omega⟩
  have hw:IntKind.i64.wrap (((k+1:Nat):Int) - 1)=(k:Int):=by rw [wrap_i64 (by omega) (by omega)]; omega
  have hx:m[k]? =some (m[k]'(by omega)):=List.getElem?_eq_getElem (by omega)
  have hy:m[k+1]? =some (m[k+1]'(by omega)):=List.getElem?_eq_getElem (by omega)
  generalize m[k]'(by omega)=x at hx
  generalize m[k+1]'(by omega)=y at hy
  have g1:(((k+1:Nat):Int)>(a:Int)):=by omega
  have g2:k+1<m.length:=by omega
  have g3:(0:Int)≤((k+1:Nat):Int):=by omega
  have g4:k<m.length:=by omega
  unfold slices_insertionSortOrdered_int_l1
  simp only [hw,Int.toNat_natCast,hx,hy,Option.getD_some,less_r,decT g1,decT g2,decT g3,decT g4,decT (show (0:Int)≤(k:Int) by omega),cond_true,Bool.and_true,Bool.true_and,List.length_set]
  by_cases hlt:lt y x
  ·simp only [decT hlt,cond_true,Bool.and_true]
   refine ⟨trivial,fun _=>⟨⟨k,_,rfl,by omega,by omega,h3.trans ?_,h4.step lt_asym (by omega) (by omega) hx hy hlt⟩,?_⟩,fun h=>by cases h⟩
   ·have:=RP.swap (d:=y) (l:=m) (a:=a) (b:=i+1) (i:=k+1) (j:=k) (by omega) (by omega) (by omega) (by omega) (by omega)
    rw [hx,hy] at this
    exact this
   ·show ((k:Int)).toNat<(((k+1:Nat):Int)).toNat
    omega
  ·simp only [decF hlt,cond_false,Bool.and_true]
   exact ⟨trivial,fun h=>(by cases h),fun _=>⟨h3,h4.stop le_trans' (by omega) (.inr ⟨x,y,hj,hx,hy,hlt⟩)⟩⟩
 ·have:j=a:=by omega
  subst this
  have g1:¬ ((j:Int)>(j:Int)):=by omega
  unfold slices_insertionSortOrdered_int_l1
  simp only [decF g1,cond_false,Bool.and_true]
  exact ⟨trivial,fun h=>(by cases h),fun _=>⟨h3,h4.stop le_trans' (by omega) (.inl rfl)⟩⟩
theorem ins_r (a b:Nat) (l:List Int) (hb:b≤l.length) (hab:a≤b) (hbig:l.length≤4611686018427387904):
  ∃ m,slices_insertionSortOrdered_int_r (a:Int) (b:Int) l=(true,m)∧RP a b l m∧InOrder lt a b m:=by
 have key:=loopR_by (d:=HL.dflt [.bool,(.fl (.int .i64))]) (step:=slices_insertionSortOrdered_int_l0 (a:Int) (b:Int) l)
  (fun s:Int × List Int × Unit=>∃ (i:Nat) (m:List Int),s=((i:Int),m,())∧a<i∧(i≤b∨i=a+1)∧RP a b l m∧InOrder lt a i m) (fun s=>b - s.1.toNat) (fun r:Bool × List Int × Unit=>RP a b l r.2.1∧InOrder lt a b r.2.1)
  (((a+1:Nat):Int),l,()) ⟨a+1,l,rfl,by omega,.inr rfl,RP.refl _ _ _,fun p q x y h1 h2 h3=>by omega⟩ (by
   rintro _ ⟨i,m,rfl,h1,h2,h3,h4⟩
   have hlen:=h3.len
   unfold slices_insertionSortOrdered_int_l0
   by_cases hi:i<b
   ·have g1:((i:Int)<(b:Int)):=by omega
    have hw:IntKind.i64.wrap ((i:Int)+1)=((i+1:Nat):Int):=by rw [wrap_i64 (by omega) (by omega)]; omega
    obtain ⟨k1,k2,k3⟩:=ins_l1 a (b:Int) l m i (by omega) (by omega) (by omega) h4
    simp only [decT g1,cond_true,hw,loopD_eq]
    exact ⟨k1,fun _=>⟨⟨i+1,_,rfl,by omega,by omega,h3.trans (k2.mono (Nat.le_refl _) (by omega)),k3⟩,by show b - (((i+1:Nat):Int)).toNat<b - ((i:Int)).toNat; omega⟩,fun h=>by cases h⟩
   ·have g1:¬ ((i:Int)<(b:Int)):=by omega
    simp only [decF g1,cond_false]
    exact ⟨trivial,fun h=>(by cases h),fun _=>⟨h3,fun p q x y e1 e2 e3=>h4 p q x y e1 e2 (by omega)⟩⟩)
 have hw:IntKind.i64.wrap ((a:Int)+1)=((a+1:Nat):Int):=by rw [wrap_i64 (by omega) (by omega)]; omega
 unfold slices_insertionSortOrdered_int_r
 simp only [hw,loopD_eq]
 exact ⟨_,Prod.ext key.1 rfl,key.2⟩
theorem rev_r (a b:Nat) (l:List Int) (hb:b≤l.length) (hab:a≤b) (hbig:l.length≤4611686018427387904):
  ∃ m,slices_reverseRangeOrdered_int_r (a:Int) (b:Int) l=(true,m)∧RP a b l m:=by
 have key:=loopR_by (d:=HL.dflt [.bool,(.fl (.int .i64))]) (step:=slices_reverseRangeOrdered_int_l0 (a:Int) (b:Int) l)
  (fun s:Int × Int × List Int × Unit=>∃ (j:Int) (i:Nat) (m:List Int),s=(j,(i:Int),m,())∧a≤i∧i≤b∧j<b∧ -1≤j∧RP a b l m) (fun s=>(s.1 - s.2.1).toNat) (fun r:Bool × List Int × Unit=>RP a b l r.2.1)
  ((b:Int) - 1,(a:Int),l,()) ⟨(b:Int) - 1,a,l,rfl,by omega,hab,by omega,by omega,RP.refl _ _ _⟩ (by
   rintro _ ⟨j,i,m,rfl,h1,h2,h3,h4,h5⟩
   have hlen:=h5.len
   unfold slices_reverseRangeOrdered_int_l0
   by_cases hi:(i:Int)<j
   ·obtain ⟨k,rfl⟩:∃ k:Nat,j=(k:Int):=⟨j.toNat,by omega⟩
    have hw1:IntKind.i64.wrap ((k:Int) - 1)=(k:Int) - 1:=wrap_i64 (by omega) (by omega)
    have hw2:IntKind.i64.wrap ((i:Int)+1)=((i+1:Nat):Int):=by rw [wrap_i64 (by omega) (by omega)]; omega
    simp only [decT hi,cond_true,hw1,hw2,Int.toNat_natCast,List.length_set,decT (show k<m.length by omega),decT (show i<m.length by omega),decT (show (0:Int)≤(k:Int) by omega),decT (show (0:Int)≤(i:Int) by omega),Bool.and_true]
    refine ⟨trivial,fun _=>⟨⟨(k:Int) - 1,i+1,_,rfl,by omega,by omega,by omega,by omega,h5.trans (RP.swap (by omega) (by omega) (by omega) (by omega) (by omega))⟩,?_⟩,fun h=>by cases h⟩
    show ((k:Int) - 1 - ((i+1:Nat):Int)).toNat<((k:Int) - (i:Int)).toNat
    omega
   ·simp only [decF hi,cond_false]
    exact ⟨trivial,fun h=>(by cases h),fun _=>h5⟩)
 have hw:IntKind.i64.wrap ((b:Int) - 1)=(b:Int) - 1:=wrap_i64 (by omega) (by omega)
 unfold slices_reverseRangeOrdered_int_r
 simp only [hw,loopD_eq]
 exact ⟨_,Prod.ext key.1 rfl,key.2⟩
theorem sift_r (f lo hi:Nat) (l:List Int) (hf:f+hi≤l.length) (hlo:lo≤hi) (hbig:l.length≤1152921504606846976) (h:Heaped lt f (lo+1) hi l):
  ∃ m,slices_siftDownOrdered_int_r (lo:Int) (hi:Int) (f:Int) l=(true,m)∧RP f (f+hi) l m∧Heaped lt f lo hi m:=by
 have key:=loopR_by (d:=HL.dflt [.bool,(.fl (.int .i64)),.bool,(.fl (.int .i64))]) (step:=slices_siftDownOrdered_int_l0 (lo:Int) (hi:Int) (f:Int) l)
  (fun s:Int × List Int × Unit=>∃ (k:Nat) (m:List Int),s=((k:Int),m,())∧lo≤k∧k≤hi∧RP f (f+hi) l m∧SiftAt lt f lo hi k m) (fun s=>hi - s.1.toNat) (fun r:Bool × List Int × Bool × List Int × Unit=>RP f (f+hi) l (cond r.2.2.1 r.2.2.2.1 r.2.1)∧Heaped lt f lo hi (cond r.2.2.1 r.2.2.2.1 r.2.1))
  ((lo:Int),l,()) ⟨lo,l,rfl,Nat.le_refl _,hlo,RP.refl _ _ _,SiftAt.start h⟩ (by
   rintro _ ⟨k,m,rfl,h1,h2,h3,h4⟩
   have hlen:=h3.len
   have w1:IntKind.i64.wrap ((2:Int)*(k:Int))=((2*k:Nat):Int):=by rw [wrap_i64 (by omega) (by omega)]; omega
   have w2:IntKind.i64.wrap (((2*k:Nat):Int)+1)=((2*k+1:Nat):Int):=by rw [wrap_i64 (by omega) (by omega)]; omega
   have w3:IntKind.i64.wrap (((2*k+1:Nat):Int)+1)=((2*k+2:Nat):Int):=by rw [wrap_i64 (by omega) (by omega)]; omega
   have w4:IntKind.i64.wrap ((f:Int)+((2*k+1:Nat):Int))=((f+(2*k+1):Nat):Int):=by rw [wrap_i64 (by omega) (by omega)]; omega
   have w5:IntKind.i64.wrap (((f+(2*k+1):Nat):Int)+1)=((f+(2*k+2):Nat):Int):=by rw [wrap_i64 (by omega) (by omega)]; omega
   have w6:IntKind.i64.wrap ((f:Int)+(k:Int))=((f+k:Nat):Int):=by rw [wrap_i64 (by omega) (by omega)]; omega
   have w7:IntKind.i64.wrap ((f:Int)+((2*k+2:Nat):Int))=((f+(2*k+2):Nat):Int):=by rw [wrap_i64 (by omega) (by omega)]; omega
   have nn:∀ n:Nat,(0:Int)≤(n:Int):=fun n=>by omega
   unfold slices_siftDownOrdered_int_l0
   by_cases hc:hi≤2*k+1
   ·have g1:((2*k+1:Nat):Int)≥(hi:Int):=by omega
    simp only [w1,w2,decT g1,Bool.not_true,cond_false,Bool.false_and]
    exact ⟨trivial,fun h=>(by cases h),fun _=>⟨h3,h4.stop fun c x y e1 e2=>by omega⟩⟩
   ·have g1:¬ ((2*k+1:Nat):Int)≥(hi:Int):=by omega
    have hx:m[f+k]? =some (m[f+k]'(by omega)):=List.getElem?_eq_getElem (by omega)
    have hy:m[f+(2*k+1)]? =some (m[f+(2*k+1)]'(by omega)):=List.getElem?_eq_getElem (by omega)
    generalize m[f+k]'(by omega)=x at hx
    generalize m[f+(2*k+1)]'(by omega)=y at hy
    have g2:f+(2*k+1)<m.length:=by omega
    have g3:f+k<m.length:=by omega
    have fin:∀ (c:Nat) (v:Int),(c=2*k+1∨c=2*k+2)→c<hi→m[f+c]? =some v→(∀ d z,(d=2*k+1∨d=2*k+2)→d<hi→m[f+d]? =some z→¬ lt v z)→
      (lt x v→(RP f (f+hi) l ((m.set (f+k) v).set (f+c) x)∧SiftAt lt f lo hi c ((m.set (f+k) v).set (f+c) x)))∧(¬ lt x v→Heaped lt f lo hi m):=by
     intro c v e1 e2 e3 e4
     refine ⟨fun hlt=>⟨h3.trans ?_,h4.step lt_asym h1 e1 e2 hx e3 hlt e4⟩,fun hlt=>h4.stop fun d u z d1 d2 d3 d4=> ?_⟩
     ·have:=RP.swap (d:=x) (l:=m) (a:=f) (b:=f+hi) (i:=f+k) (j:=f+c) (by omega) (by omega) (by omega) (by omega) (by omega)
      rw [hx,e3] at this
      exact this
     ·rw [hx] at d3; injection d3 with d3; subst d3
      exact le_trans' z v x (e4 d z d1 d2 d4) hlt
    by_cases hc2:2*k+2<hi
    ·have g4:((2*k+2:Nat):Int)<(hi:Int):=by omega
     have hz:m[f+(2*k+2)]? =some (m[f+(2*k+2)]'(by omega)):=List.getElem?_eq_getElem (by omega)
     generalize m[f+(2*k+2)]'(by omega)=z at hz
     have g5:f+(2*k+2)<m.length:=by omega
     by_cases hyz:lt y z
     ·have hfin:=fin (2*k+2) z (.inr rfl) hc2 hz (fun d u d1 d2 d3=>by
       rcases d1 with rfl | rfl
       ·rw [hy] at d3; injection d3 with d3; subst d3; exact lt_asym _ _ hyz
       ·rw [hz] at d3; injection d3 with d3; subst d3; exact fun hh=>lt_asym _ _ hh hh)
      simp only [w1,w2,w3,w4,w5,w6,w7,decF g1,decT g4,Int.toNat_natCast,hx,hy,hz,Option.getD_some,less_r,decT hyz,cond_true,decT (nn _),decT g2,decT g3,decT g5,Bool.not_false,Bool.and_true,Bool.true_and,List.length_set]
      by_cases hlt:lt x z
      ·simp only [decT hlt,Bool.not_true,Bool.not_false,cond_true]
       exact ⟨trivial,fun _=>⟨⟨2*k+2,_,rfl,by omega,by omega,(hfin.1 hlt).1,(hfin.1 hlt).2⟩,by show hi - (((2*k+2:Nat):Int)).toNat<hi - ((k:Int)).toNat; omega⟩,fun h=>by cases h⟩
      ·simp only [decF hlt,Bool.not_true,Bool.not_false,cond_false]
       exact ⟨trivial,fun h=>(by cases h),fun _=>⟨h3,hfin.2 hlt⟩⟩
     ·have hfin:=fin (2*k+1) y (.inl rfl) (by omega) hy (fun d u d1 d2 d3=>by
       rcases d1 with rfl | rfl
       ·rw [hy] at d3; injection d3 with d3; subst d3; exact fun hh=>lt_asym _ _ hh hh
       ·rw [hz] at d3; injection d3 with d3; subst d3; exact hyz)
      simp only [w1,w2,w3,w4,w5,w6,w7,decF g1,decT g4,Int.toNat_natCast,hx,hy,hz,Option.getD_some,less_r,decF hyz,cond_true,cond_false,decT (nn _),decT g2,decT g3,decT g5,Bool.not_false,Bool.and_true,Bool.true_and,List.length_set]
      by_cases hlt:lt x y
      ·simp only [decT hlt,Bool.not_true,Bool.not_false,cond_true]
       exact ⟨trivial,fun _=>⟨⟨2*k+1,_,rfl,by omega,by omega,(hfin.1 hlt).1,(hfin.1 hlt).2⟩,by show hi - (((2*k+1:Nat):Int)).toNat<hi - ((k:Int)).toNat; omega⟩,fun h=>by cases h⟩
      ·simp only [decF hlt,Bool.not_true,Bool.not_false,cond_false]
       exact ⟨trivial,fun h=>(by cases h),fun _=>⟨h3,hfin.2 hlt⟩⟩
    ·have g4:¬ ((2*k+2:Nat):Int)<(hi:Int):=by omega
     have hfin:=fin (2*k+1) y (.inl rfl) (by omega) hy (fun d u d1 d2 d3=>by
      rcases d1 with rfl | rfl
      ·rw [hy] at d3; injection d3 with d3; subst d3; exact fun hh=>lt_asym _ _ hh hh
      ·omega)
     simp only [w1,w2,w3,w4,w5,w6,w7,decF g1,decF g4,Int.toNat_natCast,hx,hy,Option.getD_some,less_r,cond_true,cond_false,decT (nn _),decT g2,decT g3,Bool.not_false,Bool.and_true,Bool.true_and,Bool.false_and,List.length_set]
     by_cases hlt:lt x y
     ·simp only [decT hlt,Bool.not_true,Bool.not_false,cond_true]
      exact ⟨trivial,fun _=>⟨⟨2*k+1,_,rfl,by omega,by omega,(hfin.1 hlt).1,(hfin.1 hlt).2⟩,by show hi - (((2*k+1:Nat):Int)).toNat<hi - ((k:Int)).toNat; omega⟩,fun h=>by cases h⟩
     ·simp only [decF hlt,Bool.not_true,Bool.not_false,cond_false]
      exact ⟨trivial,fun h=>(by cases h),fun _=>⟨h3,hfin.2 hlt⟩⟩)
 unfold slices_siftDownOrdered_int_r
 simp only [loopD_eq]
 exact ⟨_,Prod.ext key.1 rfl,key.2⟩
theorem heap_l0 (a b:Nat) (L l:List Int) (hb:b≤l.length) (hab:a≤b) (hbig:l.length≤1152921504606846976) (i0:Nat) (hi0:i0≤b - a) (h0:Heaped lt a (i0+1) (b - a) l):
  (loopR (HL.dflt [.bool,(.fl (.int .i64))]) (slices_heapSortOrdered_int_l0 (a:Int) (b:Int) L) ((i0:Int),l,())).1=true∧
  (fun r:Bool × List Int × Unit=>RP a b l r.2.1∧Heaped lt a 0 (b - a) r.2.1) (loopR (HL.dflt [.bool,(.fl (.int .i64))]) (slices_heapSortOrdered_int_l0 (a:Int) (b:Int) L) ((i0:Int),l,())).2:=by
 refine loopR_by (d:=HL.dflt [.bool,(.fl (.int .i64))]) (step:=slices_heapSortOrdered_int_l0 (a:Int) (b:Int) L)
  (fun s:Int × List Int × Unit=>∃ (i:Int) (m:List Int),s=(i,m,())∧ -1≤i∧i≤((b - a:Nat):Int)∧RP a b l m∧Heaped lt a (i+1).toNat (b - a) m) (fun s=>(s.1+1).toNat) (fun r:Bool × List Int × Unit=>RP a b l r.2.1∧Heaped lt a 0 (b - a) r.2.1) ((i0:Int),l,())
  ⟨i0,l,rfl,by omega,by omega,RP.refl _ _ _,by rw [show ((i0:Int)+1).toNat=i0+1 by omega]; exact h0⟩ ?_
 rintro _ ⟨i,m,rfl,h1,h2,h3,h4⟩
 have hlen:=h3.len
 have w1:IntKind.i64.wrap ((b:Int) - (a:Int))=((b - a:Nat):Int):=by rw [wrap_i64 (by omega) (by omega)]; omega
 unfold slices_heapSortOrdered_int_l0
 by_cases hi:i≥0
 ·obtain ⟨k,rfl⟩:∃ k:Nat,i=(k:Int):=⟨i.toNat,by omega⟩
  have w2:IntKind.i64.wrap ((k:Int) - 1)=(k:Int) - 1:=wrap_i64 (by omega) (by omega)
  obtain ⟨m',e1,e2,e3⟩:=sift_r a k (b - a) m (by omega) (by omega) (by omega) (by rw [show ((k:Int)+1).toNat=k+1 by omega] at h4; exact h4)
  simp only [decT hi,cond_true,w1,w2,e1]
  refine ⟨trivial,fun _=>⟨⟨(k:Int) - 1,m',rfl,by omega,by omega,h3.trans (e2.mono (Nat.le_refl _) (by omega)),by rw [show ((k:Int) - 1+1).toNat=k by omega]; exact e3⟩,?_⟩,fun h=>by cases h⟩
  show ((k:Int) - 1+1).toNat<((k:Int)+1).toNat
  omega
 ·simp only [decF hi,cond_false]
  exact ⟨trivial,fun h=>(by cases h),fun _=>⟨h3,by rw [show (i+1).toNat=0 by omega] at h4; exact h4⟩⟩
theorem lt_irr (x:Int):¬ lt x x:=fun h=>lt_asym _ _ h h
structure Out1 (a b n:Nat) (m:List Int):Prop where
 heap:Heaped lt a 0 n m
 back:InOrder lt (a+n) b m
 cross:∀ p q x y,a≤p→p<a+n→a+n≤q→q<b→m[p]? =some x→m[q]? =some y→¬ lt y x
theorem Out1.step {a b k:Nat} {m m':List Int} {x0 z:Int} (h:Out1 a b (k+1) m) (hb:b≤m.length) (hk:a+k<b) (hx:m[a]? =some x0) (hz:m[a+k]? =some z) (hrp:RP a (a+k) ((m.set a z).set (a+k) x0) m') (hhp:Heaped lt a 0 k m'):Out1 a b k m':=by
 have e0:((m.set a z).set (a+k) x0)[a+k]? =some x0:=List.getElem?_set_self (by simp; omega)
 have e1:∀ p,p≠a→p≠a+k→((m.set a z).set (a+k) x0)[p]? =m[p]? :=fun p h1 h2=>by
  rw [List.getElem?_set_ne (by omega),List.getElem?_set_ne (by omega)]
 have hback:∀ q,a+k≤q→m'[q]? =((m.set a z).set (a+k) x0)[q]? :=fun q hq=>hrp.out q (.inr hq)
 have htop:∀ p x,a≤p→p<a+(k+1)→m[p]? =some x→¬ lt x0 x:=fun p x h1 h2 hp=>
  heap_top lt_irr le_trans' h.heap hx (by omega) (p - a) x (by omega) (by rw [show a+(p - a)=p by omega]; exact hp)
 refine ⟨hhp,fun p q x y h1 h2 h3 hp hq=> ?_,fun p q x y h1 h2 h3 h4 hp hq=> ?_⟩
 ·rw [hback p h1] at hp
  rw [hback q (by omega),e1 q (by omega) (by omega)] at hq
  by_cases hpk:p=a+k
  ·subst hpk
   rw [e0] at hp; injection hp with hp; subst hp
   exact h.cross a q x0 y (Nat.le_refl _) (by omega) (by omega) h3 hx hq
  ·rw [e1 p (by omega) hpk] at hp
   exact h.back p q x y (by omega) h2 h3 hp hq
 ·rw [hback q h3] at hq
  refine hrp.all (P:=fun x=>¬ lt y x) (fun p x h1 h2 hp=> ?_) p x h1 h2 hp
  have hm:∃ p',a≤p'∧p'<a+(k+1)∧m[p']? =some x:=by
   by_cases hpa:p=a
   ·subst hpa
    rw [List.getElem?_set_ne (by omega),List.getElem?_set_self (by omega)] at hp
    injection hp with hp; subst hp
    exact ⟨p+k,by omega,by omega,hz⟩
   ·rw [e1 p hpa (by omega)] at hp
    exact ⟨p,h1,by omega,hp⟩
  obtain ⟨p',g1,g2,g3⟩:=hm
  by_cases hqk:q=a+k
  ·subst hqk
   rw [e0] at hq; injection hq with hq; subst hq
   exact htop p' x g1 g2 g3
  ·rw [e1 q (by omega) hqk] at hq
   exact h.cross p' q x y g1 g2 (by omega) h4 g3 hq
theorem heap_l1 (a b:Nat) (L l:List Int) (hb:b≤l.length) (hab:a≤b) (hbig:l.length≤1152921504606846976) (h0:Heaped lt a 0 (b - a) l):
  (loopR (HL.dflt [.bool,(.fl (.int .i64))]) (slices_heapSortOrdered_int_l1 (a:Int) (b:Int) L) (((b - a:Nat):Int) - 1,l,())).1=true∧
  (fun r:Bool × List Int × Unit=>RP a b l r.2.1∧InOrder lt a b r.2.1) (loopR (HL.dflt [.bool,(.fl (.int .i64))]) (slices_heapSortOrdered_int_l1 (a:Int) (b:Int) L) (((b - a:Nat):Int) - 1,l,())).2:=by
 refine loopR_by (d:=HL.dflt [.bool,(.fl (.int .i64))]) (step:=slices_heapSortOrdered_int_l1 (a:Int) (b:Int) L)
  (fun s:Int × List Int × Unit=>∃ (n:Nat) (m:List Int),s=((n:Int) - 1,m,())∧n≤b - a∧RP a b l m∧Out1 a b n m) (fun s=>(s.1+1).toNat) (fun r:Bool × List Int × Unit=>RP a b l r.2.1∧InOrder lt a b r.2.1) (((b - a:Nat):Int) - 1,l,())
  ⟨b - a,l,rfl,Nat.le_refl _,RP.refl _ _ _,⟨h0,fun p q x y h1 h2 h3=>by omega,fun p q x y h1 h2 h3 h4=>by omega⟩⟩ ?_
 rintro _ ⟨n,m,rfl,h2,h3,h4⟩
 have hlen:=h3.len
 unfold slices_heapSortOrdered_int_l1
 cases n with
 | zero=>
  have g:¬ ((0:Nat):Int) - 1≥0:=by omega
  simp only [decF g,cond_false]
  exact ⟨trivial,fun h=>(by cases h),fun _=>⟨h3,h4.back⟩⟩
 | succ k=>
  have hk:((k+1:Nat):Int) - 1=(k:Int):=by omega
  have g:(k:Int)≥0:=by omega
  have w1:IntKind.i64.wrap ((a:Int)+(k:Int))=((a+k:Nat):Int):=by rw [wrap_i64 (by omega) (by omega)]; omega
  have w2:IntKind.i64.wrap ((k:Int) - 1)=(k:Int) - 1:=wrap_i64 (by omega) (by omega)
  have hx:m[a]? =some (m[a]'(by omega)):=List.getElem?_eq_getElem (by omega)
  have hz:m[a+k]? =some (m[a+k]'(by omega)):=List.getElem?_eq_getElem (by omega)
  generalize m[a]'(by omega)=x0 at hx
  generalize m[a+k]'(by omega)=z at hz
  have hsw:RP a b m ((m.set a z).set (a+k) x0):=by
   have:=RP.swap (d:=z) (l:=m) (a:=a) (b:=b) (i:=a) (j:=a+k) (by omega) (by omega) (by omega) (by omega) (by omega)
   rw [hx,hz] at this
   exact this
  obtain ⟨m',e1,e2,e3⟩:=sift_r a 0 k ((m.set a z).set (a+k) x0) (by simp; omega) (by omega) (by simp; omega) (fun r c x y k1 k2 k3 hr hc=>by
   rw [List.getElem?_set_ne (by omega),List.getElem?_set_ne (by omega)] at hr hc
   exact h4.heap r c x y (by omega) k2 (by omega) hr hc)
  have e1':slices_siftDownOrdered_int_r (0:Int) (k:Int) (a:Int) ((m.set a z).set (a+k) x0)=(true,m'):=e1
  simp only [hk,decT g,cond_true,w1,w2,Int.toNat_natCast,hx,hz,Option.getD_some,e1',decT (show (0:Int)≤((a+k:Nat):Int) by omega),decT (show (0:Int)≤(a:Int) by omega),List.length_set,decT (show a+k<m.length by omega),decT (show a<m.length by omega),Bool.and_true]
  refine ⟨trivial,fun _=>⟨⟨k,m',rfl,by omega,(h3.trans hsw).trans (e2.mono (Nat.le_refl _) (by omega)),h4.step (by omega) (by omega) hx hz e2 e3⟩,?_⟩,fun h=>by cases h⟩
  show ((k:Int) - 1+1).toNat<((k:Int)+1).toNat
  omega
theorem heap_r (a b:Nat) (l:List Int) (hb:b≤l.length) (hab:a≤b) (hbig:l.length≤1152921504606846976):
  ∃ m,slices_heapSortOrdered_int_r (a:Int) (b:Int) l=(true,m)∧RP a b l m∧InOrder lt a b m:=by
 have w1:IntKind.i64.wrap ((b:Int) - (a:Int))=((b - a:Nat):Int):=by rw [wrap_i64 (by omega) (by omega)]; omega
 have w2:IntKind.i64.wrap (((b - a:Nat):Int) - 1)=((b - a:Nat):Int) - 1:=wrap_i64 (by omega) (by omega)
 have hd:Int.tdiv (((b - a:Nat):Int) - 1) 2=(((b - a - 1) / 2:Nat):Int):=by
  by_cases h0:b - a=0
  ·rw [h0]; rfl
  ·rw [show ((b - a:Nat):Int) - 1=((b - a - 1:Nat):Int) by omega]; rfl
 have w3:IntKind.i64.wrap ((((b - a - 1) / 2:Nat):Int))=(((b - a - 1) / 2:Nat):Int):=wrap_i64 (by omega) (by omega)
 obtain ⟨k1,k2,k3⟩:=heap_l0 a b l l hb hab hbig ((b - a - 1) / 2) (by omega) (fun r c x y h1 h2 h3=>by omega)
 have hlen:=k2.len
 obtain ⟨m1,m2,m3⟩:=heap_l1 a b l _ (by omega) hab (by omega) k3
 unfold slices_heapSortOrdered_int_r
 simp only [w1,w2,hd,w3,loopD_eq]
 exact ⟨_,Prod.ext (by show ((((2:Int) !=(0:Int)) && _) && _)=true; rw [k1,m1]; rfl) rfl,k2.trans m2,m3⟩
theorem part_l3 (a:Nat) (b' pv:Int) (L m:List Int) (i0 J:Nat) (p:Int) (hp:m[a]? =some p) (hi:i0≤J) (hJ:J≤m.length) (hbig:m.length≤1152921504606846976):
  ∃ i,i0≤i∧i≤J∧(∀ k,i0≤k→k<i→∃ x,m[k]? =some x∧lt x p)∧(i=J∨¬ ∃ x,m[i]? =some x∧lt x p)∧
   loopR (HL.dflt [.bool,.int .i64]) (slices_partitionOrdered_int_l3 (a:Int) b' pv L ((i0:Int),(J:Int) - 1,m,())) ((i0:Int),())=(true,(true,(i:Int),())):=by
 have ha:a<m.length:=(List.getElem?_eq_some_iff.1 hp).1
 refine scan_up J (fun k=>∃ x,m[k]? =some x∧lt x p) (fun i=>(true,(i:Int),())) i0 hi (fun i h1 h2 h3=> ?_) (fun i h1 h2 h3=> ?_)
 ·obtain ⟨x,hx,hlt⟩:=h3
  have g1:(i:Int)≤(J:Int) - 1:=by omega
  have hw:IntKind.i64.wrap ((i:Int)+1)=((i+1:Nat):Int):=by rw [wrap_i64 (by omega) (by omega)]; omega
  unfold slices_partitionOrdered_int_l3 RGo
  simp only [decT g1,hw,Int.toNat_natCast,hx,hp,Option.getD_some,less_r,decT hlt,decT ha,decT (show i<m.length by omega),decT (show (0:Int)≤(i:Int) by omega),decT (show (0:Int)≤(a:Int) by omega),cond_true,Bool.and_true,Bool.not_true,and_self]
 ·unfold slices_partitionOrdered_int_l3 REnd
  rcases Nat.lt_or_ge i J with hlt | hge
  ·have g1:(i:Int)≤(J:Int) - 1:=by omega
   have hx:m[i]? =some (m[i]'(by omega)):=List.getElem?_eq_getElem (by omega)
   generalize m[i]'(by omega)=x at hx
   have hn:¬ lt x p:=fun hh=>by
    rcases h3 with h3 | h3
    ·omega
    ·exact h3 ⟨x,hx,hh⟩
   simp only [decT g1,Int.toNat_natCast,hx,hp,Option.getD_some,less_r,decF hn,decT ha,decT (show i<m.length by omega),decT (show (0:Int)≤(i:Int) by omega),decT (show (0:Int)≤(a:Int) by omega),cond_true,Bool.and_true,Bool.not_false,and_self]
  ·have g1:¬ (i:Int)≤(J:Int) - 1:=by omega
   simp only [decF g1,cond_false,Bool.and_true,Bool.not_false,and_self]
theorem part_l4 (a:Nat) (b' pv:Int) (L m:List Int) (i0 i J:Nat) (p:Int) (hp:m[a]? =some p) (hi:i≤J) (hJ:J≤m.length) (hbig:m.length≤1152921504606846976)
  (h3:loopR (HL.dflt [.bool,.int .i64]) (slices_partitionOrdered_int_l3 (a:Int) b' pv L ((i0:Int),(J:Int) - 1,m,())) ((i0:Int),())=(true,(true,(i:Int),()))):
  ∃ j,i≤j∧j≤J∧(∀ k,j≤k→k<J→¬ ∃ x,m[k]? =some x∧lt x p)∧(j=i∨∃ k,j=k+1∧i≤k∧¬ ¬ ∃ x,m[k]? =some x∧lt x p)∧
   loopR (HL.dflt [.bool,.int .i64]) (slices_partitionOrdered_int_l4 (a:Int) b' pv L ((i0:Int),(J:Int) - 1,m,())) ((J:Int) - 1,())=(true,(true,(j:Int) - 1,())):=by
 have ha:a<m.length:=(List.getElem?_eq_some_iff.1 hp).1
 refine scan_down i (fun k=>¬ ∃ x,m[k]? =some x∧lt x p) (fun j=>(true,(j:Int) - 1,())) J hi (fun j h1 h2 h4=> ?_) (fun j h1 h2 h4=> ?_)
 ·have hx:m[j]? =some (m[j]'(by omega)):=List.getElem?_eq_getElem (by omega)
  generalize m[j]'(by omega)=x at hx
  have hn:¬ lt x p:=fun hh=>h4 ⟨x,hx,hh⟩
  have g1:(i:Int)≤((j+1:Nat):Int) - 1:=by omega
  have hw:IntKind.i64.wrap (((j+1:Nat):Int) - 1 - 1)=(j:Int) - 1:=by rw [wrap_i64 (by omega) (by omega)]; omega
  have hj:(((j+1:Nat):Int) - 1).toNat=j:=by omega
  unfold slices_partitionOrdered_int_l4 RGo
  simp only [loopD_eq,h3,decT g1,hw,hj,hx,hp,Int.toNat_natCast,Option.getD_some,less_r,decF hn,decT ha,decT (show j<m.length by omega),decT (show (0:Int)≤((j+1:Nat):Int) - 1 by omega),decT (show (0:Int)≤(a:Int) by omega),cond_true,Bool.and_true,Bool.not_false,Bool.not_true,and_self]
 ·unfold slices_partitionOrdered_int_l4 REnd
  rcases h4 with h4 | ⟨k,rfl,h5,h6⟩
  ·have g1:¬ (i:Int)≤(j:Int) - 1:=by omega
   simp only [loopD_eq,h3,decF g1,cond_false,Bool.and_true,Bool.not_false,and_self]
  ·obtain ⟨x,hx,hlt⟩:=Classical.not_not.1 h6
   have g1:(i:Int)≤((k+1:Nat):Int) - 1:=by omega
   have hj:(((k+1:Nat):Int) - 1).toNat=k:=by omega
   simp only [loopD_eq,h3,decT g1,hj,hx,hp,Int.toNat_natCast,Option.getD_some,less_r,decT hlt,decT ha,decT (show k<m.length by omega),decT (show (0:Int)≤((k+1:Nat):Int) - 1 by omega),decT (show (0:Int)≤(a:Int) by omega),cond_true,Bool.and_true,Bool.not_false,Bool.not_true,and_self]
theorem part_l2 (a b:Nat) (b' pv:Int) (L l:List Int) (i0 J:Nat) (p:Int) (hi0:a<i0) (hi:i0≤J) (hJ:J≤b) (hb:b≤l.length) (hbig:l.length≤1152921504606846976) (hp:l[a]? =some p) (hpa:PartAt (fun x=>lt x p) (a+1) i0 J b l):
  ∃ (k:Nat) (m:List Int),loopR (HL.dflt [.bool,.int .i64,(.fl (.int .i64))]) (slices_partitionOrdered_int_l2 (a:Int) b' pv L) ((i0:Int),(J:Int) - 1,l,())=(true,(true,(k:Int),m,()))∧
   a≤k∧k<b∧RP (a+1) b l m∧PartAt (fun x=>lt x p) (a+1) (k+1) (k+1) b m:=by
 have key:=loopR_by (d:=HL.dflt [.bool,.int .i64,(.fl (.int .i64))]) (step:=slices_partitionOrdered_int_l2 (a:Int) b' pv L)
  (fun s:Int × Int × List Int × Unit=>∃ (i j:Nat) (m:List Int),s=((i:Int),(j:Int) - 1,m,())∧a<i∧i≤j∧j≤b∧RP (a+1) b l m∧PartAt (fun x=>lt x p) (a+1) i j b m) (fun s=>(s.2.1+1 - s.1).toNat)
  (fun r:Bool × Int × List Int × Unit=>∃ (k:Nat) (m:List Int),r=(true,(k:Int),m,())∧a≤k∧k<b∧RP (a+1) b l m∧PartAt (fun x=>lt x p) (a+1) (k+1) (k+1) b m)
  ((i0:Int),(J:Int) - 1,l,()) ⟨i0,J,l,rfl,hi0,hi,hJ,RP.refl _ _ _,hpa⟩ (by
   rintro _ ⟨i,j,m,rfl,h1,h2,h3,h4,h5⟩
   have hlen:=h4.len
   have hpm:m[a]? =some p:=by rw [h4.out a (.inl (by omega))]; exact hp
   obtain ⟨i',e1,e2,e3,e4,e5⟩:=part_l3 a b' pv L m i j p hpm h2 (by omega) (by omega)
   obtain ⟨j',f1,f2,f3,f4,f5⟩:=part_l4 a b' pv L m i i' j p hpm e2 (by omega) (by omega) e5
   have hsc:PartAt (fun x=>lt x p) (a+1) i' j' b m:=h5.scan e3 (fun k k1 k2=>by
    have hx:m[k]? =some (m[k]'(by omega)):=List.getElem?_eq_getElem (by omega)
    exact ⟨_,hx,fun hh=>f3 k k1 k2 ⟨_,hx,hh⟩⟩)
   unfold slices_partitionOrdered_int_l2
   simp only [loopD_eq,e5,f5]
   rcases f4 with f4 | ⟨k,rfl,f6,f7⟩
   ·subst f4
    have g1:(j':Int)>(j':Int) - 1:=by omega
    simp only [decT g1,Bool.not_true,cond_false,Bool.and_true]
    refine ⟨trivial,fun h=>(by cases h),fun _=>⟨j' - 1,m,?_,by omega,by omega,h4,?_⟩⟩
    ·rw [show ((j' - 1:Nat):Int)=(j':Int) - 1 by omega]
    ·rw [show j' - 1+1=j' by omega]; exact hsc
   ·obtain ⟨y,hy,hlt⟩:=Classical.not_not.1 f7
    have hik:i'<k:=by
     rcases Nat.lt_or_ge i' k with hh | hh
     ·exact hh
     ·have:i'=k:=by omega
      subst this
      rcases e4 with e4 | e4
      ·omega
      ·exact absurd ⟨y,hy,hlt⟩ e4
    have hx:m[i']? =some (m[i']'(by omega)):=List.getElem?_eq_getElem (by omega)
    generalize m[i']'(by omega)=x at hx
    have hn:¬ lt x p:=fun hh=>by
     rcases e4 with e4 | e4
     ·omega
     ·exact e4 ⟨x,hx,hh⟩
    have g1:¬ (i':Int)>((k+1:Nat):Int) - 1:=by omega
    have hw1:IntKind.i64.wrap ((i':Int)+1)=((i'+1:Nat):Int):=by rw [wrap_i64 (by omega) (by omega)]; omega
    have hw2:IntKind.i64.wrap (((k+1:Nat):Int) - 1 - 1)=(k:Int) - 1:=by rw [wrap_i64 (by omega) (by omega)]; omega
    have hk:(((k+1:Nat):Int) - 1).toNat=k:=by omega
    simp only [decF g1,hw1,hw2,hk,hx,hy,Int.toNat_natCast,Option.getD_some,Bool.not_false,cond_true,List.length_set,decT (show k<m.length by omega),decT (show i'<m.length by omega),decT (show (0:Int)≤(i':Int) by omega),decT (show (0:Int)≤((k+1:Nat):Int) - 1 by omega),Bool.and_true]
    exact ⟨trivial,fun _=>⟨⟨i'+1,k,_,rfl,by omega,by omega,by omega,h4.trans (RP.swap' hx hy (by omega) (by omega) (by omega) (by omega)),hsc.swap hik (by omega) hx hy hn hlt⟩,by
     show ((k:Int) - 1+1 - ((i'+1:Nat):Int)).toNat<((j:Int) - 1+1 - (i:Int)).toNat
     omega⟩,fun h=>by cases h⟩)
 obtain ⟨h1,k,m,h2,h3,h4,h5,h6⟩:=key
 exact ⟨k,m,Prod.ext h1 h2,h3,h4,h5,h6⟩
theorem part_l0 (a b pv:Nat) (L:List Int) (p q:Int) (hp:L[pv]? =some p) (hq:L[a]? =some q) (hab:a<b) (hb:b≤L.length) (hbig:L.length≤1152921504606846976) (m:List Int) (hm:m=(L.set a p).set pv q) (hpm:m[a]? =some p):
  ∃ i,a+1≤i∧i≤b∧(∀ k,a+1≤k→k<i→∃ x,m[k]? =some x∧lt x p)∧(i=b∨¬ ∃ x,m[i]? =some x∧lt x p)∧
   loopR (HL.dflt [.bool,.int .i64]) (slices_partitionOrdered_int_l0 (a:Int) (b:Int) (pv:Int) L) (((a+1:Nat):Int),())=(true,(true,(i:Int),())):=by
 have hlen:m.length=L.length:=by rw [hm]; simp
 have hwb:IntKind.i64.wrap ((b:Int) - 1)=(b:Int) - 1:=wrap_i64 (by omega) (by omega)
 refine scan_up b (fun k=>∃ x,m[k]? =some x∧lt x p) (fun i=>(true,(i:Int),())) (a+1) (by omega) (fun i h1 h2 h3=> ?_) (fun i h1 h2 h3=> ?_)
 ·obtain ⟨x,hx,hlt⟩:=h3
  have g1:(i:Int)≤(b:Int) - 1:=by omega
  have hw:IntKind.i64.wrap ((i:Int)+1)=((i+1:Nat):Int):=by rw [wrap_i64 (by omega) (by omega)]; omega
  unfold slices_partitionOrdered_int_l0 RGo
  simp only [hwb,Int.toNat_natCast,hp,hq,Option.getD_some,← hm,decT g1,hw,hx,hpm,less_r,decT hlt,decT (show a<m.length by omega),decT (show i<m.length by omega),decT (show (0:Int)≤(i:Int) by omega),decT (show (0:Int)≤(a:Int) by omega),cond_true,Bool.and_true,Bool.not_true,and_self]
 ·unfold slices_partitionOrdered_int_l0 REnd
  rcases Nat.lt_or_ge i b with hlt | hge
  ·have g1:(i:Int)≤(b:Int) - 1:=by omega
   have hx:m[i]? =some (m[i]'(by omega)):=List.getElem?_eq_getElem (by omega)
   generalize m[i]'(by omega)=x at hx
   have hn:¬ lt x p:=fun hh=>by
    rcases h3 with h3 | h3
    ·omega
    ·exact h3 ⟨x,hx,hh⟩
   simp only [hwb,Int.toNat_natCast,hp,hq,Option.getD_some,← hm,decT g1,hx,hpm,less_r,decF hn,decT (show a<m.length by omega),decT (show i<m.length by omega),decT (show (0:Int)≤(i:Int) by omega),decT (show (0:Int)≤(a:Int) by omega),cond_true,Bool.and_true,Bool.not_false,and_self]
  ·have g1:¬ (i:Int)≤(b:Int) - 1:=by omega
   simp only [hwb,decF g1,cond_false,Bool.and_true,Bool.not_false,and_self]
theorem part_l1 (a b pv:Nat) (L:List Int) (p q:Int) (hp:L[pv]? =some p) (hq:L[a]? =some q) (hab:a<b) (hb:b≤L.length) (hbig:L.length≤1152921504606846976) (m:List Int) (hm:m=(L.set a p).set pv q) (hpm:m[a]? =some p) (i:Nat) (hi:i≤b)
  (h3:loopR (HL.dflt [.bool,.int .i64]) (slices_partitionOrdered_int_l0 (a:Int) (b:Int) (pv:Int) L) (((a+1:Nat):Int),())=(true,(true,(i:Int),()))):
  ∃ j,i≤j∧j≤b∧(∀ k,j≤k→k<b→¬ ∃ x,m[k]? =some x∧lt x p)∧(j=i∨∃ k,j=k+1∧i≤k∧¬ ¬ ∃ x,m[k]? =some x∧lt x p)∧
   loopR (HL.dflt [.bool,.int .i64]) (slices_partitionOrdered_int_l1 (a:Int) (b:Int) (pv:Int) L) ((b:Int) - 1,())=(true,(true,(j:Int) - 1,())):=by
 have hlen:m.length=L.length:=by rw [hm]; simp
 have hwa:IntKind.i64.wrap ((a:Int)+1)=((a+1:Nat):Int):=by rw [wrap_i64 (by omega) (by omega)]; omega
 refine scan_down i (fun k=>¬ ∃ x,m[k]? =some x∧lt x p) (fun j=>(true,(j:Int) - 1,())) b hi (fun j h1 h2 h4=> ?_) (fun j h1 h2 h4=> ?_)
 ·have hx:m[j]? =some (m[j]'(by omega)):=List.getElem?_eq_getElem (by omega)
  generalize m[j]'(by omega)=x at hx
  have hn:¬ lt x p:=fun hh=>h4 ⟨x,hx,hh⟩
  have g1:(i:Int)≤((j+1:Nat):Int) - 1:=by omega
  have hw:IntKind.i64.wrap (((j+1:Nat):Int) - 1 - 1)=(j:Int) - 1:=by rw [wrap_i64 (by omega) (by omega)]; omega
  have hj:(((j+1:Nat):Int) - 1).toNat=j:=by omega
  unfold slices_partitionOrdered_int_l1 RGo
  simp only [loopD_eq,hwa,h3,decT g1,hw,hj,Int.toNat_natCast,hp,hq,Option.getD_some,← hm,hx,hpm,less_r,decF hn,decT (show a<m.length by omega),decT (show j<m.length by omega),decT (show (0:Int)≤((j+1:Nat):Int) - 1 by omega),decT (show (0:Int)≤(a:Int) by omega),cond_true,Bool.and_true,Bool.not_false,Bool.not_true,and_self]
 ·unfold slices_partitionOrdered_int_l1 REnd
  rcases h4 with h4 | ⟨k,rfl,h5,h6⟩
  ·have g1:¬ (i:Int)≤(j:Int) - 1:=by omega
   simp only [loopD_eq,hwa,h3,decF g1,cond_false,Bool.and_true,Bool.not_false,and_self]
  ·obtain ⟨x,hx,hlt⟩:=Classical.not_not.1 h6
   have g1:(i:Int)≤((k+1:Nat):Int) - 1:=by omega
   have hj:(((k+1:Nat):Int) - 1).toNat=k:=by omega
   simp only [loopD_eq,hwa,h3,decT g1,hj,Int.toNat_natCast,hp,hq,Option.getD_some,← hm,hx,hpm,less_r,decT hlt,decT (show a<m.length by omega),decT (show k<m.length by omega),decT (show (0:Int)≤((k+1:Nat):Int) - 1 by omega),decT (show (0:Int)≤(a:Int) by omega),cond_true,Bool.and_true,Bool.not_false,Bool.not_true,and_self]
structure Split (a k b:Nat) (m:List Int) (p:Int):Prop where
 at':m[k]? =some p
 left:∀ i x,a≤i→i<k→m[i]? =some x→lt x p
 right:∀ i x,k<i→i<b→m[i]? =some x→¬ lt x p
theorem Split.of {a k b:Nat} {m:List Int} {p y:Int} (hak:a≤k) (hkb:k<b) (hb:b≤m.length) (hp:m[a]? =some p) (hy:m[k]? =some y) (h:PartAt (fun x=>lt x p) (a+1) (k+1) (k+1) b m):Split a k b ((m.set k p).set a y) p:=by
 have hs:=swap_at hy hp
 refine ⟨?_,fun i x h1 h2 h3=> ?_,fun i x h1 h2 h3=> ?_⟩
 ·rw [hs]
  by_cases hka:k=a
  ·rw [if_pos hka,← hy,hka,hp]
  ·rw [if_neg hka,if_pos rfl]
 ·rw [hs] at h3
  by_cases hia:i=a
  ·rw [if_pos hia] at h3
   injection h3 with h3; subst h3
   exact h.left k y (by omega) (by omega) hy
  ·rw [if_neg hia,if_neg (by omega)] at h3
   exact h.left i x (by omega) (by omega) h3
 ·rw [hs,if_neg (by omega),if_neg (by omega)] at h3
  exact h.right i x (by omega) h2 h3
theorem part_r (a b pv:Nat) (l:List Int) (h1:a≤pv) (h2:pv<b) (hb:b≤l.length) (hbig:l.length≤1152921504606846976):
  ∃ (k:Nat) (c:Bool) (m:List Int) (p:Int),slices_partitionOrdered_int_r (a:Int) (b:Int) (pv:Int) l=(true,((k:Int),c,m))∧a≤k∧k<b∧RP a b l m∧Split a k b m p:=by
 have hp:l[pv]? =some (l[pv]'(by omega)):=List.getElem?_eq_getElem (by omega)
 have hq:l[a]? =some (l[a]'(by omega)):=List.getElem?_eq_getElem (by omega)
 generalize l[pv]'(by omega)=p at hp
 generalize l[a]'(by omega)=q at hq
 generalize hm:(l.set a p).set pv q=m
 have hlen:m.length=l.length:=by rw [← hm]; simp
 have hpm:m[a]? =some p:=by
  rw [← hm,swap_at hq hp]
  by_cases hh:a=pv
  ·rw [if_pos hh]; rw [← hh,hq] at hp; exact hp
  ·rw [if_neg hh,if_pos rfl]
 have hrp:RP a b l m:=by rw [← hm]; exact RP.swap' hq hp (by omega) (by omega) h1 h2
 have hwa:IntKind.i64.wrap ((a:Int)+1)=((a+1:Nat):Int):=by rw [wrap_i64 (by omega) (by omega)]; omega
 have hwb:IntKind.i64.wrap ((b:Int) - 1)=(b:Int) - 1:=wrap_i64 (by omega) (by omega)
 obtain ⟨i',e1,e2,e3,e4,e5⟩:=part_l0 a b pv l p q hp hq (by omega) hb hbig m hm.symm hpm
 obtain ⟨j',f1,f2,f3,f4,f5⟩:=part_l1 a b pv l p q hp hq (by omega) hb hbig m hm.symm hpm i' e2 e5
 have hsc:PartAt (fun x=>lt x p) (a+1) i' j' b m:=PartAt.scan (i:=a+1) (j:=b) ⟨fun p x h1 h2=>by omega,fun p x h1 h2=>by omega⟩ e3 (fun k k1 k2=>by
  have hx:m[k]? =some (m[k]'(by omega)):=List.getElem?_eq_getElem (by omega)
  exact ⟨_,hx,fun hh=>f3 k k1 k2 ⟨_,hx,hh⟩⟩)
 unfold slices_partitionOrdered_int_r
 simp only [loopD_eq,hwa,hwb,Int.toNat_natCast,hp,hq,Option.getD_some,hm,e5,f5,hpm]
 have hset:∀ k:Nat,a≤k→k<b→∀ n:List Int,n.length=l.length→decide (k<n.length)=true:=fun k _ hk n hn=>decT (by omega)
 rcases f4 with f4 | ⟨k,rfl,f6,f7⟩
 ·subst f4
  obtain ⟨k,rfl⟩:∃ k,j'=k+1:=⟨j' - 1,by omega⟩
  have g1:((k+1:Nat):Int)>((k+1:Nat):Int) - 1:=by omega
  have hk:(((k+1:Nat):Int) - 1).toNat=k:=by omega
  have hy:m[k]? =some (m[k]'(by omega)):=List.getElem?_eq_getElem (by omega)
  generalize m[k]'(by omega)=y at hy
  simp only [decT g1,hk,hy,Option.getD_some,Bool.not_true,cond_true,cond_false,List.length_set,decT (show pv<l.length by omega),decT (show a<l.length by omega),decT (show a<m.length by omega),decT (show k<m.length by omega),decT (show (0:Int)≤(pv:Int) by omega),decT (show (0:Int)≤(a:Int) by omega),decT (show (0:Int)≤((k+1:Nat):Int) - 1 by omega),Bool.and_true]
  refine ⟨k,true,(m.set k p).set a y,p,?_,by omega,by omega,hrp.trans (RP.swap' hy hpm (by omega) (by omega) (by omega) (by omega)),Split.of (by omega) (by omega) (by omega) hpm hy hsc⟩
  rw [show ((k+1:Nat):Int) - 1=(k:Int) by omega]
 ·obtain ⟨y,hy,hlt⟩:=Classical.not_not.1 f7
  have hik:i'<k:=by
   rcases Nat.lt_or_ge i' k with hh | hh
   ·exact hh
   ·have:i'=k:=by omega
    subst this
    rcases e4 with e4 | e4
    ·omega
    ·exact absurd ⟨y,hy,hlt⟩ e4
  have hx:m[i']? =some (m[i']'(by omega)):=List.getElem?_eq_getElem (by omega)
  generalize m[i']'(by omega)=x at hx
  have hn:¬ lt x p:=fun hh=>by
   rcases e4 with e4 | e4
   ·omega
   ·exact e4 ⟨x,hx,hh⟩
  have g1:¬ (i':Int)>((k+1:Nat):Int) - 1:=by omega
  have hw1:IntKind.i64.wrap ((i':Int)+1)=((i'+1:Nat):Int):=by rw [wrap_i64 (by omega) (by omega)]; omega
  have hw2:IntKind.i64.wrap (((k+1:Nat):Int) - 1 - 1)=(k:Int) - 1:=by rw [wrap_i64 (by omega) (by omega)]; omega
  have hk:(((k+1:Nat):Int) - 1).toNat=k:=by omega
  have hsw:RP (a+1) b m ((m.set i' y).set k x):=RP.swap' hx hy (by omega) (by omega) (by omega) (by omega)
  have hps:=hsc.swap hik (by omega) hx hy hn hlt
  generalize hm2:(m.set i' y).set k x=m2 at hsw hps
  have hlen2:m2.length=l.length:=by rw [← hm2]; simp [hlen]
  have hp2:m2[a]? =some p:=by rw [hsw.out a (.inl (by omega))]; exact hpm
  obtain ⟨k2,m3,r1,r2,r3,r4,r5⟩:=part_l2 a b (b:Int) (pv:Int) l m2 (i'+1) k p (by omega) (by omega) (by omega) (by omega) (by omega) hp2 hps
  have hlen3:=r4.len
  have hp3:m3[a]? =some p:=by rw [r4.out a (.inl (by omega))]; exact hp2
  have hz:m3[k2]? =some (m3[k2]'(by omega)):=List.getElem?_eq_getElem (by omega)
  generalize m3[k2]'(by omega)=z at hz
  simp only [decF g1,hw1,hw2,hk,hx,hy,Option.getD_some,hm2,r1,hp3,hz,Int.toNat_natCast,Bool.not_false,cond_true,cond_false,List.length_set,decT (show pv<l.length by omega),decT (show a<l.length by omega),decT (show a<m.length by omega),decT (show a<m3.length by omega),decT (show k2<m3.length by omega),decT (show k<m.length by omega),decT (show i'<m.length by omega),decT (show (0:Int)≤(pv:Int) by omega),decT (show (0:Int)≤(k2:Int) by omega),decT (show (0:Int)≤(i':Int) by omega),decT (show (0:Int)≤(a:Int) by omega),decT (show (0:Int)≤((k+1:Nat):Int) - 1 by omega),Bool.and_true]
  exact ⟨k2,false,(m3.set k2 p).set a z,p,rfl,r2,r3,hrp.trans ((hsw.trans r4).mono (by omega) (Nat.le_refl _) |>.trans (RP.swap' hz hp3 (by omega) (by omega) (by omega) (by omega))),Split.of (by omega) (by omega) (by omega) hp3 hz r5⟩
theorem peq_l1 (a:Nat) (b' pv:Int) (L m:List Int) (i0 J:Nat) (p:Int) (hp:m[a]? =some p) (hi:i0≤J) (hJ:J≤m.length) (hbig:m.length≤1152921504606846976):
  ∃ i,i0≤i∧i≤J∧(∀ k,i0≤k→k<i→∃ x,m[k]? =some x∧¬ lt p x)∧(i=J∨¬ ∃ x,m[i]? =some x∧¬ lt p x)∧
   loopR (HL.dflt [.bool,.int .i64]) (slices_partitionEqualOrdered_int_l1 (a:Int) b' pv L ((i0:Int),(J:Int) - 1,m,())) ((i0:Int),())=(true,(true,(i:Int),())):=by
 have ha:a<m.length:=(List.getElem?_eq_some_iff.1 hp).1
 refine scan_up J (fun k=>∃ x,m[k]? =some x∧¬ lt p x) (fun i=>(true,(i:Int),())) i0 hi (fun i h1 h2 h3=> ?_) (fun i h1 h2 h3=> ?_)
 ·obtain ⟨x,hx,hlt⟩:=h3
  have g1:(i:Int)≤(J:Int) - 1:=by omega
  have hw:IntKind.i64.wrap ((i:Int)+1)=((i+1:Nat):Int):=by rw [wrap_i64 (by omega) (by omega)]; omega
  unfold slices_partitionEqualOrdered_int_l1 RGo
  simp only [decT g1,hw,Int.toNat_natCast,hx,hp,Option.getD_some,less_r,decF hlt,decT ha,decT (show i<m.length by omega),decT (show (0:Int)≤(i:Int) by omega),decT (show (0:Int)≤(a:Int) by omega),cond_true,Bool.and_true,Bool.not_true,Bool.not_false,and_self]
 ·unfold slices_partitionEqualOrdered_int_l1 REnd
  rcases Nat.lt_or_ge i J with hlt | hge
  ·have g1:(i:Int)≤(J:Int) - 1:=by omega
   have hx:m[i]? =some (m[i]'(by omega)):=List.getElem?_eq_getElem (by omega)
   generalize m[i]'(by omega)=x at hx
   have hn:lt p x:=by
    rcases h3 with h3 | h3
    ·omega
    ·exact Classical.not_not.1 fun hh=>h3 ⟨x,hx,hh⟩
   simp only [decT g1,Int.toNat_natCast,hx,hp,Option.getD_some,less_r,decT hn,decT ha,decT (show i<m.length by omega),decT (show (0:Int)≤(i:Int) by omega),decT (show (0:Int)≤(a:Int) by omega),cond_true,Bool.and_true,Bool.not_false,Bool.not_true,and_self]
  ·have g1:¬ (i:Int)≤(J:Int) - 1:=by omega
   simp only [decF g1,cond_false,Bool.and_true,Bool.not_false,and_self]
theorem peq_l2 (a:Nat) (b' pv:Int) (L m:List Int) (i0 i J:Nat) (p:Int) (hp:m[a]? =some p) (hi:i≤J) (hJ:J≤m.length) (hbig:m.length≤1152921504606846976)
  (h3:loopR (HL.dflt [.bool,.int .i64]) (slices_partitionEqualOrdered_int_l1 (a:Int) b' pv L ((i0:Int),(J:Int) - 1,m,())) ((i0:Int),())=(true,(true,(i:Int),()))):
  ∃ j,i≤j∧j≤J∧(∀ k,j≤k→k<J→¬ ∃ x,m[k]? =some x∧¬ lt p x)∧(j=i∨∃ k,j=k+1∧i≤k∧¬ ¬ ∃ x,m[k]? =some x∧¬ lt p x)∧
   loopR (HL.dflt [.bool,.int .i64]) (slices_partitionEqualOrdered_int_l2 (a:Int) b' pv L ((i0:Int),(J:Int) - 1,m,())) ((J:Int) - 1,())=(true,(true,(j:Int) - 1,())):=by
 have ha:a<m.length:=(List.getElem?_eq_some_iff.1 hp).1
 refine scan_down i (fun k=>¬ ∃ x,m[k]? =some x∧¬ lt p x) (fun j=>(true,(j:Int) - 1,())) J hi (fun j h1 h2 h4=> ?_) (fun j h1 h2 h4=> ?_)
 ·have hx:m[j]? =some (m[j]'(by omega)):=List.getElem?_eq_getElem (by omega)
  generalize m[j]'(by omega)=x at hx
  have hn:lt p x:=Classical.not_not.1 fun hh=>h4 ⟨x,hx,hh⟩
  have g1:(i:Int)≤((j+1:Nat):Int) - 1:=by omega
  have hw:IntKind.i64.wrap (((j+1:Nat):Int) - 1 - 1)=(j:Int) - 1:=by rw [wrap_i64 (by omega) (by omega)]; omega
  have hj:(((j+1:Nat):Int) - 1).toNat=j:=by omega
  unfold slices_partitionEqualOrdered_int_l2 RGo
  simp only [loopD_eq,h3,decT g1,hw,hj,hx,hp,Int.toNat_natCast,Option.getD_some,less_r,decT hn,decT ha,decT (show j<m.length by omega),decT (show (0:Int)≤((j+1:Nat):Int) - 1 by omega),decT (show (0:Int)≤(a:Int) by omega),cond_true,Bool.and_true,Bool.not_false,Bool.not_true,and_self]
 ·unfold slices_partitionEqualOrdered_int_l2 REnd
  rcases h4 with h4 | ⟨k,rfl,h5,h6⟩
  ·have g1:¬ (i:Int)≤(j:Int) - 1:=by omega
   simp only [loopD_eq,h3,decF g1,cond_false,Bool.and_true,Bool.not_false,and_self]
  ·obtain ⟨x,hx,hlt⟩:=Classical.not_not.1 h6
   have g1:(i:Int)≤((k+1:Nat):Int) - 1:=by omega
   have hj:(((k+1:Nat):Int) - 1).toNat=k:=by omega
   simp only [loopD_eq,h3,decT g1,hj,hx,hp,Int.toNat_natCast,Option.getD_some,less_r,decF hlt,decT ha,decT (show k<m.length by omega),decT (show (0:Int)≤((k+1:Nat):Int) - 1 by omega),decT (show (0:Int)≤(a:Int) by omega),cond_true,Bool.and_true,Bool.not_false,Bool.not_true,and_self]
theorem peq_l0 (a b:Nat) (b' pv:Int) (L l:List Int) (p:Int) (hab:a<b) (hb:b≤l.length) (hbig:l.length≤1152921504606846976) (hp:l[a]? =some p):
  ∃ (k:Nat) (m:List Int),loopR (HL.dflt [.bool,.int .i64,(.fl (.int .i64))]) (slices_partitionEqualOrdered_int_l0 (a:Int) b' pv L) (((a+1:Nat):Int),(b:Int) - 1,l,())=(true,(true,(k:Int),m,()))∧
   a<k∧k≤b∧RP (a+1) b l m∧PartAt (fun x=>¬ lt p x) (a+1) k k b m:=by
 have key:=loopR_by (d:=HL.dflt [.bool,.int .i64,(.fl (.int .i64))]) (step:=slices_partitionEqualOrdered_int_l0 (a:Int) b' pv L)
  (fun s:Int × Int × List Int × Unit=>∃ (i j:Nat) (m:List Int),s=((i:Int),(j:Int) - 1,m,())∧a<i∧i≤j∧j≤b∧RP (a+1) b l m∧PartAt (fun x=>¬ lt p x) (a+1) i j b m) (fun s=>(s.2.1+1 - s.1).toNat)
  (fun r:Bool × Int × List Int × Unit=>∃ (k:Nat) (m:List Int),r=(true,(k:Int),m,())∧a<k∧k≤b∧RP (a+1) b l m∧PartAt (fun x=>¬ lt p x) (a+1) k k b m)
  (((a+1:Nat):Int),(b:Int) - 1,l,()) ⟨a+1,b,l,rfl,by omega,by omega,by omega,RP.refl _ _ _,⟨fun p x h1 h2=>by omega,fun p x h1 h2=>by omega⟩⟩ (by
   rintro _ ⟨i,j,m,rfl,h1,h2,h3,h4,h5⟩
   have hlen:=h4.len
   have hpm:m[a]? =some p:=by rw [h4.out a (.inl (by omega))]; exact hp
   obtain ⟨i',e1,e2,e3,e4,e5⟩:=peq_l1 a b' pv L m i j p hpm h2 (by omega) (by omega)
   obtain ⟨j',f1,f2,f3,f4,f5⟩:=peq_l2 a b' pv L m i i' j p hpm e2 (by omega) (by omega) e5
   have hsc:PartAt (fun x=>¬ lt p x) (a+1) i' j' b m:=h5.scan e3 (fun k k1 k2=>by
    have hx:m[k]? =some (m[k]'(by omega)):=List.getElem?_eq_getElem (by omega)
    exact ⟨_,hx,fun hh=>f3 k k1 k2 ⟨_,hx,hh⟩⟩)
   unfold slices_partitionEqualOrdered_int_l0
   simp only [loopD_eq,e5,f5]
   rcases f4 with f4 | ⟨k,rfl,f6,f7⟩
   ·subst f4
    have g1:(j':Int)>(j':Int) - 1:=by omega
    simp only [decT g1,Bool.not_true,cond_false,Bool.and_true]
    exact ⟨trivial,fun h=>(by cases h),fun _=>⟨j',m,rfl,by omega,by omega,h4,hsc⟩⟩
   ·obtain ⟨y,hy,hlt⟩:=Classical.not_not.1 f7
    have hik:i'<k:=by
     rcases Nat.lt_or_ge i' k with hh | hh
     ·exact hh
     ·have:i'=k:=by omega
      subst this
      rcases e4 with e4 | e4
      ·omega
      ·exact absurd ⟨y,hy,hlt⟩ e4
    have hx:m[i']? =some (m[i']'(by omega)):=List.getElem?_eq_getElem (by omega)
    generalize m[i']'(by omega)=x at hx
    have hn:¬ ¬ lt p x:=fun hh=>by
     rcases e4 with e4 | e4
     ·omega
     ·exact e4 ⟨x,hx,hh⟩
    have g1:¬ (i':Int)>((k+1:Nat):Int) - 1:=by omega
    have hw1:IntKind.i64.wrap ((i':Int)+1)=((i'+1:Nat):Int):=by rw [wrap_i64 (by omega) (by omega)]; omega
    have hw2:IntKind.i64.wrap (((k+1:Nat):Int) - 1 - 1)=(k:Int) - 1:=by rw [wrap_i64 (by omega) (by omega)]; omega
    have hk:(((k+1:Nat):Int) - 1).toNat=k:=by omega
    simp only [decF g1,hw1,hw2,hk,hx,hy,Int.toNat_natCast,Option.getD_some,Bool.not_false,cond_true,List.length_set,decT (show k<m.length by omega),decT (show i'<m.length by omega),decT (show (0:Int)≤(i':Int) by omega),decT (show (0:Int)≤((k+1:Nat):Int) - 1 by omega),Bool.and_true]
    exact ⟨trivial,fun _=>⟨⟨i'+1,k,_,rfl,by omega,by omega,by omega,h4.trans (RP.swap' hx hy (by omega) (by omega) (by omega) (by omega)),hsc.swap hik (by omega) hx hy hn hlt⟩,by
     show ((k:Int) - 1+1 - ((i'+1:Nat):Int)).toNat<((j:Int) - 1+1 - (i:Int)).toNat
     omega⟩,fun h=>by cases h⟩)
 obtain ⟨h1,k,m,h2,h3,h4,h5,h6⟩:=key
 exact ⟨k,m,Prod.ext h1 h2,h3,h4,h5,h6⟩
theorem peq_r (a b pv:Nat) (l:List Int) (h1:a≤pv) (h2:pv<b) (hb:b≤l.length) (hbig:l.length≤1152921504606846976) (p:Int) (hp:l[pv]? =some p):
  ∃ (k:Nat) (m:List Int),slices_partitionEqualOrdered_int_r (a:Int) (b:Int) (pv:Int) l=(true,((k:Int),m))∧a<k∧k≤b∧RP a b l m∧PartAt (fun x=>¬ lt p x) a k k b m:=by
 have hq:l[a]? =some (l[a]'(by omega)):=List.getElem?_eq_getElem (by omega)
 generalize l[a]'(by omega)=q at hq
 generalize hm:(l.set a p).set pv q=m
 have hlen:m.length=l.length:=by rw [← hm]; simp
 have hpm:m[a]? =some p:=by
  rw [← hm,swap_at hq hp]
  by_cases hh:a=pv
  ·rw [if_pos hh]; rw [← hh,hq] at hp; exact hp
  ·rw [if_neg hh,if_pos rfl]
 have hrp:RP a b l m:=by rw [← hm]; exact RP.swap' hq hp (by omega) (by omega) h1 h2
 have hwa:IntKind.i64.wrap ((a:Int)+1)=((a+1:Nat):Int):=by rw [wrap_i64 (by omega) (by omega)]; omega
 have hwb:IntKind.i64.wrap ((b:Int) - 1)=(b:Int) - 1:=wrap_i64 (by omega) (by omega)
 obtain ⟨k,m2,e1,e2,e3,e4,e5⟩:=peq_l0 a b (b:Int) (pv:Int) l m p (by omega) (by omega) (by omega) hpm
 unfold slices_partitionEqualOrdered_int_r
 simp only [loopD_eq,hwa,hwb,Int.toNat_natCast,hp,hq,Option.getD_some,hm,e1,List.length_set,decT (show pv<l.length by omega),decT (show a<l.length by omega),decT (show (0:Int)≤(pv:Int) by omega),decT (show (0:Int)≤(a:Int) by omega),Bool.and_true]
 refine ⟨k,m2,rfl,e2,e3,hrp.trans (e4.mono (by omega) (Nat.le_refl _)),⟨fun i x k1 k2 hx=> ?_,e5.right⟩⟩
 by_cases hia:i=a
 ·subst hia
  rw [e4.out i (.inl (by omega)),hpm] at hx
  injection hx with hx; subst hx
  exact lt_irr _
 ·exact e5.left i x (by omega) k2 hx
def Low (a b:Nat) (l:List Int):Prop:=a=0∨∀ i x z,a≤i→i<b→l[i]? =some x→l[a - 1]? =some z→¬ lt x z
theorem Low.of {a b:Nat} {l m:List Int} (h:Low a b l) (hr:RP a b l m):Low a b m:=by
 rcases h with h | h
 ·exact .inl h
 ·by_cases h0:a=0
  ·exact .inl h0
  ·refine .inr fun i x z h1 h2 h3 h4=> ?_
   rw [hr.out (a - 1) (.inl (by omega))] at h4
   exact hr.all (P:=fun x=>¬ lt x z) (fun j y k1 k2 k3=>h j y z k1 k2 k3 h4) i x h1 h2 h3
theorem pis_l1 (a':Int) (b:Nat) (L m:List Int) (i0:Nat) (c:Int) (h0:1≤i0) (hi:i0≤b) (hb:b≤m.length) (hbig:m.length≤1152921504606846976):
  ∃ i,i0≤i∧i≤b∧(∀ k,i0≤k→k<i→∃ x y,m[k - 1]? =some x∧m[k]? =some y∧¬ lt y x)∧(i=b∨¬ ∃ x y,m[i - 1]? =some x∧m[i]? =some y∧¬ lt y x)∧
   loopR (HL.dflt [.bool,.int .i64]) (slices_partialInsertionSortOrdered_int_l1 a' (b:Int) L ((i0:Int),c,m,())) ((i0:Int),())=(true,(true,(i:Int),())):=by
 refine scan_up b (fun k=>∃ x y,m[k - 1]? =some x∧m[k]? =some y∧¬ lt y x) (fun i=>(true,(i:Int),())) i0 hi (fun i h1 h2 h3=> ?_) (fun i h1 h2 h3=> ?_)
 ·obtain ⟨x,y,hx,hy,hlt⟩:=h3
  have g1:(i:Int)<(b:Int):=by omega
  have hw:IntKind.i64.wrap ((i:Int)+1)=((i+1:Nat):Int):=by rw [wrap_i64 (by omega) (by omega)]; omega
  have hw2:IntKind.i64.wrap ((i:Int) - 1)=((i - 1:Nat):Int):=by rw [wrap_i64 (by omega) (by omega)]; omega
  unfold slices_partialInsertionSortOrdered_int_l1 RGo
  simp only [decT g1,hw,hw2,Int.toNat_natCast,hx,hy,Option.getD_some,less_r,decF hlt,decT (show i<m.length by omega),decT (show i - 1<m.length by omega),decT (show (0:Int)≤(i:Int) by omega),decT (show (0:Int)≤((i - 1:Nat):Int) by omega),cond_true,Bool.and_true,Bool.not_true,Bool.not_false,and_self]
 ·unfold slices_partialInsertionSortOrdered_int_l1 REnd
  rcases Nat.lt_or_ge i b with hlt | hge
  ·have g1:(i:Int)<(b:Int):=by omega
   have hx:m[i - 1]? =some (m[i - 1]'(by omega)):=List.getElem?_eq_getElem (by omega)
   generalize m[i - 1]'(by omega)=x at hx
   have hy:m[i]? =some (m[i]'(by omega)):=List.getElem?_eq_getElem (by omega)
   generalize m[i]'(by omega)=y at hy
   have hn:lt y x:=by
    rcases h3 with h3 | h3
    ·omega
    ·exact Classical.not_not.1 fun hh=>h3 ⟨x,y,hx,hy,hh⟩
   have hw2:IntKind.i64.wrap ((i:Int) - 1)=((i - 1:Nat):Int):=by rw [wrap_i64 (by omega) (by omega)]; omega
   simp only [decT g1,hw2,Int.toNat_natCast,hx,hy,Option.getD_some,less_r,decT hn,decT (show i<m.length by omega),decT (show i - 1<m.length by omega),decT (show (0:Int)≤(i:Int) by omega),decT (show (0:Int)≤((i - 1:Nat):Int) by omega),cond_true,Bool.and_true,Bool.not_true,Bool.not_false,and_self]
  ·have g1:¬ (i:Int)<(b:Int):=by omega
   simp only [decF g1,cond_false,Bool.and_true,Bool.not_false,and_self]
theorem pis_l2 (a b i:Nat) (b':Int) (L l:List Int) (hai:a+1≤i) (hib:i≤b) (hb:b≤l.length) (hbig:l.length≤1152921504606846976) (hlow:Low a b l) (h:InOrder lt a (i - 1) l):
  ∃ m,loopR (HL.dflt [.bool,(.fl (.int .i64))]) (slices_partialInsertionSortOrdered_int_l2 (a:Int) b' L) (((i - 1:Nat):Int),l,())=(true,(true,m,()))∧RP a i l m∧InOrder lt a i m:=by
 have key:=loopR_by (d:=HL.dflt [.bool,(.fl (.int .i64))]) (step:=slices_partialInsertionSortOrdered_int_l2 (a:Int) b' L)
  (fun s:Int × List Int × Unit=>∃ (j:Nat) (m:List Int),s=((j:Int),m,())∧a≤j∧j<i∧RP a i l m∧InsAt lt a i j m) (fun s=>s.1.toNat)
  (fun r:Bool × List Int × Unit=>∃ m,r=(true,m,())∧RP a i l m∧InOrder lt a i m) (((i - 1:Nat):Int),l,())
  ⟨i - 1,l,rfl,by omega,by omega,RP.refl _ _ _,by have:=InsAt.start h; rw [show i - 1+1=i by omega] at this; exact this⟩ (by
   rintro _ ⟨j,m,rfl,h1,h2,h3,h4⟩
   have hlen:=h3.len
   have hlow2:=hlow.of (h3.mono (Nat.le_refl _) hib)
   unfold slices_partialInsertionSortOrdered_int_l2
   cases j with
   | zero=>
    have g1:¬ ((0:Nat):Int)≥1:=by omega
    simp only [decF g1,cond_false,Bool.false_and,Bool.not_false]
    exact ⟨trivial,fun h=>(by cases h),fun _=>⟨m,rfl,h3,h4.stop le_trans' (by omega) (.inl (by omega))⟩⟩
   | succ k=>
    have g1:((k+1:Nat):Int)≥1:=by omega
    have hw:IntKind.i64.wrap (((k+1:Nat):Int) - 1)=(k:Int):=by rw [wrap_i64 (by omega) (by omega)]; omega
    have hx:m[k]? =some (m[k]'(by omega)):=List.getElem?_eq_getElem (by omega)
    have hy:m[k+1]? =some (m[k+1]'(by omega)):=List.getElem?_eq_getElem (by omega)
    generalize m[k]'(by omega)=x at hx
    generalize m[k+1]'(by omega)=y at hy
    simp only [decT g1,hw,Int.toNat_natCast,hx,hy,Option.getD_some,less_r,decT (show k+1<m.length by omega),decT (show k<m.length by omega),decT (show (0:Int)≤((k+1:Nat):Int) by omega),decT (show (0:Int)≤(k:Int) by omega),cond_true,Bool.and_true,Bool.true_and,List.length_set]
    by_cases hlt:lt y x
    ·have hk:a≤k:=by
      rcases Nat.lt_or_ge k a with hka | hka
      ·exfalso
       rcases hlow2 with h0 | h0
       ·omega
       ·exact h0 (k+1) y x (by omega) (by omega) hy (by rw [show a - 1=k by omega]; exact hx) hlt
      ·exact hka
     simp only [decT hlt,Bool.not_true,Bool.not_false,cond_true]
     exact ⟨trivial,fun _=>⟨⟨k,_,rfl,by omega,by omega,h3.trans (RP.swap' hy hx (by omega) (by omega) (by omega) (by omega)),h4.step lt_asym (by omega) (by omega) hx hy hlt⟩,by
      show ((k:Int)).toNat<(((k+1:Nat):Int)).toNat
      omega⟩,fun h=>by cases h⟩
    ·simp only [decF hlt,Bool.not_true,Bool.not_false,cond_false]
     refine ⟨trivial,fun h=>(by cases h),fun _=>⟨m,rfl,h3,h4.stop le_trans' (by omega) ?_⟩⟩
     by_cases hka:k+1=a
     ·exact .inl hka
     ·exact .inr ⟨x,y,by omega,hx,hy,hlt⟩)
 obtain ⟨h1,m,h2,h3,h4⟩:=key
 exact ⟨m,Prod.ext h1 h2,h3,h4⟩
theorem pis_l3 (a':Int) (b i:Nat) (L l:List Int) (hi:1≤i) (hib:i≤b) (hb:b≤l.length) (hbig:l.length≤1152921504606846976):
  ∃ m,loopR (HL.dflt [.bool,(.fl (.int .i64))]) (slices_partialInsertionSortOrdered_int_l3 a' (b:Int) L) (((i+1:Nat):Int),l,())=(true,(true,m,()))∧RP i b l m:=by
 have key:=loopR_by (d:=HL.dflt [.bool,(.fl (.int .i64))]) (step:=slices_partialInsertionSortOrdered_int_l3 a' (b:Int) L)
  (fun s:Int × List Int × Unit=>∃ (j:Nat) (m:List Int),s=((j:Int),m,())∧i<j∧j≤b+1∧RP i b l m) (fun s=>b+1 - s.1.toNat)
  (fun r:Bool × List Int × Unit=>∃ m,r=(true,m,())∧RP i b l m) (((i+1:Nat):Int),l,())
  ⟨i+1,l,rfl,by omega,by omega,RP.refl _ _ _⟩ (by
   rintro _ ⟨j,m,rfl,h1,h2,h3⟩
   have hlen:=h3.len
   unfold slices_partialInsertionSortOrdered_int_l3
   by_cases hj:j<b
   ·obtain ⟨k,rfl⟩:∃ k,j=k+1:=⟨j - 1,by omega⟩
    have g1:((k+1:Nat):Int)<(b:Int):=by omega
    have hw:IntKind.i64.wrap (((k+1:Nat):Int) - 1)=(k:Int):=by rw [wrap_i64 (by omega) (by omega)]; omega
    have hw2:IntKind.i64.wrap (((k+1:Nat):Int)+1)=((k+1+1:Nat):Int):=by rw [wrap_i64 (by omega) (by omega)]; omega
    have hx:m[k]? =some (m[k]'(by omega)):=List.getElem?_eq_getElem (by omega)
    have hy:m[k+1]? =some (m[k+1]'(by omega)):=List.getElem?_eq_getElem (by omega)
    generalize m[k]'(by omega)=x at hx
    generalize m[k+1]'(by omega)=y at hy
    simp only [decT g1,hw,hw2,Int.toNat_natCast,hx,hy,Option.getD_some,less_r,decT (show k+1<m.length by omega),decT (show k<m.length by omega),decT (show (0:Int)≤((k+1:Nat):Int) by omega),decT (show (0:Int)≤(k:Int) by omega),cond_true,Bool.and_true,Bool.true_and,List.length_set]
    by_cases hlt:lt y x
    ·simp only [decT hlt,Bool.not_true,Bool.not_false,cond_true]
     exact ⟨trivial,fun _=>⟨⟨k+1+1,_,rfl,by omega,by omega,h3.trans (RP.swap' hy hx (by omega) (by omega) (by omega) (by omega))⟩,by
      show b+1 - (((k+1+1:Nat):Int)).toNat<b+1 - (((k+1:Nat):Int)).toNat
      omega⟩,fun h=>by cases h⟩
    ·simp only [decF hlt,Bool.not_true,Bool.not_false,cond_false]
     exact ⟨trivial,fun h=>(by cases h),fun _=>⟨m,rfl,h3⟩⟩
   ·have g1:¬ (j:Int)<(b:Int):=by omega
    simp only [decF g1,cond_false,Bool.false_and,Bool.not_false]
    exact ⟨trivial,fun h=>(by cases h),fun _=>⟨m,rfl,h3⟩⟩)
 obtain ⟨h1,m,h2,h3⟩:=key
 exact ⟨m,Prod.ext h1 h2,h3⟩
theorem inOrder_more {a i i':Nat} {m:List Int} (h:InOrder lt a i m) (hai:a<i) (h2:∀ k,i≤k→k<i'→∃ x y,m[k - 1]? =some x∧m[k]? =some y∧¬ lt y x):InOrder lt a i' m:=by
 have key:∀ n,i+n≤i'→InOrder lt a (i+n) m:=by
  intro n
  induction n with
  | zero=>exact fun _=>h
  | succ n ih=>
   intro hn p q u v k1 k2 k3 hu hv
   have ih:=ih (by omega)
   rcases Nat.lt_or_ge q (i+n) with hq | hq
   ·exact ih p q u v k1 k2 hq hu hv
   ·have hqe:q=i+n:=by omega
    subst hqe
    obtain ⟨x,y,hx,hy,hn'⟩:=h2 (i+n) (by omega) (by omega)
    rw [hy] at hv; injection hv with hv; subst hv
    by_cases hp:p=i+n - 1
    ·subst hp; rw [hx] at hu; injection hu with hu; subst hu; exact hn'
    ·exact le_trans' u x y (ih p (i+n - 1) u x k1 (by omega) (by omega) hu hx) hn'
 intro p q u v k1 k2 k3
 rcases Nat.lt_or_ge i' i with hh | hh
 ·exact h p q u v k1 k2 (by omega)
 ·have:=key (i' - i) (by omega)
  rw [show i+(i' - i)=i' by omega] at this
  exact this p q u v k1 k2 k3
theorem pis_r (a b:Nat) (l:List Int) (hab:a<b) (hb:b≤l.length) (hbig:l.length≤1152921504606846976) (hlow:Low a b l):
  ∃ (c:Bool) (m:List Int),slices_partialInsertionSortOrdered_int_r (a:Int) (b:Int) l=(true,(c,m))∧RP a b l m∧(c=true→InOrder lt a b m):=by
 have hwa:IntKind.i64.wrap ((a:Int)+1)=((a+1:Nat):Int):=by rw [wrap_i64 (by omega) (by omega)]; omega
 have key:=loopR_by (d:=HL.dflt [.bool,.bool,(.fl (.int .i64)),.bool,(.fl (.int .i64))]) (step:=slices_partialInsertionSortOrdered_int_l0 (a:Int) (b:Int) l)
  (fun s:Int × Int × List Int × Unit=>∃ (i:Nat) (c:Int) (m:List Int),s=((i:Int),c,m,())∧0≤c∧c≤5∧a<i∧i≤b∧RP a b l m∧InOrder lt a i m) (fun s=>(5 - s.2.1).toNat)
  (fun r:Bool × Bool × List Int × Bool × List Int × Unit=>r.2.2.1=r.2.2.2.2.1∧RP a b l r.2.2.1∧((cond r.2.2.2.1 false r.2.1)=true→InOrder lt a b r.2.2.1))
  (((a+1:Nat):Int),(0:Int),l,()) ⟨a+1,0,l,rfl,by omega,by omega,by omega,by omega,RP.refl _ _ _,fun p q x y h1 h2 h3=>by omega⟩ (by
   rintro _ ⟨i,c,m,rfl,hc0,hc5,h1,h2,h3,h4⟩
   have hlen:=h3.len
   unfold slices_partialInsertionSortOrdered_int_l0
   by_cases hc:c<5
   ·obtain ⟨i',e1,e2,e3,e4,e5⟩:=pis_l1 (a:Int) b l m i c (by omega) h2 (by omega) (by omega)
    have ho:=inOrder_more h4 h1 e3
    have hwd:IntKind.i64.wrap ((b:Int) - (a:Int))=((b - a:Nat):Int):=by rw [wrap_i64 (by omega) (by omega)]; omega
    have hwc:IntKind.i64.wrap (c+1)=c+1:=wrap_i64 (by omega) (by omega)
    by_cases hib:i'=b
    ·subst hib
     simp only [loopD_eq,e5,decT hc,hwd,beq_self_eq_true,Bool.not_true,Bool.true_and,cond_true,cond_false,Bool.and_false,Bool.false_and]
     exact ⟨trivial,fun h=>(by cases h),fun _=>⟨trivial,h3,fun _=>ho⟩⟩
    ·have hne:¬ (i':Int)=(b:Int):=by omega
     by_cases h50:((b - a:Nat):Int)<50
     ·simp only [loopD_eq,e5,decT hc,hwd,beqI hne,decT h50,Bool.not_true,Bool.not_false,Bool.true_and,cond_true,cond_false,Bool.and_false,Bool.false_and]
      exact ⟨trivial,fun h=>(by cases h),fun _=>⟨trivial,h3,fun h=>by cases h⟩⟩
     ·have hx:m[i' - 1]? =some (m[i' - 1]'(by omega)):=List.getElem?_eq_getElem (by omega)
      have hy:m[i']? =some (m[i']'(by omega)):=List.getElem?_eq_getElem (by omega)
      generalize m[i' - 1]'(by omega)=x at hx
      generalize m[i']'(by omega)=y at hy
      have hw1:IntKind.i64.wrap ((i':Int) - 1)=((i' - 1:Nat):Int):=by rw [wrap_i64 (by omega) (by omega)]; omega
      have hw2:IntKind.i64.wrap ((i':Int)+1)=((i'+1:Nat):Int):=by rw [wrap_i64 (by omega) (by omega)]; omega
      have hw3:IntKind.i64.wrap ((i':Int) - (a:Int))=((i' - a:Nat):Int):=by rw [wrap_i64 (by omega) (by omega)]; omega
      have hw4:IntKind.i64.wrap ((b:Int) - (i':Int))=((b - i':Nat):Int):=by rw [wrap_i64 (by omega) (by omega)]; omega
      have hsw:RP a b m ((m.set i' x).set (i' - 1) y):=RP.swap' hy hx (by omega) (by omega) (by omega) (by omega)
      have ho1:InOrder lt a (i' - 1) ((m.set i' x).set (i' - 1) y):=fun p q u v k1 k2 k3 hu hv=>by
       rw [List.getElem?_set_ne (by omega),List.getElem?_set_ne (by omega)] at hu hv
       exact ho p q u v k1 k2 (by omega) hu hv
      generalize hm1:(m.set i' x).set (i' - 1) y=m1 at hsw ho1
      have hlen1:=hsw.len
      obtain ⟨m2,f1,f2,f3⟩:=pis_l2 a b i' (b:Int) l m1 (by omega) (by omega) (by omega) (by omega) (hlow.of (h3.trans hsw)) ho1
      have hm2:∃ m2',(cond (decide (((i' - a:Nat):Int)≥2)) m2 m1)=m2'∧RP a i' m1 m2'∧InOrder lt a i' m2':=by
       by_cases hh:((i' - a:Nat):Int)≥2
       ·exact ⟨m2,by simp only [decT hh,cond_true],f2,f3⟩
       ·exact ⟨m1,by simp only [decF hh,cond_false],RP.refl _ _ _,fun p q u v k1 k2 k3=>by omega⟩
      obtain ⟨m2',hm2',g2,g3⟩:=hm2
      have hlen2:=g2.len
      obtain ⟨m3,k1,k2⟩:=pis_l3 (a:Int) b i' l m2' (by omega) (by omega) (by omega) (by omega)
      have hm3:∃ m3',(cond (decide (((b - i':Nat):Int)≥2)) m3 m2')=m3'∧RP i' b m2' m3':=by
       by_cases hh:((b - i':Nat):Int)≥2
       ·exact ⟨m3,by simp only [decT hh,cond_true],k2⟩
       ·exact ⟨m2',by simp only [decF hh,cond_false],RP.refl _ _ _⟩
      obtain ⟨m3',hm3',g4⟩:=hm3
      simp only [loopD_eq,e5,decT hc,hwd,beqI hne,decF h50,hw1,hw2,hw3,hw4,hwc,Int.toNat_natCast,hx,hy,Option.getD_some,hm1,f1,hm2',k1,hm3',List.length_set,decT (show i'<m.length by omega),decT (show i' - 1<m.length by omega),decT (show (0:Int)≤(i':Int) by omega),decT (show (0:Int)≤((i' - 1:Nat):Int) by omega),Bool.not_true,Bool.not_false,Bool.true_and,Bool.and_true,cond_true,cond_false,Bool.and_false,Bool.false_and,cond_t,Bool.cond_self]
      exact ⟨trivial,fun _=>⟨⟨i',c+1,m3',rfl,by omega,by omega,by omega,e2,h3.trans (hsw.trans ((g2.mono (Nat.le_refl _) e2).trans (g4.mono (by omega) (Nat.le_refl _)))),g3.of_out g4 (.inl (Nat.le_refl _))⟩,by
       show (5 - (c+1)).toNat<(5 - c).toNat
       omega⟩,fun h=>by cases h⟩
   ·simp only [decF hc,cond_false,Bool.false_and,Bool.not_false]
    exact ⟨trivial,fun h=>(by cases h),fun _=>⟨trivial,h3,fun h=>by cases h⟩⟩)
 obtain ⟨k1,k2,k3,k4⟩:=key
 unfold slices_partialInsertionSortOrdered_int_r
 simp only [loopD_eq,hwa,k1,← k2,Bool.cond_self]
 exact ⟨_,_,rfl,k3,k4⟩
theorem order2_r (i j:Nat) (l:List Int) (s:Int) (hi:i<l.length) (hj:j<l.length):
  ∃ (x y:Nat) (s':Int),slices_order2Ordered_int_r (i:Int) (j:Int) l s=(true,((x:Int),(y:Int),s'))∧((x=i∧y=j)∨(x=j∧y=i)):=by
 unfold slices_order2Ordered_int_r
 simp only [Int.toNat_natCast,less_r,decT hi,decT hj,decT (show (0:Int)≤(i:Int) by omega),decT (show (0:Int)≤(j:Int) by omega),Bool.and_true]
 by_cases hlt:lt ((l[j]?).getD (0:Int)) ((l[i]?).getD (0:Int))
 ·simp only [decT hlt,Bool.not_true,cond_false]
  exact ⟨j,i,_,rfl,.inr ⟨rfl,rfl⟩⟩
 ·simp only [decF hlt,Bool.not_false,cond_true]
  exact ⟨i,j,_,rfl,.inl ⟨rfl,rfl⟩⟩
theorem median_r (i j k:Nat) (l:List Int) (s:Int) (hi:i<l.length) (hj:j<l.length) (hk:k<l.length):
  ∃ (r:Nat) (s':Int),slices_medianOrdered_int_r (i:Int) (j:Int) (k:Int) l s=(true,((r:Int),s'))∧(r=i∨r=j∨r=k):=by
 obtain ⟨x1,y1,s1,e1,h1⟩:=order2_r i j l s hi hj
 obtain ⟨x2,y2,s2,e2,h2⟩:=order2_r y1 k l s1 (by omega) hk
 obtain ⟨x3,y3,s3,e3,h3⟩:=order2_r x1 x2 l s2 (by omega) (by omega)
 unfold slices_medianOrdered_int_r
 simp only [e1,e2,e3,Bool.and_self]
 exact ⟨y3,s3,rfl,by omega⟩
theorem adjacent_r (i:Nat) (l:List Int) (s:Int) (h1:1≤i) (hi:i+1<l.length) (hbig:l.length≤1152921504606846976):
  ∃ (r:Nat) (s':Int),slices_medianAdjacentOrdered_int_r (i:Int) l s=(true,((r:Int),s'))∧i - 1≤r∧r≤i+1:=by
 have hw1:IntKind.i64.wrap ((i:Int) - 1)=((i - 1:Nat):Int):=by rw [wrap_i64 (by omega) (by omega)]; omega
 have hw2:IntKind.i64.wrap ((i:Int)+1)=((i+1:Nat):Int):=by rw [wrap_i64 (by omega) (by omega)]; omega
 obtain ⟨r,s',e,h⟩:=median_r (i - 1) i (i+1) l s (by omega) (by omega) (by omega)
 unfold slices_medianAdjacentOrdered_int_r
 simp only [hw1,hw2,e]
 exact ⟨r,s',rfl,by omega,by omega⟩
theorem pivot_r (a b:Nat) (l:List Int) (hab:a+12<b) (hb:b≤l.length) (hbig:l.length≤1152921504606846976):
  ∃ (k:Nat) (h:Int),slices_choosePivotOrdered_int_r (a:Int) (b:Int) l=(true,((k:Int),h))∧a≤k∧k<b:=by
 have hwd:IntKind.i64.wrap ((b:Int) - (a:Int))=((b - a:Nat):Int):=by rw [wrap_i64 (by omega) (by omega)]; omega
 have hq:IntKind.i64.wrap (Int.tdiv ((b - a:Nat):Int) 4)=(((b - a) / 4:Nat):Int):=by
  rw [show Int.tdiv ((b - a:Nat):Int) 4=(((b - a) / 4:Nat):Int) from rfl,wrap_i64 (by omega) (by omega)]
 have hk:∀ c:Nat,c≤3→IntKind.i64.wrap ((((b - a) / 4:Nat):Int)*(c:Int))=(((b - a) / 4*c:Nat):Int):=fun c hc=>by
  have:c=0∨c=1∨c=2∨c=3:=by omega
  rcases this with rfl | rfl | rfl | rfl<;>(rw [wrap_i64 (by omega) (by omega)]; omega)
 have hk1:=hk 1 (by omega)
 have hk2:=hk 2 (by omega)
 have hk3:=hk 3 (by omega)
 have hi:∀ n:Nat,n≤b - a→IntKind.i64.wrap ((a:Int)+(n:Int))=((a+n:Nat):Int):=fun n hn=>by
  rw [wrap_i64 (by omega) (by omega)]; omega
 have hi1:=hi ((b - a) / 4*1) (by omega)
 have hi2:=hi ((b - a) / 4*2) (by omega)
 have hi3:=hi ((b - a) / 4*3) (by omega)
 obtain ⟨r1,s1,e1,f1,g1⟩:=adjacent_r (a+(b - a) / 4*1) l 0 (by omega) (by omega) hbig
 obtain ⟨r2,s2,e2,f2,g2⟩:=adjacent_r (a+(b - a) / 4*2) l s1 (by omega) (by omega) hbig
 obtain ⟨r3,s3,e3,f3,g3⟩:=adjacent_r (a+(b - a) / 4*3) l s2 (by omega) (by omega) hbig
 have h8:((b - a:Nat):Int)≥8:=by omega
 have c1:((1:Nat):Int)=(1:Int):=rfl
 have c2:((2:Nat):Int)=(2:Int):=rfl
 have c3:((3:Nat):Int)=(3:Int):=rfl
 rw [c1] at hk1; rw [c2] at hk2; rw [c3] at hk3
 unfold slices_choosePivotOrdered_int_r
 by_cases h50:((b - a:Nat):Int)≥50
 ·obtain ⟨k,s',e,hk⟩:=median_r r1 r2 r3 l s3 (by omega) (by omega) (by omega)
  simp only [hwd,hq,hk1,hk2,hk3,hi1,hi2,hi3,decT h8,decT h50,e1,e2,e3,e,cond_true,Bool.and_true,show ((4:Int) !=0)=true from rfl,Bool.cond_self]
  exact ⟨k,_,rfl,by omega,by omega⟩
 ·obtain ⟨k,s',e,hk⟩:=median_r (a+(b - a) / 4*1) (a+(b - a) / 4*2) (a+(b - a) / 4*3) l 0 (by omega) (by omega) (by omega)
  simp only [hwd,hq,hk1,hk2,hk3,hi1,hi2,hi3,decT h8,decF h50,e,cond_true,cond_false,Bool.and_true,show ((4:Int) !=0)=true from rfl,Bool.cond_self]
  exact ⟨k,_,rfl,by omega,by omega⟩
theorem break_r (a b:Nat) (l:List Int) (hab:a≤b) (hb:b≤l.length) (hbig:l.length≤1152921504606846976):
  ∃ m,slices_breakPatternsOrdered_int_r (a:Int) (b:Int) l=(true,m)∧RP a b l m:=by
 have hwd:IntKind.i64.wrap ((b:Int) - (a:Int))=((b - a:Nat):Int):=by rw [wrap_i64 (by omega) (by omega)]; omega
 unfold slices_breakPatternsOrdered_int_r
 by_cases h8:((b - a:Nat):Int)≥8
 ·obtain ⟨M,eM,hM1,hM2⟩:=pow2_r (b - a) (by omega) (by omega)
  have hq:IntKind.i64.wrap (Int.tdiv ((b - a:Nat):Int) 4)=(((b - a) / 4:Nat):Int):=by
   rw [show Int.tdiv ((b - a:Nat):Int) 4=(((b - a) / 4:Nat):Int) from rfl,wrap_i64 (by omega) (by omega)]
  have hq2:IntKind.i64.wrap ((((b - a) / 4:Nat):Int)*2)=(((b - a) / 4*2:Nat):Int):=by
   rw [wrap_i64 (by omega) (by omega)]; omega
  have hq3:IntKind.i64.wrap ((a:Int)+(((b - a) / 4*2:Nat):Int))=((a+(b - a) / 4*2:Nat):Int):=by
   rw [wrap_i64 (by omega) (by omega)]; omega
  have hq4:IntKind.i64.wrap (((a+(b - a) / 4*2:Nat):Int) - 1)=((a+(b - a) / 4*2 - 1:Nat):Int):=by
   rw [wrap_i64 (by omega) (by omega)]; omega
  have hq5:IntKind.i64.wrap (((a+(b - a) / 4*2:Nat):Int)+1)=((a+(b - a) / 4*2+1:Nat):Int):=by
   rw [wrap_i64 (by omega) (by omega)]; omega
  generalize hlo:a+(b - a) / 4*2=lo at*
  have key:=loopR_by (d:=HL.dflt [.bool,(.fl (.int .i64)),.int .u64]) (step:=slices_breakPatternsOrdered_int_l0 (a:Int) (b:Int) l)
   (fun s:Int × List Int × Int × Unit=>∃ (i:Nat) (m:List Int) (r:Int),s=((i:Int),m,r,())∧a≤i∧i≤lo+2∧RP a b l m) (fun s=>lo+2 - s.1.toNat)
   (fun r:Bool × List Int × Int × Unit=>RP a b l r.2.1) (((lo - 1:Nat):Int),l,(IntKind.u64.wrap ((b - a:Nat):Int)),())
   ⟨lo - 1,l,_,rfl,by omega,by omega,RP.refl _ _ _⟩ (by
    rintro _ ⟨i,m,r,rfl,h1,h2,h3⟩
    have hlen:=h3.len
    obtain ⟨r',er⟩:=next_r r
    obtain ⟨x,ex,hx⟩:=band_r r' M hM1 (by omega)
    have hoth:∃ y:Nat,IntKind.i64.wrap ((a:Int)+cond (decide ((x:Int)≥((b - a:Nat):Int))) (IntKind.i64.wrap ((x:Int) - ((b - a:Nat):Int))) (x:Int))=(y:Int)∧a≤y∧y<b:=by
     by_cases hxx:(x:Int)≥((b - a:Nat):Int)
     ·refine ⟨a+(x - (b - a)),?_,by omega,by omega⟩
      simp only [decT hxx,cond_true]
      rw [wrap_i64 (x:=(x:Int) - ((b - a:Nat):Int)) (by omega) (by omega),wrap_i64 (by omega) (by omega)]
      omega
     ·refine ⟨a+x,?_,by omega,by omega⟩
      simp only [decF hxx,cond_false]
      rw [wrap_i64 (by omega) (by omega)]
      omega
    obtain ⟨y,ey,hy1,hy2⟩:=hoth
    unfold slices_breakPatternsOrdered_int_l0
    have hne:((4:Int) !=0)=true:=rfl
    by_cases hi:i≤lo+1
    ·have g1:(i:Int)≤((lo+1:Nat):Int):=by omega
     have hw:IntKind.i64.wrap ((i:Int)+1)=((i+1:Nat):Int):=by rw [wrap_i64 (by omega) (by omega)]; omega
     have hu:m[i]? =some (m[i]'(by omega)):=List.getElem?_eq_getElem (by omega)
     have hv:m[y]? =some (m[y]'(by omega)):=List.getElem?_eq_getElem (by omega)
     generalize m[i]'(by omega)=u at hu
     generalize m[y]'(by omega)=v at hv
     simp only [hwd,eM,hq,hq2,hq3,hq5,decT g1,er,ex,ey,hw,hne,Int.toNat_natCast,hu,hv,Option.getD_some,List.length_set,decT (show i<m.length by omega),decT (show y<m.length by omega),decT (show (0:Int)≤(i:Int) by omega),decT (show (0:Int)≤(y:Int) by omega),cond_true,Bool.and_true]
     exact ⟨trivial,fun _=>⟨⟨i+1,_,r',rfl,by omega,by omega,h3.trans (RP.swap' hu hv (by omega) (by omega) (by omega) (by omega))⟩,by
      show lo+2 - (((i+1:Nat):Int)).toNat<lo+2 - ((i:Int)).toNat
      omega⟩,fun h=>by cases h⟩
    ·have g1:¬ (i:Int)≤((lo+1:Nat):Int):=by omega
     simp only [hwd,eM,hq,hq2,hq3,hq5,decF g1,hne,cond_false,Bool.and_true]
     exact ⟨trivial,fun h=>(by cases h),fun _=>h3⟩)
  simp only [loopD_eq,hwd,eM,hq,hq2,hq3,hq4,decT h8,cond_true,show ((4:Int) !=0)=true from rfl,Bool.true_and]
  exact ⟨_,Prod.ext key.1 rfl,key.2⟩
 ·simp only [hwd,decF h8,cond_false]
  exact ⟨l,rfl,RP.refl _ _ _⟩
def Pend (a0 a b b0:Nat) (m:List Int):Prop:=∀ p q x y,a0≤p→p<q→q<b0→(p<a∨b≤q)→m[p]? =some x→m[q]? =some y→¬ lt y x
theorem Pend.start (a b:Nat) (m:List Int):Pend a a b b m:=fun p q x y h1 h2 h3 h4=>by omega
theorem Pend.keep {a0 a b b0:Nat} {m m':List Int} (ha:a0≤a) (hb:b≤b0) (h:Pend a0 a b b0 m) (hr:RP a b m m'):Pend a0 a b b0 m':=by
 intro p q x y h1 h2 h3 h4 hx hy
 rcases h4 with h4 | h4
 ·rw [hr.out p (.inl h4)] at hx
  by_cases hq:a≤q∧q<b
  ·exact hr.all (P:=fun y=>¬ lt y x) (fun j z k1 k2 k3=>h p j x z h1 (by omega) (by omega) (.inl h4) hx k3) q y hq.1 hq.2 hy
  ·rw [hr.out q (by omega)] at hy
   exact h p q x y h1 h2 h3 (.inl h4) hx hy
 ·rw [hr.out q (.inr h4)] at hy
  by_cases hp:a≤p∧p<b
  ·exact hr.all (P:=fun x=>¬ lt y x) (fun j z k1 k2 k3=>h j q z y (by omega) (by omega) h3 (.inr h4) k3 hy) p x hp.1 hp.2 hx
  ·rw [hr.out p (by omega)] at hx
   exact h p q x y h1 h2 h3 (.inr h4) hx hy
theorem Pend.done {a0 a b b0:Nat} {m:List Int} (h:Pend a0 a b b0 m) (ho:InOrder lt a b m):InOrder lt a0 b0 m:=by
 intro p q x y h1 h2 h3 hx hy
 by_cases hh:p<a∨b≤q
 ·exact h p q x y h1 h2 h3 hh hx hy
 ·exact ho p q x y (by omega) h2 (by omega) hx hy
theorem Split.keepL {a k b:Nat} {m m':List Int} {p:Int} (h:Split a k b m p) (hr:RP a k m m'):Split a k b m' p:=
 ⟨by rw [hr.out k (.inr (Nat.le_refl _))]; exact h.at',fun i x h1 h2 h3=>hr.all (P:=fun x=>lt x p) h.left i x h1 h2 h3,fun i x h1 h2 h3=>by
  rw [hr.out i (.inr (by omega))] at h3; exact h.right i x h1 h2 h3⟩
theorem Split.keepR {a k b:Nat} {m m':List Int} {p:Int} (h:Split a k b m p) (hr:RP (k+1) b m m'):Split a k b m' p:=
 ⟨by rw [hr.out k (.inl (by omega))]; exact h.at',fun i x h1 h2 h3=>by
  rw [hr.out i (.inl (by omega))] at h3; exact h.left i x h1 h2 h3,fun i x h1 h2 h3=>hr.all (P:=fun x=>¬ lt x p) (fun j z k1 k2 k3=>h.right j z (by omega) k2 k3) i x (by omega) h2 h3⟩
theorem Pend.left {a0 a k b b0:Nat} {m:List Int} {p:Int} (h:Pend a0 a b b0 m) (hs:Split a k b m p) (ho:InOrder lt a k m):Pend a0 (k+1) b b0 m:=by
 intro i j x y h1 h2 h3 h4 hx hy
 by_cases hh:i<a∨b≤j
 ·exact h i j x y h1 h2 h3 hh hx hy
 ·have hik:i≤k:=by omega
  have key:∀ z,m[i]? =some z→i=k→z=p:=fun z hz hi=>by
   subst hi; rw [hs.at'] at hz; injection hz with hz; exact hz.symm
  rcases Nat.lt_or_ge j k with hj | hj
  ·exact ho i j x y (by omega) h2 hj hx hy
  ·by_cases hjk:j=k
   ·subst hjk
    rw [hs.at'] at hy; injection hy with hy; subst hy
    exact lt_asym _ _ (hs.left i x (by omega) (by omega) hx)
   ·have hyp:=hs.right j y (by omega) (by omega) hy
    by_cases hi:i=k
    ·rw [key x hx hi]; exact hyp
    ·exact le_trans' x p y (lt_asym _ _ (hs.left i x (by omega) (by omega) hx)) hyp
theorem Pend.right {a0 a k b b0:Nat} {m:List Int} {p:Int} (h:Pend a0 a b b0 m) (hs:Split a k b m p) (ho:InOrder lt (k+1) b m):Pend a0 a k b0 m:=by
 intro i j x y h1 h2 h3 h4 hx hy
 by_cases hh:i<a∨b≤j
 ·exact h i j x y h1 h2 h3 hh hx hy
 ·rcases Nat.lt_or_ge k i with hi | hi
  ·exact ho i j x y (by omega) h2 (by omega) hx hy
  ·by_cases hik:i=k
   ·subst hik
    rw [hs.at'] at hx; injection hx with hx; subst hx
    exact hs.right j y (by omega) (by omega) hy
   ·have hxp:=lt_asym _ _ (hs.left i x (by omega) (by omega) hx)
    by_cases hjk:j=k
    ·subst hjk
     rw [hs.at'] at hy; injection hy with hy; subst hy
     exact hxp
    ·exact le_trans' x p y hxp (hs.right j y (by omega) (by omega) hy)
theorem Pend.equal {a0 a k b b0:Nat} {m:List Int} {p z:Int} (h:Pend a0 a b b0 m) (ha:0<a) (hz:m[a - 1]? =some z) (hlow:Low a b m) (hpz:¬ lt z p) (hs:PartAt (fun x=>¬ lt p x) a k k b m):Pend a0 k b b0 m:=by
 intro i j x y h1 h2 h3 h4 hx hy
 by_cases hh:i<a∨b≤j
 ·exact h i j x y h1 h2 h3 hh hx hy
 ·have hlx:¬ lt z x:=le_trans' x p z (hs.left i x (by omega) (by omega) hx) hpz
  have hly:¬ lt y z:=by
   rcases hlow with h0 | h0
   ·omega
   ·exact h0 j y z (by omega) (by omega) hy hz
  exact le_trans' x z y hlx hly
theorem InOrder_pair {a b:Nat} {m:List Int} (h:InOrder lt a b m):((m.take b).drop a).Pairwise (fun x y=>¬ lt y x):=by
 rw [List.pairwise_iff_getElem]
 intro i j hi hj hij
 simp only [List.length_drop,List.length_take] at hi hj
 rw [List.getElem_drop,List.getElem_drop,List.getElem_take,List.getElem_take]
 exact h (a+i) (a+j) _ _ (by omega) (by omega) (by omega) (List.getElem?_eq_getElem (by omega)) (List.getElem?_eq_getElem (by omega))
theorem sorted_one {a b:Nat} {l v w:List Int} (hab:a≤b) (hv:RP a b l v) (hw:RP a b l w) (ov:InOrder lt a b v) (ow:InOrder lt a b w):v=w:=by
 have hm:(v.take b).drop a=(w.take b).drop a:=perm_sorted_eq (R:=fun x y=>¬ lt y x) (fun x y h1 h2=>le_anti x y h1 h2) ((hv.mid hab).trans (hw.mid hab).symm) (InOrder_pair ov) (InOrder_pair ow)
 apply List.ext_getElem?
 intro i
 by_cases hi:a≤i∧i<b
 ·have:=congrArg (fun l=>l[i - a]?) hm
  simp only [List.getElem?_drop,List.getElem?_take] at this
  rw [show a+(i - a)=i by omega,if_pos hi.2,if_pos hi.2] at this
  exact this
 ·rw [hv.out i (by omega),hw.out i (by omega)]
abbrev PqIn:=HL slices_pdqsortOrdered_int_e.ins
def PqI (x:Int × Int × Int × List Int × Unit):Prop:=∃ (a b:Nat) (lim:Int) (l:List Int),x=((a:Int),(b:Int),lim,l,())∧a≤b∧b≤l.length∧l.length≤1152921504606846976∧Low a b l
def PqP (x:Int × Int × Int × List Int × Unit) (v:List Int × Unit):Prop:=RP x.1.toNat x.2.1.toNat x.2.2.2.1 v.1∧InOrder lt x.1.toNat x.2.1.toNat v.1
theorem pdq_round (g:(Int × Int × Int × List Int × Unit)→Bool × (List Int × Unit)) (a0 b0:Nat) (A1 A2 A3:Int) (L l:List Int) (hb0:b0≤l.length) (hbig:l.length≤1152921504606846976)
  (hg:∀ y,PqI y→y.2.1.toNat - y.1.toNat<b0 - a0→(g y).1=true∧PqP y (g y).2)
  (a b:Nat) (wp wb:Bool) (lim:Int) (m:List Int) (h1:a0≤a) (h2:a≤b) (h3:b≤b0) (h4:RP a0 b0 l m) (h5:Pend a0 a b b0 m) (h6:Low a b m):
  (slices_pdqsortOrdered_int_s_l0 g A1 A2 A3 L ((b:Int),(a:Int),wp,wb,lim,m,())).1=true∧
  ((slices_pdqsortOrdered_int_s_l0 g A1 A2 A3 L ((b:Int),(a:Int),wp,wb,lim,m,())).2.1=true→
   ∃ (a' b':Nat) (wp' wb':Bool) (lim':Int) (m':List Int),(slices_pdqsortOrdered_int_s_l0 g A1 A2 A3 L ((b:Int),(a:Int),wp,wb,lim,m,())).2.2.1=((b':Int),(a':Int),wp',wb',lim',m',())∧a0≤a'∧a'≤b'∧b'≤b0∧b' - a'<b - a∧RP a0 b0 l m'∧Pend a0 a' b' b0 m'∧Low a' b' m')∧
  ((slices_pdqsortOrdered_int_s_l0 g A1 A2 A3 L ((b:Int),(a:Int),wp,wb,lim,m,())).2.1=false→
   RP a0 b0 l (slices_pdqsortOrdered_int_s_l0 g A1 A2 A3 L ((b:Int),(a:Int),wp,wb,lim,m,())).2.2.2.2.1∧InOrder lt a0 b0 (slices_pdqsortOrdered_int_s_l0 g A1 A2 A3 L ((b:Int),(a:Int),wp,wb,lim,m,())).2.2.2.2.1):=by
 have hlen:=h4.len
 have hwd:IntKind.i64.wrap ((b:Int) - (a:Int))=((b - a:Nat):Int):=by rw [wrap_i64 (by omega) (by omega)]; omega
 unfold slices_pdqsortOrdered_int_s_l0
 by_cases h12:((b - a:Nat):Int)≤12
 ·obtain ⟨m',e1,e2,e3⟩:=ins_r a b m (by omega) h2 (by omega)
  simp only [hwd,decT h12,e1,Bool.not_true,Bool.not_false,Bool.false_and,Bool.or_false,cond_true,cond_false,Bool.and_true]
  exact ⟨trivial,fun h=>(by cases h),fun _=>⟨h4.trans (e2.mono h1 h3),(h5.keep h1 h3 e2).done e3⟩⟩
 ·by_cases hl:lim=0
  ·subst hl
   obtain ⟨m',e1,e2,e3⟩:=heap_r a b m (by omega) h2 (by omega)
   simp only [hwd,decF h12,beq_self_eq_true,e1,Bool.not_true,Bool.not_false,Bool.false_and,Bool.and_false,Bool.or_false,cond_true,cond_false,Bool.and_true,Bool.true_and]
   exact ⟨trivial,fun h=>(by cases h),fun _=>⟨h4.trans (e2.mono h1 h3),(h5.keep h1 h3 e2).done e3⟩⟩
  ·
   have s1:∃ m1,cond (!wb) (slices_breakPatternsOrdered_int_r (a:Int) (b:Int) m).2 m=m1∧cond (!wb) (slices_breakPatternsOrdered_int_r (a:Int) (b:Int) m).1 true=true∧RP a b m m1:=by
    obtain ⟨m',e1,e2⟩:=break_r a b m h2 (by omega) (by omega)
    cases wb
    ·exact ⟨m',by rw [e1]; rfl,by rw [e1]; rfl,e2⟩
    ·exact ⟨m,rfl,rfl,RP.refl _ _ _⟩
   obtain ⟨m1,e1,e1',r1⟩:=s1
   have hl1:=r1.len
   obtain ⟨k,hint,e2,k1,k2⟩:=pivot_r a b m1 (by omega) (by omega) (by omega)
   have s3:∃ m2,cond (hint==2) (slices_reverseRangeOrdered_int_r (a:Int) (b:Int) m1).2 m1=m2∧cond (hint==2) (slices_reverseRangeOrdered_int_r (a:Int) (b:Int) m1).1 true=true∧RP a b m1 m2:=by
    obtain ⟨m',e1,e2⟩:=rev_r a b m1 (by omega) h2 (by omega)
    cases hint==2
    ·exact ⟨m1,rfl,rfl,RP.refl _ _ _⟩
    ·exact ⟨m',by rw [e1]; rfl,by rw [e1]; rfl,e2⟩
   obtain ⟨m2,e3,e3',r2⟩:=s3
   have hl2:=r2.len
   have s4:∃ pv:Nat,cond (hint==2) (IntKind.i64.wrap (IntKind.i64.wrap ((b:Int) - 1) - IntKind.i64.wrap ((k:Int) - (a:Int)))) (k:Int)=(pv:Int)∧a≤pv∧pv<b:=by
    cases hint==2
    ·exact ⟨k,rfl,k1,k2⟩
    ·refine ⟨b - 1 - (k - a),?_,by omega,by omega⟩
     rw [wrap_i64 (x:=(b:Int) - 1) (by omega) (by omega),wrap_i64 (x:=(k:Int) - (a:Int)) (by omega) (by omega),cond_true,wrap_i64 (by omega) (by omega)]
     omega
   obtain ⟨pv,e4,pv1,pv2⟩:=s4
   have low2:Low a b m2:=h6.of (r1.trans r2)
   obtain ⟨c,m3,e5,r3,o3⟩:=pis_r a b m2 (by omega) (by omega) (by omega) low2
   have hl3:=r3.len
   simp only [hwd,decF h12,beqI hl,e1,e1',e2,e3,e3',e4,e5,Bool.not_true,Bool.not_false,cond_true,cond_false,Bool.and_true,Bool.true_and,Bool.and_self,Bool.cond_self]
   generalize ht:cond (cond wb wp false) (cond (hint==2) (1:Int) hint==1) false=t
   by_cases hct:(c && t)=true
   ·
    simp only [Bool.and_eq_true] at hct
    obtain ⟨rfl,rfl⟩:=hct
    simp only [cond_true,cond_false,Bool.not_true,Bool.false_and,Bool.and_false,Bool.or_false,Bool.and_true,Bool.cond_self,Bool.or_self]
    exact ⟨by cases wb<;>cases wp<;>rfl,fun h=>(by cases h),fun _=>⟨h4.trans ((r1.trans (r2.trans r3)).mono h1 h3),(h5.keep h1 h3 (r1.trans (r2.trans r3))).done (o3 rfl)⟩⟩
   ·have hgo:cond t (!c) true=true:=by cases c<;>cases t<;>simp_all
    have hcf:(c && t)=false:=by simpa using hct
    have s6:∃ m4,cond t m3 m2=m4∧RP a b m2 m4:=by
     cases t
     ·exact ⟨m2,rfl,RP.refl _ _ _⟩
     ·exact ⟨m3,rfl,r3⟩
    obtain ⟨m4,e6,r4⟩:=s6
    have hl4:=r4.len
    have rr:RP a b m m4:=r1.trans (r2.trans r4)
    have low4:Low a b m4:=h6.of rr
    have pend4:=h5.keep h1 h3 rr
    have hp:m4[pv]? =some (m4[pv]'(by omega)):=List.getElem?_eq_getElem (by omega)
    generalize m4[pv]'(by omega)=p at hp
    simp only [hgo,hcf,e6,Int.toNat_natCast,hp,Option.getD_some,less_r,cond_true,Bool.and_true,Bool.true_and,Bool.cond_self]
    have hT:∀ x:Bool,cond x x true=true:=fun x=>by cases x<;>rfl
    have fin:∀ (hq:¬ ((a:Int)>0∧¬ lt ((m4[((IntKind.i64.wrap ((a:Int) - 1))).toNat]?).getD 0) p)),cond (decide ((a:Int)>0)) (!decide (lt ((m4[((IntKind.i64.wrap ((a:Int) - 1))).toNat]?).getD 0) p)) false=false:=fun hq=>by
     by_cases ha:(a:Int)>0
     ·simp only [decT ha,cond_true]
      by_cases hh:lt ((m4[((IntKind.i64.wrap ((a:Int) - 1))).toNat]?).getD 0) p
      ·simp only [decT hh,Bool.not_true]
      ·exact absurd ⟨ha,hh⟩ hq
     ·simp only [decF ha,cond_false]
    by_cases hq:(a:Int)>0∧¬ lt ((m4[((IntKind.i64.wrap ((a:Int) - 1))).toNat]?).getD 0) p
    ·obtain ⟨ha,hcmp⟩:=hq
     obtain ⟨kq,mq,f1,f2,f3,f4,f5⟩:=peq_r a b pv m4 pv1 pv2 (by omega) (by omega) p hp
     have hw1:IntKind.i64.wrap ((a:Int) - 1)=((a - 1:Nat):Int):=by rw [wrap_i64 (by omega) (by omega)]; omega
     rw [hw1] at hcmp ⊢
     have hz:m4[a - 1]? =some (m4[a - 1]'(by omega)):=List.getElem?_eq_getElem (by omega)
     generalize m4[a - 1]'(by omega)=z at hz
     rw [Int.toNat_natCast,hz,Option.getD_some] at hcmp
     simp only [decT ha,Int.toNat_natCast,hz,Option.getD_some,decF hcmp,f1,cond_true,cond_false,Bool.not_false,Bool.not_true,Bool.and_false,Bool.and_true,Bool.true_and,Bool.false_or,Bool.false_and,decT (show a - 1<m4.length by omega),decT (show pv<m4.length by omega),decT (show (0:Int)≤((a - 1:Nat):Int) by omega),decT (show (0:Int)≤(pv:Int) by omega),Bool.cond_self,hT,Bool.and_self]
     refine ⟨trivial,fun _=>⟨kq,b,_,_,_,mq,rfl,by omega,f3,h3,by omega,h4.trans ((rr.trans f4).mono h1 h3),?_,?_⟩,fun h=>by cases h⟩
     ·exact ((pend4.keep h1 h3 f4).equal (by omega) (by rw [f4.out (a - 1) (.inl (by omega))]; exact hz) (low4.of f4) hcmp f5)
     ·refine .inr fun i x u k1 k2 k3 k4=> ?_
      exact ((Pend.start a b mq).equal (by omega) (by rw [f4.out (a - 1) (.inl (by omega))]; exact hz) (low4.of f4) hcmp f5) (kq - 1) i u x (by omega) (by omega) k2 (.inl (by omega)) k4 k3
    ·have hqf:=fin hq
     obtain ⟨kp,done,mp,p',f1,f2,f3,f4,f5⟩:=part_r a b pv m4 pv1 pv2 (by omega) (by omega)
     have hl5:=f4.len
     have lowp:=low4.of f4
     have pendp:=pend4.keep h1 h3 f4
     have hwl:IntKind.i64.wrap ((kp:Int) - (a:Int))=((kp - a:Nat):Int):=by rw [wrap_i64 (by omega) (by omega)]; omega
     have hwr:IntKind.i64.wrap ((b:Int) - (kp:Int))=((b - kp:Nat):Int):=by rw [wrap_i64 (by omega) (by omega)]; omega
     have hwk:IntKind.i64.wrap ((kp:Int)+1)=((kp+1:Nat):Int):=by rw [wrap_i64 (by omega) (by omega)]; omega
     have hchk:∀ x:Bool,cond (decide ((a:Int)>0)) (decide ((a:Int)>0) && (decide ((a:Int)>0) && (decide (0≤IntKind.i64.wrap ((a:Int) - 1)) && decide ((IntKind.i64.wrap ((a:Int) - 1)).toNat<m4.length)))) true=true:=fun _=>by
      by_cases ha:(a:Int)>0
      ·have hw1:IntKind.i64.wrap ((a:Int) - 1)=((a - 1:Nat):Int):=by rw [wrap_i64 (by omega) (by omega)]; omega
       simp only [decT ha,hw1,Int.toNat_natCast,decT (show a - 1<m4.length by omega),decT (show (0:Int)≤((a - 1:Nat):Int) by omega),cond_true,Bool.and_self]
      ·simp only [decF ha,cond_false]
     have hchk2:cond (decide ((a:Int)>0)) (decide ((a:Int)>0) && decide ((IntKind.i64.wrap ((a:Int) - 1)).toNat<m4.length)) true=true:=by
      by_cases ha:(a:Int)>0
      ·have hw1:IntKind.i64.wrap ((a:Int) - 1)=((a - 1:Nat):Int):=by rw [wrap_i64 (by omega) (by omega)]; omega
       simp only [decT ha,hw1,Int.toNat_natCast,decT (show a - 1<m4.length by omega),cond_true,Bool.and_self]
      ·simp only [decF ha,cond_false]
     have hT2:∀ x:Bool,cond x (x && (x && true)) true=true:=fun x=>by cases x<;>rfl
     have hT3:∀ x:Bool,cond x (x && x) true=true:=fun x=>by cases x<;>rfl
     have hT4:∀ x:Bool,cond x (x && (x && x)) true=true:=fun x=>by cases x<;>rfl
     by_cases hlr:((kp - a:Nat):Int)<((b - kp:Nat):Int)
     ·have hI:PqI ((a:Int),(kp:Int),cond (!wb) (IntKind.i64.wrap (lim - 1)) lim,mp,()):=⟨a,kp,_,mp,rfl,f2,by omega,by omega,by
       rcases lowp with h0 | h0
       ·exact .inl h0
       ·exact .inr fun i x z k1 k2 k3 k4=>h0 i x z k1 (by omega) k3 k4⟩
      obtain ⟨g1,g2,g3⟩:=hg _ hI (by show (kp:Int).toNat - (a:Int).toNat<b0 - a0; omega)
      simp only [Int.toNat_natCast] at g2 g3
      simp only [hqf,f1,hwl,hwr,hwk,decT hlr,g1,hchk true,hchk2,hT,hT2,hT3,hT4,cond_true,cond_false,Bool.not_false,Bool.not_true,Bool.and_true,Bool.true_and,Bool.and_false,Bool.or_false,decT (show pv<m4.length by omega),decT (show (0:Int)≤(pv:Int) by omega),Bool.and_self,show ((8:Int) !=0)=true from rfl]
      refine ⟨g1,fun _=>⟨kp+1,b,_,_,_,_,rfl,by omega,by omega,h3,by omega,h4.trans (((rr.trans f4).trans (g2.mono (Nat.le_refl _) (by omega))).mono h1 h3),?_,?_⟩,fun h=>by cases h⟩
      ·exact (pendp.keep h1 h3 (g2.mono (Nat.le_refl _) (by omega))).left (f5.keepL g2) g3
      ·refine .inr fun i x u k1 k2 k3 k4=> ?_
       have hs:=f5.keepL g2
       have hu:u=p':=Option.some.inj (k4.symm.trans hs.at')
       rw [hu]
       exact hs.right i x (by omega) k2 k3
     ·have hI:PqI (((kp+1:Nat):Int),(b:Int),cond (!wb) (IntKind.i64.wrap (lim - 1)) lim,mp,()):=⟨kp+1,b,_,mp,rfl,by omega,by omega,by omega,.inr fun i x u k1 k2 k3 k4=>by
       rw [show kp+1 - 1=kp by omega,f5.at'] at k4
       injection k4 with k4; subst k4
       exact f5.right i x (by omega) k2 k3⟩
      obtain ⟨g1,g2,g3⟩:=hg _ hI (by show (b:Int).toNat - ((kp+1:Nat):Int).toNat<b0 - a0; omega)
      simp only [Int.toNat_natCast] at g2 g3
      simp only [hqf,f1,hwl,hwr,hwk,decF hlr,g1,hchk true,hchk2,hT,hT2,hT3,hT4,cond_true,cond_false,Bool.not_false,Bool.not_true,Bool.and_true,Bool.true_and,Bool.and_false,Bool.or_false,decT (show pv<m4.length by omega),decT (show (0:Int)≤(pv:Int) by omega),Bool.and_self,show ((8:Int) !=0)=true from rfl]
      refine ⟨g1,fun _=>⟨a,kp,_,_,_,_,rfl,by omega,by omega,by omega,by omega,h4.trans (((rr.trans f4).trans (g2.mono (by omega) (Nat.le_refl _))).mono h1 h3),?_,?_⟩,fun h=>by cases h⟩
      ·exact (pendp.keep h1 h3 (g2.mono (by omega) (Nat.le_refl _))).right (f5.keepR g2) g3
      ·have lowq:=lowp.of (g2.mono (by omega) (Nat.le_refl _))
       rcases lowq with h0 | h0
       ·exact .inl h0
       ·exact .inr fun i x z k1 k2 k3 k4=>h0 i x z k1 (by omega) k3 k4
theorem pq_uniq (x:Int × Int × Int × List Int × Unit) (v w:List Int × Unit) (hI:PqI x) (hv:PqP x v) (hw:PqP x w):v=w:=by
 obtain ⟨a,b,lim,l,rfl,h1,h2,h3,h4⟩:=hI
 obtain ⟨k1,k2⟩:=hv
 obtain ⟨k3,k4⟩:=hw
 exact Prod.ext (sorted_one (show (a:Int).toNat≤(b:Int).toNat by omega) k1 k3 k2 k4) rfl
noncomputable def pqS (g:(Int × Int × Int × List Int × Unit)→Bool × (List Int × Unit)) (x:Int × Int × Int × List Int × Unit):Bool × (List Int × Unit):=slices_pdqsortOrdered_int_s g x
theorem pqS_eq (g:(Int × Int × Int × List Int × Unit)→Bool × (List Int × Unit)) (a b:Nat) (lim:Int) (l:List Int):pqS g ((a:Int),(b:Int),lim,l,())=
  ((loopR (HL.dflt [.bool,(.fl (.int .i64))]) (slices_pdqsortOrdered_int_s_l0 g (a:Int) (b:Int) lim l) ((b:Int),(a:Int),true,true,lim,l,())).1,
   ((loopR (HL.dflt [.bool,(.fl (.int .i64))]) (slices_pdqsortOrdered_int_s_l0 g (a:Int) (b:Int) lim l) ((b:Int),(a:Int),true,true,lim,l,())).2.2.1,())):=rfl
theorem pq_step (g:(Int × Int × Int × List Int × Unit)→Bool × (List Int × Unit)) (x:Int × Int × Int × List Int × Unit) (hI:PqI x)
  (hg:∀ y,PqI y→y.2.1.toNat - y.1.toNat<x.2.1.toNat - x.1.toNat→(g y).1=true∧PqP y (g y).2):(pqS g x).1=true∧PqP x (pqS g x).2:=by
 obtain ⟨a,b,lim,l,rfl,h1,h2,h3,h4⟩:=hI
 simp only [Int.toNat_natCast] at hg
 rw [pqS_eq]
 have key:=loopR_by (d:=HL.dflt [.bool,(.fl (.int .i64))]) (step:=slices_pdqsortOrdered_int_s_l0 g (a:Int) (b:Int) lim l)
  (fun s:Int × Int × Bool × Bool × Int × List Int × Unit=>∃ (a' b':Nat) (wp' wb':Bool) (lim':Int) (m':List Int),s=((b':Int),(a':Int),wp',wb',lim',m',())∧a≤a'∧a'≤b'∧b'≤b∧RP a b l m'∧Pend a a' b' b m'∧Low a' b' m')
  (fun s=>s.1.toNat - s.2.1.toNat) (fun r:Bool × List Int × Unit=>RP a b l r.2.1∧InOrder lt a b r.2.1) ((b:Int),(a:Int),true,true,lim,l,())
  ⟨a,b,true,true,lim,l,rfl,Nat.le_refl _,h1,Nat.le_refl _,RP.refl _ _ _,Pend.start a b l,h4⟩ (by
   rintro _ ⟨a',b',wp,wb,lim',m,rfl,k1,k2,k3,k4,k5,k6⟩
   obtain ⟨r1,r2,r3⟩:=pdq_round g a b (a:Int) (b:Int) lim l l h2 h3 hg a' b' wp wb lim' m k1 k2 k3 k4 k5 k6
   generalize slices_pdqsortOrdered_int_s_l0 g (a:Int) (b:Int) lim l ((b':Int),(a':Int),wp,wb,lim',m,())=z at r1 r2 r3 ⊢
   obtain ⟨z1,z2,z3,z4⟩:=z
   refine ⟨r1,fun h=> ?_,r3⟩
   obtain ⟨a2,b2,wp2,wb2,lim2,m2,e,q1,q2,q3,q4,q5,q6,q7⟩:=r2 h
   have e:z3=_:=e
   subst e
   exact ⟨⟨a2,b2,wp2,wb2,lim2,m2,rfl,q1,q2,q3,q5,q6,q7⟩,by
    show (b2:Int).toNat - (a2:Int).toNat<(b':Int).toNat - (a':Int).toNat
    omega⟩)
 refine ⟨key.1,?_⟩
 unfold PqP
 simp only [Int.toNat_natCast]
 exact key.2
theorem pdq_r (l:List Int) (lim:Int) (hbig:l.length≤1152921504606846976):∃ m,slices_pdqsortOrdered_int_r (0:Int) (l.length:Int) lim l=(true,m)∧m.Perm l∧InOrder lt 0 l.length m:=by
 have key:=recF_rel (e:=slices_pdqsortOrdered_int_e) (step:=slices_pdqsortOrdered_int_s) PqI (fun x:Int × Int × Int × List Int × Unit=>x.2.1.toNat - x.1.toNat) PqP pq_uniq pq_step
  ((0:Int),(l.length:Int),lim,l,()) ⟨0,l.length,lim,l,rfl,Nat.zero_le _,Nat.le_refl _,hbig,.inl rfl⟩
 obtain ⟨k1,k2,k3⟩:=key
 unfold slices_pdqsortOrdered_int_r
 exact ⟨_,Prod.ext k1 rfl,k2.perm,k3⟩
def Sorted (l:List Int):Prop:=l.Pairwise (fun x y=>¬ lt y x)
theorem sortFunc_r (l:List Int) (hbig:l.length≤1152921504606846976):∃ m,slices_Sort_int_r l=(true,m)∧m.Perm l∧Sorted m:=by
 obtain ⟨L,e,h1,h2⟩:=len_r l.length (by omega)
 obtain ⟨m,e2,h3,h4⟩:=pdq_r l (L:Int) hbig
 unfold slices_Sort_int_r
 rw [u64_id _ (by omega)]
 simp only [e,e2,Bool.and_self]
 refine ⟨m,rfl,h3,?_⟩
 have:=InOrder_pair h4
 rw [← h3.length_eq,List.take_length,List.drop_zero] at this
 exact this
theorem sorted_unique {l m k:List Int} (h1:m.Perm l) (h2:k.Perm l) (h3:Sorted m) (h4:Sorted k):m=k:=
 perm_sorted_eq (R:=fun x y=>¬ lt y x) (fun x y a b=>le_anti x y a b) (h1.trans h2.symm) h3 h4
end Go.Proofs.Ytoaegfcmfkalfaa.T.I
namespace Go.Proofs.Ytoaegfcmfkalfaa.T
open Go.Vm Go.Tm
set_option linter.unusedVariables false
set_option linter.unusedSimpArgs false
theorem concatI_r (x y:List Int) (hx:x.length≤1000) (hy:y.length≤1000):slices_Concat_int_r [x,y]=(true,x++y):=by
 have hw1:IntKind.i64.wrap (x.length:Int)=(x.length:Int):=wrap_i64 (by omega) (by omega)
 have hw2:IntKind.i64.wrap ((x.length:Int)+(y.length:Int))=((x.length+y.length:Nat):Int):=by rw [wrap_i64 (by omega) (by omega)]; omega
 have hn1:¬ (x.length:Int)<0:=by omega
 have hn2:¬ ((x.length+y.length:Nat):Int)<0:=by omega
 have a0:RGo (slices_Concat_int_l0 [x,y] ((0:Int),(0:Int),())) ((1:Int),(x.length:Int),()):=by
  unfold slices_Concat_int_l0 RGo
  have h1:(decide ((0:Int)<(([x,y]:List (List Int)).length:Int)))=true:=rfl
  have h2:(decide ((Int.toNat 0)<([x,y]:List (List Int)).length))=true:=rfl
  have h3:IntKind.i64.wrap ((0:Int)+1)=1:=rfl
  have h4:((([x,y]:List (List Int))[Int.toNat 0]?).getD [])=x:=rfl
  simp only [h1,h2,h3,h4,Int.zero_add,hw1,decF hn1,cond_true,Bool.not_false,Bool.and_true,decide_true,Int.le_refl]
  exact ⟨trivial,trivial,by first | trivial | rfl⟩
 have a1:RGo (slices_Concat_int_l0 [x,y] ((1:Int),(x.length:Int),())) ((2:Int),((x.length+y.length:Nat):Int),()):=by
  unfold slices_Concat_int_l0 RGo
  have h1:(decide ((1:Int)<(([x,y]:List (List Int)).length:Int)))=true:=rfl
  have h2:(decide ((Int.toNat 1)<([x,y]:List (List Int)).length))=true:=rfl
  have h3:IntKind.i64.wrap ((1:Int)+1)=2:=rfl
  have h4:((([x,y]:List (List Int))[Int.toNat 1]?).getD [])=y:=rfl
  have h5:(decide ((0:Int)≤1))=true:=rfl
  simp only [h1,h2,h3,h4,h5,hw2,decF hn2,cond_true,Bool.not_false,Bool.and_true]
  exact ⟨trivial,trivial,by first | trivial | rfl⟩
 have a2:REnd (slices_Concat_int_l0 [x,y] ((2:Int),((x.length+y.length:Nat):Int),())) (true,((x.length+y.length:Nat):Int),()):=by
  unfold slices_Concat_int_l0 REnd
  have h1:(decide ((2:Int)<(([x,y]:List (List Int)).length:Int)))=false:=rfl
  simp only [h1,cond_false,Bool.not_false]
  exact ⟨trivial,trivial,by first | trivial | rfl⟩
 have e0:loopD 0 [.int .i64,.int .i64] [.bool,.int .i64] (slices_Concat_int_l0 [x,y]) ((0:Int),(0:Int),())=(true,true,((x.length+y.length:Nat):Int),()):=(a0.go (d:=HL.dflt [.bool,.int .i64])).trans ((a1.go (d:=HL.dflt [.bool,.int .i64])).trans (a2.end (d:=HL.dflt [.bool,.int .i64])))
 have b0:RGo (slices_Concat_int_l1 [x,y] ((0:Int),([]:List Int),())) ((1:Int),x,()):=by
  unfold slices_Concat_int_l1 RGo
  have h1:(decide ((0:Int)<(([x,y]:List (List Int)).length:Int)))=true:=rfl
  have h2:(decide ((Int.toNat 0)<([x,y]:List (List Int)).length))=true:=rfl
  have h3:IntKind.i64.wrap ((0:Int)+1)=1:=rfl
  have h4:((([x,y]:List (List Int))[Int.toNat 0]?).getD [])=x:=rfl
  simp only [h1,h2,h3,h4,List.length_nil,Nat.zero_add,decT (show x.length*8≤140737488355328 by omega),cond_true,Bool.and_true,decide_true,Int.le_refl,List.nil_append]
  exact ⟨trivial,trivial,by first | trivial | rfl⟩
 have b1:RGo (slices_Concat_int_l1 [x,y] ((1:Int),x,())) ((2:Int),x++y,()):=by
  unfold slices_Concat_int_l1 RGo
  have h1:(decide ((1:Int)<(([x,y]:List (List Int)).length:Int)))=true:=rfl
  have h2:(decide ((Int.toNat 1)<([x,y]:List (List Int)).length))=true:=rfl
  have h3:IntKind.i64.wrap ((1:Int)+1)=2:=rfl
  have h4:((([x,y]:List (List Int))[Int.toNat 1]?).getD [])=y:=rfl
  have h5:(decide ((0:Int)≤1))=true:=rfl
  simp only [h1,h2,h3,h4,h5,decT (show (x.length+y.length)*8≤140737488355328 by omega),cond_true,Bool.and_true]
  exact ⟨trivial,trivial,by first | trivial | rfl⟩
 have b2:REnd (slices_Concat_int_l1 [x,y] ((2:Int),x++y,())) (true,x++y,()):=by
  unfold slices_Concat_int_l1 REnd
  have h1:(decide ((2:Int)<(([x,y]:List (List Int)).length:Int)))=false:=rfl
  simp only [h1,cond_false,Bool.not_false]
  exact ⟨trivial,trivial,by first | trivial | rfl⟩
 have e1:loopD 1 [.int .i64,(.fl (.int .i64))] [.bool,(.fl (.int .i64))] (slices_Concat_int_l1 [x,y]) ((0:Int),([]:List Int),())=(true,true,x++y,()):=(b0.go (d:=HL.dflt [.bool,(.fl (.int .i64))])).trans ((b1.go (d:=HL.dflt [.bool,(.fl (.int .i64))])).trans (b2.end (d:=HL.dflt [.bool,(.fl (.int .i64))])))
 unfold slices_Concat_int_r slices_Grow_int_r
 simp only [e0,e1,Int.toNat_natCast,decT (show (0:Int)≤((x.length+y.length:Nat):Int) by omega),decT (show (x.length+y.length)*8≤140737488355328 by omega),Bool.and_self]
theorem concatK_r (x y:List K) (hx:x.length≤1000) (hy:y.length≤1000):slices_Concat_api_Known_r [x,y]=(true,x++y):=by
 have hw1:IntKind.i64.wrap (x.length:Int)=(x.length:Int):=wrap_i64 (by omega) (by omega)
 have hw2:IntKind.i64.wrap ((x.length:Int)+(y.length:Int))=((x.length+y.length:Nat):Int):=by rw [wrap_i64 (by omega) (by omega)]; omega
 have hn1:¬ (x.length:Int)<0:=by omega
 have hn2:¬ ((x.length+y.length:Nat):Int)<0:=by omega
 have a0:RGo (slices_Concat_api_Known_l0 [x,y] ((0:Int),(0:Int),())) ((1:Int),(x.length:Int),()):=by
  unfold slices_Concat_api_Known_l0 RGo
  have h1:(decide ((0:Int)<(([x,y]:List (List K)).length:Int)))=true:=rfl
  have h2:(decide ((Int.toNat 0)<([x,y]:List (List K)).length))=true:=rfl
  have h3:IntKind.i64.wrap ((0:Int)+1)=1:=rfl
  have h4:((([x,y]:List (List K))[Int.toNat 0]?).getD [])=x:=rfl
  simp only [h1,h2,h3,h4,Int.zero_add,hw1,decF hn1,cond_true,Bool.not_false,Bool.and_true,decide_true,Int.le_refl]
  exact ⟨trivial,trivial,by first | trivial | rfl⟩
 have a1:RGo (slices_Concat_api_Known_l0 [x,y] ((1:Int),(x.length:Int),())) ((2:Int),((x.length+y.length:Nat):Int),()):=by
  unfold slices_Concat_api_Known_l0 RGo
  have h1:(decide ((1:Int)<(([x,y]:List (List K)).length:Int)))=true:=rfl
  have h2:(decide ((Int.toNat 1)<([x,y]:List (List K)).length))=true:=rfl
  have h3:IntKind.i64.wrap ((1:Int)+1)=2:=rfl
  have h4:((([x,y]:List (List K))[Int.toNat 1]?).getD [])=y:=rfl
  have h5:(decide ((0:Int)≤1))=true:=rfl
  simp only [h1,h2,h3,h4,h5,hw2,decF hn2,cond_true,Bool.not_false,Bool.and_true]
  exact ⟨trivial,trivial,by first | trivial | rfl⟩
 have a2:REnd (slices_Concat_api_Known_l0 [x,y] ((2:Int),((x.length+y.length:Nat):Int),())) (true,((x.length+y.length:Nat):Int),()):=by
  unfold slices_Concat_api_Known_l0 REnd
  have h1:(decide ((2:Int)<(([x,y]:List (List K)).length:Int)))=false:=rfl
  simp only [h1,cond_false,Bool.not_false]
  exact ⟨trivial,trivial,by first | trivial | rfl⟩
 have e0:loopD 0 [.int .i64,.int .i64] [.bool,.int .i64] (slices_Concat_api_Known_l0 [x,y]) ((0:Int),(0:Int),())=(true,true,((x.length+y.length:Nat):Int),()):=(a0.go (d:=HL.dflt [.bool,.int .i64])).trans ((a1.go (d:=HL.dflt [.bool,.int .i64])).trans (a2.end (d:=HL.dflt [.bool,.int .i64])))
 have b0:RGo (slices_Concat_api_Known_l1 [x,y] ((0:Int),([]:List K),())) ((1:Int),x,()):=by
  unfold slices_Concat_api_Known_l1 RGo
  have h1:(decide ((0:Int)<(([x,y]:List (List K)).length:Int)))=true:=rfl
  have h2:(decide ((Int.toNat 0)<([x,y]:List (List K)).length))=true:=rfl
  have h3:IntKind.i64.wrap ((0:Int)+1)=1:=rfl
  have h4:((([x,y]:List (List K))[Int.toNat 0]?).getD [])=x:=rfl
  simp only [h1,h2,h3,h4,List.length_nil,Nat.zero_add,decT (show x.length*40≤140737488355328 by omega),cond_true,Bool.and_true,decide_true,Int.le_refl,List.nil_append]
  exact ⟨trivial,trivial,by first | trivial | rfl⟩
 have b1:RGo (slices_Concat_api_Known_l1 [x,y] ((1:Int),x,())) ((2:Int),x++y,()):=by
  unfold slices_Concat_api_Known_l1 RGo
  have h1:(decide ((1:Int)<(([x,y]:List (List K)).length:Int)))=true:=rfl
  have h2:(decide ((Int.toNat 1)<([x,y]:List (List K)).length))=true:=rfl
  have h3:IntKind.i64.wrap ((1:Int)+1)=2:=rfl
  have h4:((([x,y]:List (List K))[Int.toNat 1]?).getD [])=y:=rfl
  have h5:(decide ((0:Int)≤1))=true:=rfl
  simp only [h1,h2,h3,h4,h5,decT (show (x.length+y.length)*40≤140737488355328 by omega),cond_true,Bool.and_true]
  exact ⟨trivial,trivial,by first | trivial | rfl⟩
 have b2:REnd (slices_Concat_api_Known_l1 [x,y] ((2:Int),x++y,())) (true,x++y,()):=by
  unfold slices_Concat_api_Known_l1 REnd
  have h1:(decide ((2:Int)<(([x,y]:List (List K)).length:Int)))=false:=rfl
  simp only [h1,cond_false,Bool.not_false]
  exact ⟨trivial,trivial,by first | trivial | rfl⟩
 have e1:loopD 1 [.int .i64,(.fl (.row (.prod (.int .i64) (.prod (.int .i64) (.prod (.int .i64) (.prod (.int .i64) .bool))))))] [.bool,(.fl (.row (.prod (.int .i64) (.prod (.int .i64) (.prod (.int .i64) (.prod (.int .i64) .bool))))))] (slices_Concat_api_Known_l1 [x,y]) ((0:Int),([]:List K),())=(true,true,x++y,()):=(b0.go (d:=HL.dflt [.bool,(.fl (.row (.prod (.int .i64) (.prod (.int .i64) (.prod (.int .i64) (.prod (.int .i64) .bool))))))])).trans ((b1.go (d:=HL.dflt [.bool,(.fl (.row (.prod (.int .i64) (.prod (.int .i64) (.prod (.int .i64) (.prod (.int .i64) .bool))))))])).trans (b2.end (d:=HL.dflt [.bool,(.fl (.row (.prod (.int .i64) (.prod (.int .i64) (.prod (.int .i64) (.prod (.int .i64) .bool))))))])))
 unfold slices_Concat_api_Known_r slices_Grow_api_Known_r
 simp only [e0,e1,Int.toNat_natCast,decT (show (0:Int)≤((x.length+y.length:Nat):Int) by omega),decT (show (x.length+y.length)*40≤140737488355328 by omega),Bool.and_self]
theorem ints_r (a b:List Int) (hbig:a.length≤1152921504606846976):withyref05_Ints_r a b=(true,decide (a=b)):=by
 unfold withyref05_Ints_r
 by_cases hl:a.length=b.length
 ·have key:=loop_all (d:=HL.dflt [.bool,.bool,.bool]) (step:=withyref05_Ints_l0 a b) a.length (fun i=>decide ((a[i]?).getD 0=(b[i]?).getD 0)) (true,false,false,()) (false,false,true,())
   (fun i hi=>by
    have g1:(i:Int)<(a.length:Int):=by omega
    have hw:IntKind.i64.wrap ((i:Int)+1)=((i+1:Nat):Int):=by rw [wrap_i64 (by omega) (by omega)]; omega
    have hx:a[i]? =some a[i]:=List.getElem?_eq_getElem hi
    have hy:b[i]? =some (b[i]'(by omega)):=List.getElem?_eq_getElem (by omega)
    generalize a[i]=x at hx
    generalize b[i]'(by omega)=y at hy
    have hb:(x !=y)= !decide (x=y):=by
     by_cases hh:x=y
     ·rw [decT hh,hh]; simp
     ·rw [decF hh,bneI hh]; rfl
    unfold withyref05_Ints_l0
    simp only [decT g1,hw,Int.toNat_natCast,hx,hy,Option.getD_some,hb,decT hi,decT (show i<b.length by omega),decT (show (0:Int)≤(i:Int) by omega),cond_true,Bool.and_true,Bool.and_self,Bool.true_and,Bool.not_not,Bool.not_true]
    exact ⟨trivial,trivial,fun _=>trivial,fun h=>by rw [h]; rfl⟩)
   (by
    have g1:¬ (a.length:Int)<(a.length:Int):=by omega
    unfold withyref05_Ints_l0
    simp only [decF g1,cond_false,Bool.false_and,Bool.not_false]
    exact ⟨trivial,trivial,trivial⟩)
  have hne:((a.length:Int) !=(b.length:Int))=false:=by rw [hl]; simp
  have hall:(List.range a.length).all (fun i=>decide ((a[i]?).getD 0=(b[i]?).getD 0))=true↔a=b:=by
   rw [List.all_eq_true]
   constructor
   ·intro h
    apply List.ext_getElem hl
    intro i h1 h2
    have:=h i (List.mem_range.2 h1)
    rw [List.getElem?_eq_getElem h1,List.getElem?_eq_getElem h2] at this
    exact of_decide_eq_true this
   ·rintro rfl i _
    exact decide_eq_true rfl
  simp only [loopD_eq,key,hne,Bool.not_false,cond_true]
  by_cases hab:a=b
  ·rw [if_pos (hall.2 hab),decT hab]; rfl
  ·rw [if_neg (fun h=>hab (hall.1 h)),decF hab]; rfl
 ·have hne:((a.length:Int) !=(b.length:Int))=true:=bneI (by omega)
  have hab:¬ a=b:=fun h=>hl (by rw [h])
  simp only [hne,Bool.not_true,cond_false,decF hab]
theorem k_beq (x y:K):((x.1==y.1) && ((x.2.1==y.2.1) && ((x.2.2.1==y.2.2.1) && ((x.2.2.2.1==y.2.2.2.1) && (x.2.2.2.2==y.2.2.2.2)))))=decide (x=y):=by
 obtain ⟨a,b,c,d,e⟩:=x
 obtain ⟨a',b',c',d',e'⟩:=y
 by_cases h:(a,b,c,d,e)=(a',b',c',d',e')
 ·rw [decT h]
  simp only [Prod.mk.injEq] at h
  obtain ⟨rfl,rfl,rfl,rfl,rfl⟩:=h
  simp
 ·rw [decF h]
  apply Bool.eq_false_iff.2
  intro hh
  simp only [Bool.and_eq_true,beq_iff_eq] at hh
  obtain ⟨h1,h2,h3,h4,h5⟩:=hh
  exact h (by rw [h1,h2,h3,h4,h5])
theorem links_r (a b:List K) (hbig:a.length≤1152921504606846976):withyref09_Links_r a b=(true,decide (a=b)):=by
 unfold withyref09_Links_r
 by_cases hl:a.length=b.length
 ·have key:=loop_all (d:=HL.dflt [.bool,.bool,.bool]) (step:=withyref09_Links_l0 a b) a.length (fun i=>decide ((a[i]?).getD (0,0,0,0,false)=(b[i]?).getD (0,0,0,0,false))) (true,false,false,()) (false,false,true,())
   (fun i hi=>by
    have g1:(i:Int)<(a.length:Int):=by omega
    have hw:IntKind.i64.wrap ((i:Int)+1)=((i+1:Nat):Int):=by rw [wrap_i64 (by omega) (by omega)]; omega
    have hx:a[i]? =some a[i]:=List.getElem?_eq_getElem hi
    have hy:b[i]? =some (b[i]'(by omega)):=List.getElem?_eq_getElem (by omega)
    generalize a[i]=x at hx
    generalize b[i]'(by omega)=y at hy
    unfold withyref09_Links_l0
    simp only [decT g1,hw,Int.toNat_natCast,hx,hy,Option.getD_some,k_beq x y,decT hi,decT (show i<b.length by omega),decT (show (0:Int)≤(i:Int) by omega),cond_true,Bool.and_true,Bool.and_self,Bool.true_and,Bool.not_not,Bool.not_true]
    exact ⟨trivial,trivial,fun _=>trivial,fun h=>by rw [h]; rfl⟩)
   (by
    have g1:¬ (a.length:Int)<(a.length:Int):=by omega
    unfold withyref09_Links_l0
    simp only [decF g1,cond_false,Bool.false_and,Bool.not_false]
    exact ⟨trivial,trivial,trivial⟩)
  have hne:((a.length:Int) !=(b.length:Int))=false:=by rw [hl]; simp
  have hall:(List.range a.length).all (fun i=>decide ((a[i]?).getD (0,0,0,0,false)=(b[i]?).getD (0,0,0,0,false)))=true↔a=b:=by
   rw [List.all_eq_true]
   constructor
   ·intro h
    apply List.ext_getElem hl
    intro i h1 h2
    have:=h i (List.mem_range.2 h1)
    rw [List.getElem?_eq_getElem h1,List.getElem?_eq_getElem h2] at this
    exact of_decide_eq_true this
   ·rintro rfl i _
    exact decide_eq_true rfl
  simp only [loopD_eq,key,hne,Bool.not_false,cond_true]
  by_cases hab:a=b
  ·rw [if_pos (hall.2 hab),decT hab]; rfl
  ·rw [if_neg (fun h=>hab (hall.1 h)),decF hab]; rfl
 ·have hne:((a.length:Int) !=(b.length:Int))=true:=bneI (by omega)
  have hab:¬ a=b:=fun h=>hl (by rw [h])
  simp only [hne,Bool.not_true,cond_false,decF hab]
theorem refSame_r (v w:Vw) (h1:v.1.length≤1152921504606846976) (h2:v.2.length≤1152921504606846976):withyref09_Same_r v w=(true,decide (v=w)):=by
 unfold withyref09_Same_r
 simp only [ints_r v.1 w.1 h1,links_r v.2 w.2 h2]
 obtain ⟨a,b⟩:=v
 obtain ⟨c,d⟩:=w
 by_cases e1:a=c
 ·by_cases e2:b=d
  ·simp [e1,e2]
  ·have:¬ (a,b)=(c,d):=fun h=>e2 (Prod.mk.inj h).2
   simp [e1,e2]
 ·simp [e1]
end Go.Proofs.Ytoaegfcmfkalfaa.T
namespace Go.Proofs.Ytoaegfcmfkalfaa.T
open Go.Vm Go.Tm
set_option linter.unusedVariables false
set_option linter.unusedSimpArgs false
theorem pairwise_next {α:Type} (d:α) (R:α→α→Prop) (htr:∀ a b c,R a b→R b c→R a c) (l:List α) (h:∀ i,i<l.length→0<i→R ((l[i - 1]?).getD d) ((l[i]?).getD d)):l.Pairwise R:=by
 rw [List.pairwise_iff_getElem]
 intro i j hi hj hij
 have key:∀ k,(hk:i+1+k<l.length)→R l[i] (l[i+1+k]'hk):=by
  intro k
  induction k with
  | zero=>
   intro hk
   have:=h (i+1) hk (by omega)
   rw [show i+1 - 1=i by omega,List.getElem?_eq_getElem hi,List.getElem?_eq_getElem hk] at this
   exact this
  | succ k ih=>
   intro hk
   have h1:=ih (by omega)
   have:=h (i+1+(k+1)) hk (by omega)
   rw [show i+1+(k+1) - 1=i+1+k by omega,List.getElem?_eq_getElem (by omega),List.getElem?_eq_getElem hk] at this
   exact htr _ _ _ h1 this
 have:=key (j - (i+1)) (by omega)
 simp only [show i+1+(j - (i+1))=j by omega] at this
 exact this
theorem next_pairwise {α:Type} (d:α) {R:α→α→Prop} {l:List α} (h:l.Pairwise R) (i:Nat) (hi:i<l.length) (h0:0<i):R ((l[i - 1]?).getD d) ((l[i]?).getD d):=by
 rw [List.getElem?_eq_getElem (by omega),List.getElem?_eq_getElem hi]
 exact List.pairwise_iff_getElem.1 h (i - 1) i (by omega) hi (by omega)
def MayV (v:Vw):Prop:=v.1.Pairwise (·<·)∧(∀ n∈v.1,nodeB n=true)∧v.2.Pairwise (fun a b=>aheadB a b=true)∧∀ k∈v.2,plainOk v.1 k
theorem may_iff (v:Vw):mayP v↔MayV v:=by
 constructor
 ·rintro ⟨h1,h2⟩
  refine ⟨pairwise_next 0 (fun a b:Int=>a<b) (fun a b c h k=>Int.lt_trans h k) _ fun i hi h0=>(h1 i hi).2 h0,fun n hn=> ?_,pairwise_next kd (fun a b=>aheadB a b=true) (fun a b c h k=>ahead_trans h k) _ fun i hi h0=>(h2 i hi).2 h0,fun k hk=> ?_⟩
  ·obtain ⟨i,hi,rfl⟩:=List.getElem_of_mem hn
   have:=(h1 i hi).1
   rw [getD_at 0 hi] at this
   exact this
  ·obtain ⟨i,hi,rfl⟩:=List.getElem_of_mem hk
   have:=(h2 i hi).1
   rw [getD_at kd hi] at this
   exact this
 ·rintro ⟨h1,h2,h3,h4⟩
  refine ⟨fun i hi=>⟨?_,fun h0=>next_pairwise 0 h1 i hi h0⟩,fun i hi=>⟨?_,fun h0=>next_pairwise kd h3 i hi h0⟩⟩
  ·rw [getD_at 0 hi]; exact h2 _ (List.getElem_mem hi)
  ·rw [getD_at kd hi]; exact h4 _ (List.getElem_mem hi)
theorem strict_uniq {α:Type} {R:α→α→Prop} (has:∀ a b,R a b→¬ R b a):∀ {l m:List α},l.Pairwise R→m.Pairwise R→(∀ x,x∈l↔x∈m)→l=m
 | [],[],_,_,_=>rfl
 | [],b::m,_,_,h=>by have:=(h b).2 (.head _); cases this
 | a::l,[],_,_,h=>by have:=(h a).1 (.head _); cases this
 | a::l,b::m,h1,h2,h=>by
  rw [List.pairwise_cons] at h1 h2
  have hab:a=b:=by
   have k1:=(h a).1 (.head _)
   have k2:=(h b).2 (.head _)
   cases k1 with
   | head=>rfl
   | tail _ k1=>
    cases k2 with
    | head=>rfl
    | tail _ k2=>exact absurd (h2.1 a k1) (has _ _ (h1.1 b k2))
  subst hab
  have:l=m:=strict_uniq has h1.2 h2.2 fun x=>by
   constructor
   ·intro hx
    have:=(h x).1 (.tail _ hx)
    cases this with
    | head=>exact absurd (h1.1 a hx) (fun k=>has _ _ k k)
    | tail _ k=>exact k
   ·intro hx
    have:=(h x).2 (.tail _ hx)
    cases this with
    | head=>exact absurd (h2.1 a hx) (fun k=>has _ _ k k)
    | tail _ k=>exact k
  rw [this]
theorem ahead_asym (a b:K) (h:aheadB a b=true):¬ aheadB b a=true:=by
 unfold aheadB at*
 simp at*
 omega
theorem may_uniq {v w:Vw} (hv:mayP v) (hw:mayP w) (h1:∀ n,n∈v.1↔n∈w.1) (h2:∀ k,k∈v.2↔k∈w.2):v=w:=by
 obtain ⟨a1,a2,a3,a4⟩:=(may_iff v).1 hv
 obtain ⟨b1,b2,b3,b4⟩:=(may_iff w).1 hw
 exact Prod.ext (strict_uniq (fun a b h k=>by omega) a1 b1 h1) (strict_uniq ahead_asym a3 b3 h2)
def Disj (a b:Vw):Prop:=∀ n∈a.1,n ∉ b.1
structure IsMerge (a b v:Vw):Prop where
 may:mayP v
 nodes:∀ n,n∈v.1↔n∈a.1∨n∈b.1
 links:∀ k,k∈v.2↔k∈a.2∨k∈b.2
 ln:v.1.length=a.1.length+b.1.length
 ll:v.2.length=a.2.length+b.2.length
theorem key_apart {a b:Vw} (ha:MayV a) (hb:MayV b) (hd:Disj a b):(a.2++b.2).Pairwise (fun x y=>¬ (x.1=y.1∧x.2.1=y.2.1)):=by
 have hx:∀ v:Vw,MayV v→v.2.Pairwise (fun x y=>¬ (x.1=y.1∧x.2.1=y.2.1)):=fun v hv=>hv.2.2.1.imp fun {x y} h hh=>by
  unfold aheadB at h
  simp at h
  omega
 refine List.pairwise_append.2 ⟨hx a ha,hx b hb,fun x hx y hy hh=> ?_⟩
 exact hd x.1 (ha.2.2.2 x hx).1 (hh.1 ▸ (hb.2.2.2 y hy).1)
theorem merge_lists {a b:Vw} (ha:mayP a) (hb:mayP b) {ns:List Int} {ls:List K} (pn:ns.Perm (a.1++b.1)) (pl:ls.Perm (a.2++b.2)) (sn:ns.Pairwise (fun x y=>¬ y<x)) (sl:ls.Pairwise (fun x y=>¬ Q.lt y x)):
  (mayP (ns,ls)↔Disj a b)∧(Disj a b→IsMerge a b (ns,ls)):=by
 have hA:=(may_iff a).1 ha
 have hB:=(may_iff b).1 hb
 have hin:∀ n,n∈ns↔n∈a.1∨n∈b.1:=fun n=>by rw [pn.mem_iff,List.mem_append]
 have hil:∀ k,k∈ls↔k∈a.2∨k∈b.2:=fun k=>by rw [pl.mem_iff,List.mem_append]
 have fwd:Disj a b→mayP (ns,ls):=fun hd=>by
  refine (may_iff _).2 ⟨?_,fun n hn=> ?_,?_,fun k hk=> ?_⟩
  ·have hnd:(a.1++b.1).Pairwise (·≠·):=List.pairwise_append.2 ⟨hA.1.imp fun {x y} h=>by omega,hB.1.imp fun {x y} h=>by omega,fun x hx y hy he=>hd x hx (he ▸ hy)⟩
   have hnd2:ns.Pairwise (·≠·):=(pn.pairwise_iff (fun {x y} h=>Ne.symm h)).2 hnd
   exact (sn.and hnd2).imp fun {x y} h=>by
    have:=h.1
    have:=h.2
    omega
  ·rcases (hin n).1 hn with h | h
   ·exact hA.2.1 n h
   ·exact hB.2.1 n h
  ·have hk2:ls.Pairwise (fun x y=>¬ (x.1=y.1∧x.2.1=y.2.1)):=(pl.pairwise_iff (fun {x y} h hh=>h ⟨hh.1.symm,hh.2.symm⟩)).2 (key_apart hA hB hd)
   exact (sl.and hk2).imp fun {x y} h=>by
    obtain ⟨h1,h2⟩:=h
    rw [Q.lt_iff] at h1
    unfold aheadB
    simp
    omega
  ·rcases (hil k).1 hk with h | h
   ·obtain ⟨h1,h2⟩:=hA.2.2.2 k h
    exact ⟨(hin _).2 (.inl h1),h2⟩
   ·obtain ⟨h1,h2⟩:=hB.2.2.2 k h
    exact ⟨(hin _).2 (.inr h1),h2⟩
 refine ⟨⟨fun hm n h1 h2=> ?_,fwd⟩,fun hd=>⟨fwd hd,hin,hil,by rw [pn.length_eq,List.length_append],by rw [pl.length_eq,List.length_append]⟩⟩
 have hs:=((may_iff _).1 hm).1
 have hnd:ns.Pairwise (·≠·):=hs.imp fun {x y} h=>by
  have h:x<y:=h
  omega
 have hnd2:(a.1++b.1).Pairwise (·≠·):=(pn.pairwise_iff (fun {x y} h=>Ne.symm h)).1 hnd
 exact (List.pairwise_append.1 hnd2).2.2 n h1 n h2 rfl
open Classical in
theorem merge_r (a b:Vw) (h1:a.1.length+b.1.length≤900) (h2:a.2.length+b.2.length≤900):
  (¬ (mayP a∧mayP b)→view_Merge_r a b=(true,((1:Int),[],[])))∧(mayP a→mayP b→¬ Disj a b→view_Merge_r a b=(true,((11:Int),[],[])))∧
  (mayP a→mayP b→Disj a b→∃ v:Vw,view_Merge_r a b=(true,((0:Int),v.1,v.2))∧IsMerge a b v):=by
 have ca:=check_r a (by omega) (by omega)
 have cb:=check_r b (by omega) (by omega)
 have ci:=concatI_r a.1 b.1 (by omega) (by omega)
 have ck:=concatK_r a.2 b.2 (by omega) (by omega)
 obtain ⟨ns,e1,p1,s1⟩:=I.sortFunc_r (a.1++b.1) (by rw [List.length_append]; omega)
 obtain ⟨ls,e2,p2,s2⟩:=Q.sortFunc_r (a.2++b.2) (by rw [List.length_append]; omega)
 have cv:=check_r (ns,ls) (by show ns.length≤900; rw [p1.length_eq,List.length_append]; omega) (by show ls.length≤900; rw [p2.length_eq,List.length_append]; omega)
 refine ⟨fun h=> ?_,fun ha hb hd=> ?_,fun ha hb hd=> ?_⟩
 ·unfold view_Merge_r
  by_cases ha:mayP a
  ·have hb:¬ mayP b:=fun hb=>h ⟨ha,hb⟩
   rw [if_pos ha] at ca
   rw [if_neg hb] at cb
   simp only [ca,cb,show ((0:Int) !=0)=false from rfl,show ((1:Int) !=0)=true from rfl,Bool.not_false,Bool.not_true,cond_true,cond_false,Bool.and_true]
  ·rw [if_neg ha] at ca
   simp only [ca,show ((1:Int) !=0)=true from rfl,Bool.not_false,Bool.not_true,cond_true,cond_false,Bool.and_true]
 ·obtain ⟨m1,m2⟩:=merge_lists ha hb p1 p2 s1 s2
  rw [if_pos ha] at ca
  rw [if_pos hb] at cb
  rw [if_neg (fun h=>hd (m1.1 h))] at cv
  unfold view_Merge_r
  simp only [ca,cb,ci,ck,e1,e2,cv,show ((0:Int) !=0)=false from rfl,show ((1:Int) !=0)=true from rfl,Bool.not_false,Bool.not_true,cond_true,cond_false,Bool.and_true]
 ·obtain ⟨m1,m2⟩:=merge_lists ha hb p1 p2 s1 s2
  rw [if_pos ha] at ca
  rw [if_pos hb] at cb
  rw [if_pos (m1.2 hd)] at cv
  refine ⟨(ns,ls),?_,m2 hd⟩
  unfold view_Merge_r
  simp only [ca,cb,ci,ck,e1,e2,cv,show ((0:Int) !=0)=false from rfl,show ((1:Int) !=0)=true from rfl,Bool.not_false,Bool.not_true,cond_true,cond_false,Bool.and_true]
end Go.Proofs.Ytoaegfcmfkalfaa.T
namespace Go.Proofs.Ytoaegfcmfkalfaa.T
open Go.Vm Go.Tm
set_option linter.unusedVariables false
set_option linter.unusedSimpArgs false
theorem light_r (v:Vw):withylaw09_light_r v=(true,decide (v.1.length≤70∧v.2.length≤200)):=by
 unfold withylaw09_light_r
 by_cases h1:v.1.length≤70
 ·by_cases h2:v.2.length≤200
  ·simp [decT (show (v.1.length:Int)≤70 by omega),decT (show (v.2.length:Int)≤200 by omega),h1,h2]
  ·simp [decT (show (v.1.length:Int)≤70 by omega),decF (show ¬ (v.2.length:Int)≤200 by omega),h1,h2]
 ·simp [decF (show ¬ (v.1.length:Int)≤70 by omega),h1]
def av:Vw:=([1,2],[(1,2,0,5,false),(2,1,0,5,false),(2,3,0,1,false)])
theorem av_may:mayP av:=by
 refine ⟨fun i hi=> ?_,fun i hi=> ?_⟩
 ·have:i=0∨i=1:=by simp [av] at hi; omega
  rcases this with rfl | rfl<;>simp [nodeOk,av,nodeB]
 ·have:i=0∨i=1∨i=2:=by simp [av] at hi; omega
  rcases this with rfl | rfl | rfl<;>simp [linkOk,plainOk,av,nodeB,aheadB]
theorem awake_r:withylaw09_awake_r=(true,true):=by
 have h1:=inner_r av (by simp [av]) (by simp [av])
 obtain ⟨i,L,e1,e2,e3⟩:=outer_r av (by simp [av]) (by simp [av])
 rw [if_pos av_may] at e1 e3
 rw [if_pos av_may,if_pos av_may] at h1
 have hin:inner av.2= [(1,2,0,5,false)]:=by decide
 have hout:outer av= [(2,3,0,1,false)]:=by decide
 rw [hin] at h1
 rw [hout] at e3
 have hi1:i=1:=by
  have:=congrArg List.length e3
  rw [List.length_take] at this
  simp at this; omega
 subst hi1
 cases L with
 | nil=>cases e3
 | cons a L=>
  have ha:a=(2,3,0,1,false):=by simpa using e3
  subst ha
  unfold withylaw09_awake_r
  have h1':view_Inner_r ([1,2],[(1,2,0,5,false),(2,1,0,5,false),(2,3,0,1,false)])=(true,0,[(1,2,0,5,false)]):=h1
  have e1':view_Outer_r ([1,2],[(1,2,0,5,false),(2,1,0,5,false),(2,3,0,1,false)])=(true,0,1,0,(2,3,0,1,false)::L):=e1
  simp [h1',e1']
end Go.Proofs.Ytoaegfcmfkalfaa.T
namespace Go.Proofs.Ytoaegfcmfkalfaa.T
open Go.Vm Go.Tm
set_option linter.unusedVariables false
set_option linter.unusedSimpArgs false
theorem inner_mono {l m:List K} (h:∀ k∈l,k∈m) (k:K) (hk:k∈inner l):k∈inner m:=by
 unfold inner pairs at*
 rw [List.mem_flatMap] at*
 obtain ⟨a,ha,hk⟩:=hk
 rw [List.mem_flatMap] at hk
 obtain ⟨b,hb,hk⟩:=hk
 exact ⟨a,h a ha,List.mem_flatMap.2 ⟨b,h b hb,hk⟩⟩
theorem order_l1 (a b c:Vw) (P W:List K) (x:Vw) (e e':Int) (hm:view_Merge_r a b=(true,(0,x.1,x.2))) (hP:view_Inner_r a=(true,e,P)) (hW:view_Inner_r (x.1,x.2)=(true,e',W)) (i:Nat) (k:K) (hk:P[i]? =some k) (hWl:W.length≤10000):
  ∃ q:Bool,loopR (HL.dflt [.bool,.bool]) (withylaw09_ViewOrder_l1 a b c ((i:Int),())) ((0:Int),false,())=(true,(true,q,()))∧(q=true↔k∈W):=by
 have hil:i<P.length:=(List.getElem?_eq_some_iff.1 hk).1
 have key:=loopR_by (d:=HL.dflt [.bool,.bool]) (step:=withylaw09_ViewOrder_l1 a b c ((i:Int),())) (fun s:Int × Bool × Unit=>∃ (n:Nat) (q:Bool),s=((n:Int),q,())∧n≤W.length∧(q=true↔k∈W.take n)) (fun s=>W.length - s.1.toNat)
  (fun r:Bool × Bool × Unit=>∃ q:Bool,r=(true,q,())∧(q=true↔k∈W)) ((0:Int),false,()) ⟨0,false,rfl,Nat.zero_le _,by simp⟩ (by
  rintro _ ⟨n,q,rfl,h1,h2⟩
  unfold withylaw09_ViewOrder_l1
  by_cases hn:n<W.length
  ·have g1:(n:Int)<(W.length:Int):=by omega
   have hwr:IntKind.i64.wrap ((n:Int)+1)=((n+1:Nat):Int):=by rw [wrap_i64 (by omega) (by omega)]; omega
   have hy:W[n]? =some W[n]:=List.getElem?_eq_getElem hn
   generalize W[n]=y at hy
   have tk:W.take (n+1)=W.take n++ [y]:=by rw [List.take_add_one,hy]; rfl
   have hin:cond q true (decide (y=k))=true↔k∈W.take (n+1):=by
    rw [tk,List.mem_append,List.mem_singleton,← h2]
    by_cases hyx:y=k
    ·subst hyx; cases q<;>simp
    ·have hxy:¬ k=y:=fun h=>hyx h.symm
     cases q<;>simp [hyx,hxy]
   have hT1:∀ z:Bool,cond z (z && (z && true)) true=true:=fun z=>by cases z<;>rfl
   have hT2:∀ z:Bool,cond z (z && z) true=true:=fun z=>by cases z<;>rfl
   have hT3:∀ z:Bool,cond z true (!z)=true:=fun z=>by cases z<;>rfl
   have hT4:∀ z:Bool,cond z z true=true:=fun z=>by cases z<;>rfl
   have hT5:∀ z:Bool,cond z (z && true) true=true:=fun z=>by cases z<;>rfl
   simp only [hm,hP,hW,Int.toNat_natCast,decT g1,hwr,hy,hk,Option.getD_some,k_beq y k,decT hn,decT hil,decT (show (0:Int)≤(n:Int) by omega),decT (show (0:Int)≤(i:Int) by omega),hT1,hT2,hT3,hT4,hT5,cond_true,Bool.and_self,Bool.and_true,Bool.true_and,Bool.cond_self]
   exact ⟨trivial,fun _=>⟨⟨n+1,_,rfl,by omega,hin⟩,by
    show W.length - (((n+1:Nat):Int)).toNat<W.length - ((n:Int)).toNat
    omega⟩,fun h=>by cases h⟩
  ·have g1:¬ (n:Int)<(W.length:Int):=by omega
   have hnl:n=W.length:=by omega
   subst hnl
   rw [List.take_length] at h2
   simp only [hm,hW,decF g1,cond_false,Bool.not_false]
   exact ⟨trivial,fun h=>(by cases h),fun _=>⟨q,rfl,h2⟩⟩)
 obtain ⟨k1,q,k2,k3⟩:=key
 exact ⟨q,Prod.ext k1 k2,k3⟩
theorem order_l0 (a b c:Vw) (P W:List K) (x:Vw) (e e':Int) (hm:view_Merge_r a b=(true,(0,x.1,x.2))) (hP:view_Inner_r a=(true,e,P)) (hW:view_Inner_r (x.1,x.2)=(true,e',W)) (hWl:W.length≤10000) (hPl:P.length≤10000) (hsub:∀ k∈P,k∈W):
  ∃ r:Bool × Bool × Bool × Unit,loopR (HL.dflt [.bool,.bool,.bool]) (withylaw09_ViewOrder_l0 a b c) ((0:Int),())=(true,r)∧r.2.2.1=true:=by
 have key:=loopR_by (d:=HL.dflt [.bool,.bool,.bool]) (step:=withylaw09_ViewOrder_l0 a b c) (fun s:Int × Unit=>∃ i:Nat,s=((i:Int),())∧i≤P.length) (fun s=>P.length - s.1.toNat)
  (fun r:Bool × Bool × Bool × Unit=>r.2.2.1=true) ((0:Int),()) ⟨0,rfl,Nat.zero_le _⟩ (by
  rintro _ ⟨i,rfl,h1⟩
  unfold withylaw09_ViewOrder_l0
  by_cases hi:i<P.length
  ·have g1:(i:Int)<(P.length:Int):=by omega
   have hwr:IntKind.i64.wrap ((i:Int)+1)=((i+1:Nat):Int):=by rw [wrap_i64 (by omega) (by omega)]; omega
   have hk:P[i]? =some P[i]:=List.getElem?_eq_getElem hi
   have hmem:P[i]∈P:=List.getElem_mem hi
   generalize P[i]=k at hk hmem
   obtain ⟨q,e3,hq⟩:=order_l1 a b c P W x e e' hm hP hW i k hk hWl
   have hq1:q=true:=hq.2 (hsub k hmem)
   subst hq1
   simp only [hP,loopD_eq,e3,decT g1,hwr,cond_true,Bool.not_true,Bool.not_false,Bool.and_true]
   exact ⟨trivial,fun _=>⟨⟨i+1,rfl,by omega⟩,by
    show P.length - (((i+1:Nat):Int)).toNat<P.length - ((i:Int)).toNat
    omega⟩,fun h=>by cases h⟩
  ·have g1:¬ (i:Int)<(P.length:Int):=by omega
   simp only [hP,decF g1,cond_false,Bool.false_and,Bool.not_false]
   exact ⟨trivial,fun h=>(by cases h),fun _=>trivial⟩)
 exact ⟨_,Prod.ext key.1 rfl,key.2⟩
open Classical in
theorem viewOrder_pure (a b c:Vw):withylaw09_ViewOrder_r a b c=(true,true):=by
 unfold withylaw09_ViewOrder_r
 simp only [awake_r,light_r]
 by_cases la:a.1.length≤70∧a.2.length≤200
 ·by_cases lb:b.1.length≤70∧b.2.length≤200
  ·by_cases lc:c.1.length≤70∧c.2.length≤200
   ·obtain ⟨m1,m2,m3⟩:=merge_r a b (by omega) (by omega)
    obtain ⟨n1,n2,n3⟩:=merge_r b c (by omega) (by omega)
    obtain ⟨o1,o2,o3⟩:=merge_r b a (by omega) (by omega)
    by_cases hab:mayP a∧mayP b∧Disj a b
    ·obtain ⟨ha,hb,hd⟩:=hab
     obtain ⟨x,ex,hx⟩:=m3 ha hb hd
     by_cases hbc:mayP c∧Disj b c
     ·obtain ⟨hc,hd2⟩:=hbc
      obtain ⟨y,ey,hy⟩:=n3 hb hc hd2
      have hd3:Disj b a:=fun n h1 h2=>hd n h2 h1
      obtain ⟨z,ez,hz⟩:=o3 hb ha hd3
      have hxl:=hx.ln
      have hxll:=hx.ll
      have hyl:=hy.ln
      have hyll:=hy.ll
      obtain ⟨_,p2,p3⟩:=merge_r (x.1,x.2) c (by show x.1.length+c.1.length≤900; omega) (by show x.2.length+c.2.length≤900; omega)
      obtain ⟨_,q2,q3⟩:=merge_r a (y.1,y.2) (by show a.1.length+y.1.length≤900; omega) (by show a.2.length+y.2.length≤900; omega)
      have hxz:x=z:=may_uniq hx.may hz.may (fun n=>by rw [hx.nodes,hz.nodes,or_comm]) (fun k=>by rw [hx.links,hz.links,or_comm])
      have sxz:=refSame_r (x.1,x.2) (z.1,z.2) (by show x.1.length≤_; omega) (by show x.2.length≤_; omega)
      rw [decT (show (x.1,x.2)=(z.1,z.2) by rw [hxz])] at sxz
      have dxc:Disj x c↔Disj a c:=⟨fun h n hn=>h n ((hx.nodes n).2 (.inl hn)),fun h n hn=>((hx.nodes n).1 hn).elim (h n) (hd2 n)⟩
      have day:Disj a y↔Disj a c:=⟨fun h n hn hc=>h n hn ((hy.nodes n).2 (.inr hc)),fun h n hn hny=>((hy.nodes n).1 hny).elim (hd n hn) (h n hn)⟩
      have both:∃ (e:Int) (p:Vw),view_Merge_r (x.1,x.2) c=(true,(e,p.1,p.2))∧view_Merge_r a (y.1,y.2)=(true,(e,p.1,p.2))∧p.1.length≤900∧p.2.length≤900:=by
       by_cases hac:Disj a c
       ·obtain ⟨p,ep,hp⟩:=p3 hx.may hc (dxc.2 hac)
        obtain ⟨q,eq,hq⟩:=q3 ha hy.may (day.2 hac)
        have hpq:p=q:=may_uniq hp.may hq.may (fun n=>by
         rw [hp.nodes,hq.nodes]
         show n∈x.1∨n∈c.1↔n∈a.1∨n∈y.1
         rw [hx.nodes,hy.nodes,or_assoc]) (fun k=>by
         rw [hp.links,hq.links]
         show k∈x.2∨k∈c.2↔k∈a.2∨k∈y.2
         rw [hx.links,hy.links,or_assoc])
        subst hpq
        have h1:=hp.ln
        have h2:=hp.ll
        have h1:p.1.length=x.1.length+c.1.length:=h1
        have h2:p.2.length=x.2.length+c.2.length:=h2
        exact ⟨0,p,ep,eq,by omega,by omega⟩
       ·exact ⟨11,([],[]),p2 hx.may hc (fun h=>hac (dxc.1 h)),q2 ha hy.may (fun h=>hac (day.1 h)),by simp,by simp⟩
      obtain ⟨e,p,e1,e2,pl1,pl2⟩:=both
      have spp:=refSame_r (p.1,p.2) (p.1,p.2) (by show p.1.length≤_; omega) (by show p.2.length≤_; omega)
      rw [decT rfl] at spp
      have ia:=inner_r a (by omega) (by omega)
      have ix:=inner_r (x.1,x.2) (by show x.1.length≤_; omega) (by show x.2.length≤_; omega)
      rw [if_pos ha,if_pos ha] at ia
      rw [if_pos (show mayP (x.1,x.2) from hx.may),if_pos (show mayP (x.1,x.2) from hx.may)] at ix
      have hla:=inner_len (sorted_of a ha.2)
      have hlx:=inner_len (sorted_of x hx.may.2)
      obtain ⟨r,r1,r2⟩:=order_l0 a b c (inner a.2) (inner x.2) x 0 0 ex ia ix (by omega) (by omega) (fun k hk=>inner_mono (fun k hk=>(hx.links k).2 (.inl hk)) k hk)
      have hne:(e !=e)=false:=by simp
      simp only [decT la,decT lb,decT lc,ex,ey,ez,e1,e2,spp,sxz,ia,ix,hne,loopD_eq,r1,r2,show ((0:Int) !=0)=false from rfl,Bool.not_true,Bool.not_false,cond_true,cond_false,Bool.and_self,Bool.and_true,Bool.true_and]
     ·have ey:∃ (e:Int) (u:Vw),view_Merge_r b c=(true,(e,u.1,u.2))∧(e !=0)=true:=by
       by_cases hc:mayP c
       ·exact ⟨11,([],[]),n2 hb hc (fun h=>hbc ⟨hc,h⟩),rfl⟩
       ·exact ⟨1,([],[]),n1 (fun h=>hc h.2),rfl⟩
      obtain ⟨e,u,ey,he⟩:=ey
      simp only [decT la,decT lb,decT lc,ex,ey,he,show ((0:Int) !=0)=false from rfl,Bool.not_true,Bool.not_false,cond_true,cond_false,Bool.and_self,Bool.and_true,Bool.true_and]
    ·have ex:∃ (e:Int) (u:Vw),view_Merge_r a b=(true,(e,u.1,u.2))∧(e !=0)=true:=by
      by_cases hm:mayP a∧mayP b
      ·exact ⟨11,([],[]),m2 hm.1 hm.2 (fun h=>hab ⟨hm.1,hm.2,h⟩),rfl⟩
      ·exact ⟨1,([],[]),m1 hm,rfl⟩
     obtain ⟨e,u,ex,he⟩:=ex
     have ey:(view_Merge_r b c).1=true:=by
      by_cases hm:mayP b∧mayP c
      ·by_cases hd:Disj b c
       ·obtain ⟨v,ev,_⟩:=n3 hm.1 hm.2 hd
        rw [ev]
       ·rw [n2 hm.1 hm.2 hd]
      ·rw [n1 hm]
     simp only [decT la,decT lb,decT lc,ex,ey,he,Bool.not_true,Bool.not_false,cond_true,cond_false,Bool.and_self,Bool.and_true,Bool.true_and]
   ·simp only [decT la,decT lb,decF lc,Bool.not_true,Bool.not_false,cond_true,cond_false,Bool.and_self,Bool.and_true,Bool.true_and]
  ·simp only [decT la,decF lb,Bool.not_true,Bool.not_false,cond_true,cond_false,Bool.and_self,Bool.and_true,Bool.true_and]
 ·simp only [decF la,Bool.not_true,Bool.not_false,cond_true,cond_false,Bool.and_self,Bool.and_true,Bool.true_and]
end Go.Proofs.Ytoaegfcmfkalfaa.T
