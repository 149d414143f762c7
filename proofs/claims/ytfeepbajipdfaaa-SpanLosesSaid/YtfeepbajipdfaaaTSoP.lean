/- What an edge that is lost brings. -/
import Derived.Test.YtfeepbajipdfaaaTSoF
namespace Go.Tm
set_option linter.unusedVariables false
theorem swap_perm {α:Type} {l:List α} {i j:Nat} {d:α} (hi:i<l.length) (hj:j<l.length):((l.set i ((l[j]?).getD d)).set j ((l[i]?).getD d)).Perm l:=by
 have h1:(l[j]?).getD d=l[j]:=by rw [List.getElem?_eq_getElem hj]; rfl
 have h2:(l[i]?).getD d=l[i]:=by rw [List.getElem?_eq_getElem hi]; rfl
 rw [h1,h2]
 exact List.set_set_perm hi hj
theorem perm_sorted_eq {α:Type} {R:α→α→Prop} (hanti:∀ a b,R a b→R b a→a=b):∀ {l m:List α},l.Perm m→l.Pairwise R→m.Pairwise R→l=m
 | [],m,h,_,_=>by rw [List.nil_perm.1 h]
 | a::l,[],h,_,_=>by have:=h.length_eq; simp at this
 | a::l,b::m,h,hl,hm=>by
  rw [List.pairwise_cons] at hl hm
  have hab:a=b:=by
   have ha:a∈b::m:=h.subset (.head _)
   have hb:b∈a::l:=h.symm.subset (.head _)
   cases ha with
   | head=>rfl
   | tail _ ha=>cases hb with
    | head=>rfl
    | tail _ hb=>exact hanti _ _ (hl.1 b hb) (hm.1 a ha)
  subst hab
  rw [perm_sorted_eq hanti ((List.perm_cons a).1 h) hl.2 hm.2]
structure RP {α:Type} (a b:Nat) (l m:List α):Prop where
 len:m.length=l.length
 out:∀ i,i<a∨b≤i→m[i]? =l[i]?
 perm:m.Perm l
theorem RP.refl {α:Type} (a b:Nat) (l:List α):RP a b l l:=⟨rfl,fun _ _=>rfl,.refl _⟩
theorem RP.trans {α:Type} {a b:Nat} {l m k:List α} (h:RP a b l m) (h':RP a b m k):RP a b l k:=
 ⟨h'.len.trans h.len,fun i hi=>(h'.out i hi).trans (h.out i hi),h'.perm.trans h.perm⟩
theorem RP.mono {α:Type} {a b a' b':Nat} {l m:List α} (h:RP a b l m) (h1:a'≤a) (h2:b≤b'):RP a' b' l m:=
 ⟨h.len,fun i hi=>h.out i (by omega),h.perm⟩
theorem RP.swap {α:Type} {a b i j:Nat} {l:List α} {d:α} (hi:a≤i) (hi':i<b) (hj:a≤j) (hj':j<b) (hb:b≤l.length):RP a b l ((l.set i ((l[j]?).getD d)).set j ((l[i]?).getD d)):=by
 refine ⟨by simp,fun k hk=> ?_,swap_perm (by omega) (by omega)⟩
 rw [List.getElem?_set_ne (by omega),List.getElem?_set_ne (by omega)]
theorem split3 {α:Type} (a b:Nat) (l:List α) (hab:a≤b):l=l.take a++((l.take b).drop a++l.drop b):=by
 have h1:(l.take b).take a=l.take a:=by rw [List.take_take,Nat.min_eq_left hab]
 have h2:l.take b=l.take a++(l.take b).drop a:=by rw [← h1,List.take_append_drop]
 rw [← List.append_assoc,← h2,List.take_append_drop]
theorem RP.mid {α:Type} {a b:Nat} {l m:List α} (h:RP a b l m) (hab:a≤b):((m.take b).drop a).Perm ((l.take b).drop a):=by
 have h1:m.take a=l.take a:=List.ext_getElem? fun i=>by
  rw [List.getElem?_take,List.getElem?_take]
  split
  ·exact h.out i (by omega)
  ·rfl
 have h2:m.drop b=l.drop b:=List.ext_getElem? fun i=>by
  rw [List.getElem?_drop,List.getElem?_drop]
  exact h.out _ (by omega)
 have:=h.perm
 rw [split3 a b m hab,split3 a b l hab,h1,h2] at this
 exact (List.perm_append_right_iff _).1 ((List.perm_append_left_iff _).1 this)
theorem RP.all {α:Type} {a b:Nat} {l m:List α} (h:RP a b l m) {P:α→Prop} (hP:∀ i x,a≤i→i<b→l[i]? =some x→P x):∀ i x,a≤i→i<b→m[i]? =some x→P x:=fun i x h1 h2 hx=>by
 have hm:x∈(m.take b).drop a:=by
  refine List.mem_iff_getElem?.2 ⟨i - a,?_⟩
  rw [List.getElem?_drop,List.getElem?_take,if_pos (by omega),show a+(i - a)=i by omega]; exact hx
 have hl:=(h.mid (by omega)).subset hm
 obtain ⟨k,hk⟩:=List.mem_iff_getElem?.1 hl
 rw [List.getElem?_drop,List.getElem?_take] at hk
 split at hk
 ·exact hP (a+k) x (by omega) (by assumption) hk
 ·cases hk
def InOrder {α:Type} (lt:α→α→Prop) (a b:Nat) (l:List α):Prop:=∀ i j x y,a≤i→i<j→j<b→l[i]? =some x→l[j]? =some y→¬ lt y x
structure InsAt {α:Type} (lt:α→α→Prop) (a b j:Nat) (l:List α):Prop where
 rest:∀ p q x y,a≤p→p<q→q<b→p≠j→q≠j→l[p]? =some x→l[q]? =some y→¬ lt y x
 back:∀ q x y,j<q→q<b→l[j]? =some x→l[q]? =some y→¬ lt y x
theorem InsAt.start {α:Type} {lt:α→α→Prop} {a j:Nat} {l:List α} (h:InOrder lt a j l):InsAt lt a (j+1) j l:=
 ⟨fun p q x y h1 h2 h3 h4 h5 hx hy=>h p q x y h1 h2 (by omega) hx hy,fun q x y h1 h2=>by omega⟩
theorem InsAt.step {α:Type} {lt:α→α→Prop} (hasym:∀ x y,lt x y→¬ lt y x) {a b j:Nat} {l:List α} {x y:α} (h:InsAt lt a b (j+1) l) (ha:a≤j) (hb:j+1<b) (hx:l[j]? =some x) (hy:l[j+1]? =some y) (hlt:lt y x):
  InsAt lt a b j ((l.set (j+1) x).set j y):=by
 have hlen:j+1<l.length:=(List.getElem?_eq_some_iff.1 hy).1
 have h0:((l.set (j+1) x).set j y)[j]? =some y:=List.getElem?_set_self (by simp; omega)
 have h1:((l.set (j+1) x).set j y)[j+1]? =some x:=by rw [List.getElem?_set_ne (by omega),List.getElem?_set_self hlen]
 have h2:∀ k,k≠j→k≠j+1→((l.set (j+1) x).set j y)[k]? =l[k]? :=fun k hk hk'=>by
  rw [List.getElem?_set_ne (by omega),List.getElem?_set_ne (by omega)]
 refine ⟨fun p q u v k1 k2 k3 k4 k5 hu hv=> ?_,fun q u v k1 k2 hu hv=> ?_⟩
 ·by_cases hp:p=j+1
  ·subst hp
   rw [h1] at hu; injection hu with hu; subst hu
   rw [h2 q k5 (by omega)] at hv
   exact h.rest j q x v ha (by omega) k3 (by omega) (by omega) hx hv
  ·rw [h2 p k4 hp] at hu
   by_cases hq:q=j+1
   ·subst hq
    rw [h1] at hv; injection hv with hv; subst hv
    exact h.rest p j u x k1 (by omega) (by omega) hp (by omega) hu hx
   ·rw [h2 q k5 hq] at hv
    exact h.rest p q u v k1 k2 k3 hp hq hu hv
 ·rw [h0] at hu; injection hu with hu; subst hu
  by_cases hq:q=j+1
  ·subst hq
   rw [h1] at hv; injection hv with hv; subst hv
   exact hasym _ _ hlt
  ·rw [h2 q (by omega) hq] at hv
   exact h.back q y v (by omega) k2 hy hv
theorem InsAt.stop {α:Type} {lt:α→α→Prop} (htr:∀ x y z,¬ lt y x→¬ lt z y→¬ lt z x) {a b j:Nat} {l:List α} (h:InsAt lt a b j l) (hb:b≤l.length) (hs:j=a∨∃ x y,a<j∧l[j - 1]? =some x∧l[j]? =some y∧¬ lt y x):InOrder lt a b l:=by
 intro p q u v k1 k2 k3 hu hv
 by_cases hp:p=j
 ·subst hp; exact h.back q u v k2 k3 hu hv
 ·by_cases hq:q=j
  ·subst hq
   rcases hs with hs | ⟨x,y,h1,h2,h3,h4⟩
   ·omega
   ·rw [h3] at hv; injection hv with hv; subst hv
    by_cases hpj:p=q - 1
    ·subst hpj; rw [h2] at hu; injection hu with hu; subst hu; exact h4
    ·exact htr u x y (h.rest p (q - 1) u x k1 (by omega) (by omega) hp (by omega) hu h2) h4
  ·exact h.rest p q u v k1 k2 k3 hp hq hu hv
def Heaped {α:Type} (lt:α→α→Prop) (f lo hi:Nat) (l:List α):Prop:=∀ r c x y,lo≤r→(c=2*r+1∨c=2*r+2)→c<hi→l[f+r]? =some x→l[f+c]? =some y→¬ lt x y
structure SiftAt {α:Type} (lt:α→α→Prop) (f lo hi k:Nat) (l:List α):Prop where
 rest:∀ r c x y,lo≤r→r≠k→(c=2*r+1∨c=2*r+2)→c<hi→l[f+r]? =some x→l[f+c]? =some y→¬ lt x y
 over:∀ r c x y,lo≤r→(k=2*r+1∨k=2*r+2)→(c=2*k+1∨c=2*k+2)→c<hi→l[f+r]? =some x→l[f+c]? =some y→¬ lt x y
theorem SiftAt.start {α:Type} {lt:α→α→Prop} {f lo hi:Nat} {l:List α} (h:Heaped lt f (lo+1) hi l):SiftAt lt f lo hi lo l:=
 ⟨fun r c x y h1 h2 h3 h4 hx hy=>h r c x y (by omega) h3 h4 hx hy,fun r c x y h1 h2=>by omega⟩
theorem SiftAt.stop {α:Type} {lt:α→α→Prop} {f lo hi k:Nat} {l:List α} (h:SiftAt lt f lo hi k l) (hk:∀ c x y,(c=2*k+1∨c=2*k+2)→c<hi→l[f+k]? =some x→l[f+c]? =some y→¬ lt x y):Heaped lt f lo hi l:=by
 intro r c x y h1 h2 h3 hx hy
 by_cases hr:r=k
 ·subst hr; exact hk c x y h2 h3 hx hy
 ·exact h.rest r c x y h1 hr h2 h3 hx hy
theorem SiftAt.step {α:Type} {lt:α→α→Prop} (hasym:∀ x y,lt x y→¬ lt y x) {f lo hi k c:Nat} {l:List α} {x y:α} (h:SiftAt lt f lo hi k l) (hlo:lo≤k) (hc:c=2*k+1∨c=2*k+2) (hch:c<hi) (hx:l[f+k]? =some x) (hy:l[f+c]? =some y) (hlt:lt x y)
  (hmax:∀ d z,(d=2*k+1∨d=2*k+2)→d<hi→l[f+d]? =some z→¬ lt y z):SiftAt lt f lo hi c ((l.set (f+k) y).set (f+c) x):=by
 have hlk:f+k<l.length:=(List.getElem?_eq_some_iff.1 hx).1
 have hlc:f+c<l.length:=(List.getElem?_eq_some_iff.1 hy).1
 have e0:((l.set (f+k) y).set (f+c) x)[f+c]? =some x:=List.getElem?_set_self (by simp; omega)
 have e1:((l.set (f+k) y).set (f+c) x)[f+k]? =some y:=by rw [List.getElem?_set_ne (by omega),List.getElem?_set_self hlk]
 have e2:∀ d,d≠k→d≠c→((l.set (f+k) y).set (f+c) x)[f+d]? =l[f+d]? :=fun d h1 h2=>by
  rw [List.getElem?_set_ne (by omega),List.getElem?_set_ne (by omega)]
 refine ⟨fun r d u v k1 k2 k3 k4 hu hv=> ?_,fun r d u v k1 k2 k3 k4 hu hv=> ?_⟩
 ·by_cases hr:r=k
  ·subst hr
   rw [e1] at hu; injection hu with hu; subst hu
   by_cases hd:d=c
   ·subst hd
    rw [e0] at hv; injection hv with hv; subst hv
    exact hasym _ _ hlt
   ·rw [e2 d (by omega) hd] at hv
    exact hmax d v k3 k4 hv
  ·rw [e2 r hr k2] at hu
   by_cases hd:d=k
   ·subst hd
    rw [e1] at hv; injection hv with hv; subst hv
    exact h.over r c u y k1 k3 hc hch hu hy
   ·rw [e2 d hd (by omega)] at hv
    exact h.rest r d u v k1 hr k3 k4 hu hv
 ·have hr:r=k:=by omega
  subst hr
  rw [e1] at hu; injection hu with hu; subst hu
  rw [e2 d (by omega) (by omega)] at hv
  exact h.rest c d y v (by omega) (by omega) k3 k4 hy hv
theorem heap_top {α:Type} {lt:α→α→Prop} (hirr:∀ x,¬ lt x x) (htr:∀ x y z,¬ lt y x→¬ lt z y→¬ lt z x) {f hi:Nat} {l:List α} (h:Heaped lt f 0 hi l) {x:α} (hx:l[f]? =some x) (hhi:f+hi≤l.length):∀ r y,r<hi→l[f+r]? =some y→¬ lt x y:=by
 intro r
 induction r using Nat.strongRecOn with
 | ind r ih=>
  intro y hr hy
  by_cases h0:r=0
  ·subst h0
   rw [Nat.add_zero,hx] at hy; injection hy with hy; subst hy; exact hirr _
  ·have hp:(r - 1) / 2<r:=by omega
   have hz:l[f+(r - 1) / 2]? =some (l[f+(r - 1) / 2]'(by omega)):=List.getElem?_eq_getElem (by omega)
   exact htr y _ x (h ((r - 1) / 2) r _ y (Nat.zero_le _) (by omega) hr hz hy) (ih _ hp _ (by omega) hz)
theorem scan_up {ρ:Type} {d:ρ} {step:Int × Unit→Bool × Bool × (Int × Unit) × ρ} (n:Nat) (P:Nat→Prop) (R:Nat→ρ) (i0:Nat) (h:i0≤n)
  (hgo:∀ i,i0≤i→i<n→P i→RGo (step ((i:Int),())) (((i+1:Nat):Int),()))
  (hend:∀ i,i0≤i→i≤n→(i=n∨¬ P i)→REnd (step ((i:Int),())) (R i)):
  ∃ i,i0≤i∧i≤n∧(∀ k,i0≤k→k<i→P k)∧(i=n∨¬ P i)∧loopR d step ((i0:Int),())=(true,R i):=by
 have key:∀ k i,i+k=n→i0≤i→(∀ q,i0≤q→q<i→P q)→∃ i',i0≤i'∧i'≤n∧(∀ q,i0≤q→q<i'→P q)∧(i'=n∨¬ P i')∧loopR d step ((i:Int),())=(true,R i'):=by
  intro k
  induction k with
  | zero=>
   intro i hi h0 hP
   have:i=n:=by omega
   subst this
   exact ⟨i,h0,Nat.le_refl _,hP,.inl rfl,(hend i h0 (Nat.le_refl _) (.inl rfl)).end⟩
  | succ k ih=>
   intro i hi h0 hP
   by_cases hp:P i
   ·rw [(hgo i h0 (by omega) hp).go]
    exact ih (i+1) (by omega) (by omega) (fun q h1 h2=>by
     rcases Nat.lt_or_ge q i with hlt | hge
     ·exact hP q h1 hlt
     ·have:q=i:=by omega
      rw [this]; exact hp)
   ·exact ⟨i,h0,by omega,hP,.inr hp,(hend i h0 (by omega) (.inr hp)).end⟩
 exact key (n - i0) i0 (by omega) (Nat.le_refl _) (fun q h1 h2=>by omega)
theorem scan_down {ρ:Type} {d:ρ} {step:Int × Unit→Bool × Bool × (Int × Unit) × ρ} (n:Nat) (P:Nat→Prop) (R:Nat→ρ) (j0:Nat) (h:n≤j0)
  (hgo:∀ j,n≤j→j<j0→P j→RGo (step (((j+1:Nat):Int) - 1,())) ((j:Int) - 1,()))
  (hend:∀ j,n≤j→j≤j0→(j=n∨∃ k,j=k+1∧n≤k∧¬ P k)→REnd (step ((j:Int) - 1,())) (R j)):
  ∃ j,n≤j∧j≤j0∧(∀ k,j≤k→k<j0→P k)∧(j=n∨∃ k,j=k+1∧n≤k∧¬ P k)∧loopR d step ((j0:Int) - 1,())=(true,R j):=by
 have key:∀ k j,n+k=j→j≤j0→(∀ q,j≤q→q<j0→P q)→∃ j',n≤j'∧j'≤j0∧(∀ q,j'≤q→q<j0→P q)∧(j'=n∨∃ k,j'=k+1∧n≤k∧¬ P k)∧loopR d step ((j:Int) - 1,())=(true,R j'):=by
  intro k
  induction k with
  | zero=>
   intro j hj h0 hP
   have:j=n:=by omega
   subst this
   exact ⟨j,Nat.le_refl _,h0,hP,.inl rfl,(hend j (Nat.le_refl _) h0 (.inl rfl)).end⟩
  | succ k ih=>
   intro j hj h0 hP
   obtain ⟨i,rfl⟩:∃ i,j=i+1:=⟨j - 1,by omega⟩
   by_cases hp:P i
   ·rw [(hgo i (by omega) (by omega) hp).go]
    exact ih i (by omega) (by omega) (fun q h1 h2=>by
     rcases Nat.lt_or_ge i q with hlt | hge
     ·exact hP q hlt h2
     ·have:q=i:=by omega
      rw [this]; exact hp)
   ·exact ⟨i+1,by omega,h0,hP,.inr ⟨i,rfl,by omega,hp⟩,(hend (i+1) (by omega) h0 (.inr ⟨i,rfl,by omega,hp⟩)).end⟩
 exact key (j0 - n) j0 (by omega) (Nat.le_refl _) (fun q h1 h2=>by omega)
structure PartAt {α:Type} (P:α→Prop) (a i j b:Nat) (m:List α):Prop where
 left:∀ p x,a≤p→p<i→m[p]? =some x→P x
 right:∀ q x,j≤q→q<b→m[q]? =some x→¬ P x
theorem PartAt.start {α:Type} {P:α→Prop} {a b:Nat} {m:List α} :PartAt P a a b b m:=⟨fun p x h1 h2=>by omega,fun p x h1 h2=>by omega⟩
theorem PartAt.scan {α:Type} {P:α→Prop} {a i j b i' j':Nat} {m:List α} (h:PartAt P a i j b m) (h1:∀ k,i≤k→k<i'→∃ x,m[k]? =some x∧P x) (h2:∀ k,j'≤k→k<j→∃ x,m[k]? =some x∧¬ P x):PartAt P a i' j' b m:=
 ⟨fun p x e1 e2 e3=>by
  rcases Nat.lt_or_ge p i with hlt | hge
  ·exact h.left p x e1 hlt e3
  ·obtain ⟨y,k1,k2⟩:=h1 p hge e2
   rw [k1] at e3; injection e3 with e3; subst e3; exact k2,fun q x e1 e2 e3=>by
  rcases Nat.lt_or_ge q j with hlt | hge
  ·obtain ⟨y,k1,k2⟩:=h2 q e1 hlt
   rw [k1] at e3; injection e3 with e3; subst e3; exact k2
  ·exact h.right q x hge e2 e3⟩
theorem PartAt.swap {α:Type} {P:α→Prop} {a i k b:Nat} {m:List α} {x y:α} (h:PartAt P a i (k+1) b m) (hik:i<k) (hk:k<m.length) (hx:m[i]? =some x) (hy:m[k]? =some y) (hpx:¬ P x) (hpy:P y):PartAt P a (i+1) k b ((m.set i y).set k x):=by
 refine ⟨fun p z e1 e2 e3=> ?_,fun q z e1 e2 e3=> ?_⟩
 ·rw [List.getElem?_set_ne (by omega)] at e3
  by_cases hp:p=i
  ·subst hp
   rw [List.getElem?_set_self (by omega)] at e3
   injection e3 with e3; subst e3; exact hpy
  ·rw [List.getElem?_set_ne (by omega)] at e3
   exact h.left p z e1 (by omega) e3
 ·by_cases hq:q=k
  ·subst hq
   rw [List.getElem?_set_self (by simp; omega)] at e3
   injection e3 with e3; subst e3; exact hpx
  ·rw [List.getElem?_set_ne (by omega),List.getElem?_set_ne (by omega)] at e3
   exact h.right q z (by omega) e2 e3
theorem swap_at {α:Type} {l:List α} {i j:Nat} {x y:α} (hx:l[i]? =some x) (hy:l[j]? =some y) (k:Nat):((l.set i y).set j x)[k]? =if k=j then some x else if k=i then some y else l[k]? :=by
 have hi:i<l.length:=(List.getElem?_eq_some_iff.1 hx).1
 have hj:j<l.length:=(List.getElem?_eq_some_iff.1 hy).1
 by_cases h1:k=j
 ·subst h1; rw [if_pos rfl]; exact List.getElem?_set_self (by simp; omega)
 ·rw [if_neg h1,List.getElem?_set_ne (by omega)]
  by_cases h2:k=i
  ·subst h2; rw [if_pos rfl]; exact List.getElem?_set_self hi
  ·rw [if_neg h2]; exact List.getElem?_set_ne (by omega)
theorem RP.swap' {α:Type} {a b i j:Nat} {l:List α} {x y:α} (hx:l[i]? =some x) (hy:l[j]? =some y) (hi:a≤i) (hi':i<b) (hj:a≤j) (hj':j<b):RP a b l ((l.set i y).set j x):=by
 refine ⟨by simp,fun k hk=> ?_,?_⟩
 ·rw [List.getElem?_set_ne (by omega),List.getElem?_set_ne (by omega)]
 ·have h1:i<l.length:=(List.getElem?_eq_some_iff.1 hx).1
  have h2:j<l.length:=(List.getElem?_eq_some_iff.1 hy).1
  have:=swap_perm (d:=x) h1 h2
  rw [hx,hy] at this
  exact this
theorem InOrder.join {α:Type} {lt:α→α→Prop} {a k b:Nat} {l:List α} (h1:InOrder lt a k l) (h2:InOrder lt k b l) (h3:∀ p q x y,a≤p→p<k→k≤q→q<b→l[p]? =some x→l[q]? =some y→¬ lt y x):InOrder lt a b l:=by
 intro i j x y e1 e2 e3 hx hy
 rcases Nat.lt_or_ge j k with hlt | hge
 ·exact h1 i j x y e1 e2 hlt hx hy
 ·rcases Nat.lt_or_ge i k with hlt | hge'
  ·exact h3 i j x y e1 hlt hge e3 hx hy
  ·exact h2 i j x y hge' e2 e3 hx hy
theorem InOrder.of_out {α:Type} {lt:α→α→Prop} {a b c d:Nat} {l m:List α} (h:InOrder lt a b l) (hr:RP c d l m) (hd:b≤c∨d≤a):InOrder lt a b m:=by
 intro i j x y e1 e2 e3 hx hy
 rw [hr.out i (by omega)] at hx
 rw [hr.out j (by omega)] at hy
 exact h i j x y e1 e2 e3 hx hy
end Go.Tm
namespace Go.Tm
set_option linter.unusedVariables false
set_option linter.unusedSimpArgs false
inductive Conn (l:List (Int × Int × Int)) (a:Int):Int→Prop
 | refl:Conn l a a
 | fwd {e:Int × Int × Int} :e∈l→Conn l a e.1→Conn l a e.2.1
 | bwd {e:Int × Int × Int} :e∈l→Conn l a e.2.1→Conn l a e.1
theorem Conn.trans {l:List (Int × Int × Int)} {a b c:Int} (h:Conn l a b) (k:Conn l b c):Conn l a c:=by
 induction k with
 | refl=>exact h
 | fwd he _ ih=>exact .fwd he ih
 | bwd he _ ih=>exact .bwd he ih
theorem Conn.symm {l:List (Int × Int × Int)} {a b:Int} (h:Conn l a b):Conn l b a:=by
 induction h with
 | refl=>exact .refl
 | fwd he _ ih=>exact (Conn.bwd he .refl).trans ih
 | bwd he _ ih=>exact (Conn.fwd he .refl).trans ih
theorem Conn.mono {l m:List (Int × Int × Int)} {a b:Int} (h:Conn l a b) (hs:∀ e∈l,e∈m):Conn m a b:=by
 induction h with
 | refl=>exact .refl
 | fwd he _ ih=>exact .fwd (hs _ he) ih
 | bwd he _ ih=>exact .bwd (hs _ he) ih
theorem conn_snoc {l:List (Int × Int × Int)} {e:Int × Int × Int} {a b:Int} :Conn (l++ [e]) a b↔Conn l a b∨(Conn l a e.1∧Conn l e.2.1 b)∨(Conn l a e.2.1∧Conn l e.1 b):=by
 have hm:∀ x∈l,x∈l++ [e]:=fun x hx=>List.mem_append_left _ hx
 have he:e∈l++ [e]:=List.mem_append_right _ (.head _)
 constructor
 ·intro h
  induction h with
  | refl=>exact .inl .refl
  | @fwd f hf _ ih=>
   rcases List.mem_append.1 hf with hf | hf
   ·rcases ih with h | ⟨h1,h2⟩ | ⟨h1,h2⟩
    ·exact .inl (.fwd hf h)
    ·exact .inr (.inl ⟨h1,.fwd hf h2⟩)
    ·exact .inr (.inr ⟨h1,.fwd hf h2⟩)
   ·rw [List.mem_singleton.1 hf] at ih ⊢
    rcases ih with h | ⟨h1,h2⟩ | ⟨h1,h2⟩
    ·exact .inr (.inl ⟨h,.refl⟩)
    ·exact .inr (.inl ⟨h1,.refl⟩)
    ·exact .inl h1
  | @bwd f hf _ ih=>
   rcases List.mem_append.1 hf with hf | hf
   ·rcases ih with h | ⟨h1,h2⟩ | ⟨h1,h2⟩
    ·exact .inl (.bwd hf h)
    ·exact .inr (.inl ⟨h1,.bwd hf h2⟩)
    ·exact .inr (.inr ⟨h1,.bwd hf h2⟩)
   ·rw [List.mem_singleton.1 hf] at ih ⊢
    rcases ih with h | ⟨h1,h2⟩ | ⟨h1,h2⟩
    ·exact .inr (.inr ⟨h,.refl⟩)
    ·exact .inl h1
    ·exact .inr (.inr ⟨h1,.refl⟩)
 ·rintro (h | ⟨h1,h2⟩ | ⟨h1,h2⟩)
  ·exact h.mono hm
  ·exact (Conn.fwd he (h1.mono hm)).trans (h2.mono hm)
  ·exact (Conn.bwd he (h1.mono hm)).trans (h2.mono hm)
theorem conn_skip {l:List (Int × Int × Int)} {e:Int × Int × Int} (he:Conn l e.1 e.2.1) {a b:Int} :Conn (l++ [e]) a b↔Conn l a b:=by
 rw [conn_snoc]
 constructor
 ·rintro (h | ⟨h1,h2⟩ | ⟨h1,h2⟩)
  ·exact h
  ·exact (h1.trans he).trans h2
  ·exact (h1.trans he.symm).trans h2
 ·exact .inl
theorem conn_congr {l m:List (Int × Int × Int)} (h:∀ a b,Conn l a b↔Conn m a b) (e:Int × Int × Int) (a b:Int):Conn (l++ [e]) a b↔Conn (m++ [e]) a b:=by
 rw [conn_snoc,conn_snoc,h,h,h,h,h]
open Classical in
noncomputable def greedy (acc:List (Int × Int × Int)):List (Int × Int × Int)→List (Int × Int × Int)
 | []=>acc
 | e::l=>if Conn acc e.1 e.2.1 then greedy acc l else greedy (acc++ [e]) l
open Classical in
theorem greedy_snoc (e:Int × Int × Int):∀ (l acc:List (Int × Int × Int)),greedy acc (l++ [e])=if Conn (greedy acc l) e.1 e.2.1 then greedy acc l else greedy acc l++ [e]
 | [],acc=>rfl
 | f::l,acc=>by
  show (if Conn acc f.1 f.2.1 then greedy acc (l++ [e]) else greedy (acc++ [f]) (l++ [e]))=_
  have hg:greedy acc (f::l)=if Conn acc f.1 f.2.1 then greedy acc l else greedy (acc++ [f]) l:=rfl
  rw [hg]
  by_cases hc:Conn acc f.1 f.2.1
  ·rw [if_pos hc,if_pos hc]; exact greedy_snoc e l acc
  ·rw [if_neg hc,if_neg hc]; exact greedy_snoc e l (acc++ [f])
open Classical in
theorem greedy_conn:∀ (n:Nat) (l:List (Int × Int × Int)),n≤l.length→∀ a b,Conn (greedy [] (l.take n)) a b↔Conn (l.take n) a b
 | 0,l,_,a,b=>by rw [List.take_zero]; exact Iff.rfl
 | n+1,l,hn,a,b=>by
  have hx:l[n]? =some l[n]:=List.getElem?_eq_getElem (by omega)
  have tk:l.take (n+1)=l.take n++ [l[n]]:=by rw [List.take_add_one,hx]; rfl
  have ih:=greedy_conn n l (by omega)
  rw [tk,greedy_snoc]
  by_cases hc:Conn (greedy [] (l.take n)) l[n].1 l[n].2.1
  ·rw [if_pos hc,conn_skip ((ih _ _).1 hc),ih]
  ·rw [if_neg hc]; exact conn_congr ih _ a b
theorem greedy_conn' (l:List (Int × Int × Int)) (a b:Int):Conn (greedy [] l) a b↔Conn l a b:=by
 have:=greedy_conn l.length l (Nat.le_refl _) a b
 rwa [List.take_length] at this
open Classical in
theorem greedy_take {l:List (Int × Int × Int)} {n:Nat} (hn:n<l.length):greedy [] (l.take (n+1))=if Conn (l.take n) l[n].1 l[n].2.1 then greedy [] (l.take n) else greedy [] (l.take n)++ [l[n]]:=by
 have tk:l.take (n+1)=l.take n++ [l[n]]:=by rw [List.take_add_one,List.getElem?_eq_getElem hn]; rfl
 rw [tk,greedy_snoc]
 by_cases hc:Conn (l.take n) l[n].1 l[n].2.1
 ·rw [if_pos hc,if_pos ((greedy_conn n l (by omega) _ _).2 hc)]
 ·rw [if_neg hc,if_neg (fun h=>hc ((greedy_conn n l (by omega) _ _).1 h))]
theorem greedy_sub:∀ (l acc:List (Int × Int × Int)),∀ e∈greedy acc l,e∈acc∨e∈l
 | [],acc,e,h=>.inl h
 | f::l,acc,e,h=>by
  unfold greedy at h
  split at h
  ·rcases greedy_sub l acc e h with h | h
   ·exact .inl h
   ·exact .inr (.tail _ h)
  ·rcases greedy_sub l (acc++ [f]) e h with h | h
   ·rcases List.mem_append.1 h with h | h
    ·exact .inl h
    ·rw [List.mem_singleton.1 h]; exact .inr (.head _)
   ·exact .inr (.tail _ h)
theorem greedy_acc:∀ (l acc:List (Int × Int × Int)),∃ m,greedy acc l=acc++m∧m.Sublist l
 | [],acc=>⟨[],by simp [greedy],.slnil⟩
 | f::l,acc=>by
  unfold greedy
  split
  ·obtain ⟨m,h1,h2⟩:=greedy_acc l acc
   exact ⟨m,h1,h2.cons _⟩
  ·obtain ⟨m,h1,h2⟩:=greedy_acc l (acc++ [f])
   exact ⟨f::m,by rw [h1,List.append_assoc]; rfl,h2.cons_cons _⟩
theorem greedy_sublist (l:List (Int × Int × Int)):(greedy [] l).Sublist l:=by
 obtain ⟨m,h1,h2⟩:=greedy_acc l []
 rw [h1,List.nil_append]; exact h2
structure UF (up:List Int) (R ρ:Nat→Nat) (B:Nat):Prop where
 len:up.length=65
 rt:∀ i,i<65→R i<65∧R (R i)=R i
 at':∀ i,i<65→∃ p:Nat,p<65∧up[i]? =some (p:Int)∧R p=R i∧(p=i↔R i=i)∧(p≠i→ρ i<ρ p)∧ρ i≤B
theorem UF.half {up:List Int} {R ρ:Nat→Nat} {B:Nat} (h:UF up R ρ B) {a p q:Nat} (ha:a<65) (hp:p<65) (hq:q<65) (hap:up[a]? =some (p:Int)) (hpq:up[p]? =some (q:Int)) (hne:p≠a):
  UF (up.set a (q:Int)) R ρ B∧R q=R a∧ρ a<ρ q:=by
 obtain ⟨p',k1,k2,k3,k4,k5,k6⟩:=h.at' a ha
 have e1:p'=p:=by rw [hap] at k2; injection k2 with k2; omega
 subst e1
 obtain ⟨q',m1,m2,m3,m4,m5,m6⟩:=h.at' p' hp
 have e2:q'=q:=by rw [hpq] at m2; injection m2 with m2; omega
 subst e2
 have hr:ρ a<ρ q':=by
  by_cases hh:q'=p'
  ·subst hh; exact k5 hne
  ·have:=m5 hh; have:=k5 hne; omega
 refine ⟨⟨by rw [List.length_set]; exact h.len,h.rt,fun i hi=> ?_⟩,m3.trans k3,hr⟩
 by_cases hia:i=a
 ·subst hia
  refine ⟨q',m1,List.getElem?_set_self (by rw [h.len]; exact ha),m3.trans k3,⟨fun he=> ?_,fun he=> ?_⟩,fun _=>hr,k6⟩
  ·subst he; omega
  ·exact absurd (k4.2 he) hne
 ·obtain ⟨r,n1,n2,n3⟩:=h.at' i hi
  exact ⟨r,n1,by rw [List.getElem?_set_ne (by omega)]; exact n2,n3⟩
open Classical in
theorem UF.join {up:List Int} {R ρ:Nat→Nat} {B:Nat} (h:UF up R ρ B) {a b:Nat} (ha:a<65) (hb:b<65) (hra:R a=a) (hrb:R b=b) (hne:a≠b):
  ∃ ρ' B',UF (up.set b (a:Int)) (fun i=>if R i=b then a else R i) ρ' B':=by
 refine ⟨fun i=>if R i=a then ρ i+B+1 else ρ i,B+B+1,⟨by rw [List.length_set]; exact h.len,fun i hi=> ?_,fun i hi=> ?_⟩⟩
 ·by_cases hc:R i=b
  ·simp only [if_pos hc,hra,if_neg hne,and_self]
   exact ⟨ha,trivial⟩
  ·simp only [if_neg hc,(h.rt i hi).2,true_and,and_true]
   exact (h.rt i hi).1
 ·obtain ⟨p,k1,k2,k3,k4,k5,k6⟩:=h.at' i hi
  by_cases hib:i=b
  ·subst hib
   refine ⟨a,ha,List.getElem?_set_self (by rw [h.len]; exact hi),?_,?_,fun _=> ?_,?_⟩
   ·simp only [hra,hrb,if_neg hne,if_true]
   ·simp only [hrb,if_true]
   ·simp only [hrb,hra,if_neg (fun hh:i=a=>hne hh.symm),if_true]; omega
   ·simp only [hrb,if_neg (fun hh:i=a=>hne hh.symm)]; omega
  ·refine ⟨p,k1,by rw [List.getElem?_set_ne (by omega)]; exact k2,?_,?_,fun hpi=> ?_,?_⟩
   ·simp only [k3]
   ·by_cases hc:R i=b
    ·simp only [if_pos hc]
     rw [k4,hc]
     constructor
     ·intro hh; exact absurd hh.symm hib
     ·intro hh; subst hh; rw [hra] at hc; exact absurd hc hne
    ·simp only [if_neg hc]; exact k4
   ·have:=k5 hpi
    simp only [k3]
    split<;>omega
   ·show (if R i=a then ρ i+B+1 else ρ i)≤B+B+1
    split<;>omega
def Sets (l:List (Int × Int × Int)) (up size least:List Int):Prop:=
 size.length=65∧least.length=65∧∃ R ρ B,UF up R ρ B∧∀ i j:Nat,i<65→j<65→(R i=R j↔Conn l (i:Int) (j:Int))
theorem Sets.congr {l m:List (Int × Int × Int)} {up size least:List Int} (h:Sets l up size least) (hc:∀ a b,Conn l a b↔Conn m a b):Sets m up size least:=by
 obtain ⟨h1,h2,R,ρ,B,h3,h4⟩:=h
 exact ⟨h1,h2,R,ρ,B,h3,fun i j hi hj=>(h4 i j hi hj).trans (hc _ _)⟩
end Go.Tm
namespace Go.Tm
set_option linter.unusedVariables false
set_option linter.unusedSimpArgs false
abbrev E3:=Int × Int × Int
theorem conn_sub {l m:List E3} (h:∀ e∈l,Conn m e.1 e.2.1) {a b:Int} (hc:Conn l a b):Conn m a b:=by
 induction hc with
 | refl=>exact .refl
 | fwd he _ ih=>exact ih.trans (h _ he)
 | bwd he _ ih=>exact ih.trans (h _ he).symm
theorem first_cross {a b:Int} :∀ (F G:List E3),¬ Conn G a b→Conn (G++F) a b→∃ F1 f F2,F=F1++f::F2∧¬ Conn (G++F1) a b∧Conn (G++F1++ [f]) a b
 | [],G,h,hc=>by rw [List.append_nil] at hc; exact absurd hc h
 | f::F,G,h,hc=>by
  by_cases hf:Conn (G++ [f]) a b
  ·exact ⟨[],f,F,rfl,by rw [List.append_nil]; exact h,by rw [List.append_nil]; exact hf⟩
  ·obtain ⟨F1,g,F2,e1,e2,e3⟩:=first_cross F (G++ [f]) hf (by rw [List.append_assoc]; exact hc)
   exact ⟨f::F1,g,F2,by rw [e1]; rfl,by simpa [List.append_assoc] using e2,by simpa [List.append_assoc] using e3⟩
theorem cross_back {G:List E3} {f:E3} {a b:Int} (h:¬ Conn G a b) (hc:Conn (G++ [f]) a b):(Conn G f.1 a∧Conn G b f.2.1)∨(Conn G f.1 b∧Conn G a f.2.1):=by
 rcases conn_snoc.1 hc with h1 | ⟨h1,h2⟩ | ⟨h1,h2⟩
 ·exact absurd h1 h
 ·exact .inl ⟨h1.symm,h2.symm⟩
 ·exact .inr ⟨h2,h1⟩
theorem cross_conn {G m:List E3} {f e:E3} (h:¬ Conn G e.1 e.2.1) (hc:Conn (G++ [f]) e.1 e.2.1) (hG:∀ x∈G,x∈m) (he:e∈m):Conn m f.1 f.2.1:=by
 have hE:Conn m e.1 e.2.1:=.fwd he .refl
 rcases cross_back h hc with ⟨h1,h2⟩ | ⟨h1,h2⟩
 ·exact ((h1.mono hG).trans hE).trans (h2.mono hG)
 ·exact ((h1.mono hG).trans hE.symm).trans (h2.mono hG)
def wSum:List E3→Int
 | []=>0
 | e::l=>e.2.2+wSum l
theorem wSum_append:∀ l m:List E3,wSum (l++m)=wSum l+wSum m
 | [],m=>by simp [wSum]
 | e::l,m=>by
  show e.2.2+wSum (l++m)=e.2.2+wSum l+wSum m
  rw [wSum_append l m]; omega
theorem wSum_nonneg:∀ l:List E3,(∀ e∈l,0≤e.2.2)→0≤wSum l
 | [],_=>Int.le_refl _
 | e::l,h=>by
  have h1:=h e (.head _)
  have h2:=wSum_nonneg l (fun x hx=>h x (.tail _ hx))
  show 0≤e.2.2+wSum l
  omega
open Classical in
theorem kruskal_le {s T:List E3} (hs:∀ (i j:Nat) (x y:E3),i<j→s[i]? =some x→s[j]? =some y→x.2.2≤y.2.2) (hpos:∀ e∈s,0≤e.2.2) (hT:∀ e∈T,e∈s) (hspan:∀ a b,Conn s a b→Conn T a b):wSum (greedy [] s)≤wSum T:=by
 have key:∀ n,n≤s.length→∃ F:List E3,(∀ e∈F,e∈s)∧(∀ a b,Conn s a b→Conn (greedy [] (s.take n)++F) a b)∧wSum (greedy [] (s.take n))+wSum F≤wSum T:=by
  intro n
  induction n with
  | zero=>exact fun _=>⟨T,hT,fun a b h=>by rw [List.take_zero]; exact hspan a b h,by rw [List.take_zero]; show wSum []+wSum T≤wSum T; simp [wSum]⟩
  | succ n ih=>
   intro hn
   obtain ⟨F,h1,h2,h3⟩:=ih (by omega)
   have hx:s[n]? =some s[n]:=List.getElem?_eq_getElem (by omega)
   have hgt:=greedy_take (l:=s) (n:=n) (by omega)
   have hmem:s[n]∈s:=List.getElem_mem _
   generalize s[n]=e at hx hgt hmem
   rw [hgt]
   by_cases hc:Conn (s.take n) e.1 e.2.1
   ·rw [if_pos hc]; exact ⟨F,h1,h2,h3⟩
   ·rw [if_neg hc]
    have hG:¬ Conn (greedy [] (s.take n)) e.1 e.2.1:=fun h=>hc ((greedy_conn n s (by omega) _ _).1 h)
    obtain ⟨F1,f,F2,e1,e2,e3⟩:=first_cross F _ hG (h2 _ _ (.fwd hmem .refl))
    have hfs:f∈s:=h1 f (by rw [e1]; simp)
    obtain ⟨k,hk⟩:=List.mem_iff_getElem?.1 hfs
    have hw:e.2.2≤f.2.2:=by
     rcases Nat.lt_trichotomy n k with hlt | heq | hgt
     ·exact hs n k e f hlt hx hk
     ·subst heq; rw [hx] at hk; injection hk with hk; rw [hk]; exact Int.le_refl _
     ·exfalso
      have hft:f∈s.take n:=List.mem_iff_getElem?.2 ⟨k,by rw [List.getElem?_take,if_pos hgt]; exact hk⟩
      have hcf:Conn (greedy [] (s.take n)++F1) f.1 f.2.1:=((greedy_conn n s (by omega) _ _).2 (.fwd hft .refl)).mono (fun x hx=>List.mem_append_left _ hx)
      exact e2 ((conn_skip hcf).1 e3)
    refine ⟨F1++F2,fun x hx=>h1 x (by rw [e1]; rcases List.mem_append.1 hx with h | h<;>simp [h]),fun a b hab=> ?_,?_⟩
    ·refine conn_sub (fun x hx=> ?_) (h2 a b hab)
     rw [e1] at hx
     have hsub:∀ y∈greedy [] (s.take n)++F1,y∈greedy [] (s.take n)++ [e]++(F1++F2):=fun y hy=>by
      rcases List.mem_append.1 hy with h | h<;>simp [h]
     by_cases hxf:x=f
     ·subst hxf
      exact cross_conn e2 e3 hsub (by simp)
     ·refine .fwd ?_ .refl
      rcases List.mem_append.1 hx with h | h
      ·simp [h]
      ·rcases List.mem_append.1 h with h | h
       ·simp [h]
       ·cases h with
        | head=>exact absurd rfl hxf
        | tail _ h=>exact List.mem_append_right _ (List.mem_append_right _ h)
    ·rw [e1,wSum_append] at h3
     rw [wSum_append,wSum_append]
     have:wSum (f::F2)=f.2.2+wSum F2:=rfl
     have:wSum [e]=e.2.2:=by simp [wSum]
     omega
 obtain ⟨F,h1,h2,h3⟩:=key s.length (Nat.le_refl _)
 rw [List.take_length] at h3
 have:=wSum_nonneg F (fun e he=>hpos e (h1 e he))
 omega
def Acyc (l:List E3):Prop:=∀ k e,l[k]? =some e→¬ Conn (l.take k) e.1 e.2.1
open Classical in
theorem greedy_acyc (s:List E3):∀ n,n≤s.length→Acyc (greedy [] (s.take n))
 | 0,_=>fun k e h=>by rw [List.take_zero] at h; simp [greedy] at h
 | n+1,hn=>by
  have ih:=greedy_acyc s n (by omega)
  have hgt:=greedy_take (l:=s) (n:=n) (by omega)
  rw [hgt]
  by_cases hc:Conn (s.take n) s[n].1 s[n].2.1
  ·rw [if_pos hc]; exact ih
  ·rw [if_neg hc]
   have hG:¬ Conn (greedy [] (s.take n)) s[n].1 s[n].2.1:=fun h=>hc ((greedy_conn n s (by omega) _ _).1 h)
   intro k e hk
   rcases Nat.lt_or_ge k (greedy [] (s.take n)).length with hlt | hge
   ·rw [List.getElem?_append_left hlt] at hk
    rw [List.take_append_of_le_length (by omega)]
    exact ih k e hk
   ·rw [List.getElem?_append_right hge] at hk
    have hk0:k=(greedy [] (s.take n)).length:=by
     have:=(List.getElem?_eq_some_iff.1 hk).1
     simp at this; omega
    subst hk0
    simp at hk
    subst hk
    rw [List.take_left]
    exact hG
theorem greedy_acyc' (s:List E3):Acyc (greedy [] s):=by
 have:=greedy_acyc s s.length (Nat.le_refl _)
 rwa [List.take_length] at this
theorem Acyc.apart {l:List E3} (h:Acyc l) {l1 l2:List E3} {x:E3} (hl:l=l1++x::l2):¬ Conn (l1++l2) x.1 x.2.1:=by
 intro hc
 have hx:¬ Conn l1 x.1 x.2.1:=by
  have:=h l1.length x (by rw [hl,List.getElem?_append_right (Nat.le_refl _)]; simp)
  rw [hl,List.take_left] at this; exact this
 obtain ⟨F1,f,F2,e1,e2,e3⟩:=first_cross l2 l1 hx hc
 have hf:=h (l1.length+1+F1.length) f (by
  rw [hl,e1,List.getElem?_append_right (by omega),show l1.length+1+F1.length - l1.length=F1.length+1 by omega,List.getElem?_cons_succ,List.getElem?_append_right (Nat.le_refl _)]
  simp)
 have ht:l.take (l1.length+1+F1.length)=l1++x::F1:=by
  rw [hl,e1,show l1++x::(F1++f::F2)=(l1++x::F1)++f::F2 by simp,List.take_left' (by simp; omega)]
 rw [ht] at hf
 exact hf (cross_conn e2 e3 (fun y hy=>by rcases List.mem_append.1 hy with h | h<;>simp [h]) (by simp))
end Go.Tm
namespace Go.Proofs.Ytfeepbajipdfaaa.T
open Go.Vm Go.Tm
set_option linter.unusedVariables false
set_option linter.unusedSimpArgs false
def cmpI (a b:Int):Int:=if a<b then -1 else if b<a then 1 else 0
theorem compare_r (a b:Int):cmp_Compare_int_r a b=(true,cmpI a b):=by
 unfold cmp_Compare_int_r cmp_isNaN_int_r cmpI
 by_cases h1:a<b<;>by_cases h2:b<a<;>simp [h1,h2]
def firstNz:List Int→Int
 | []=>0
 | x::l=>if x=0 then firstNz l else x
theorem firstNz_drop {l:List Int} {i:Nat} (h:i<l.length):firstNz (l.drop i)=if l[i]=0 then firstNz (l.drop (i+1)) else l[i]:=by
 rw [List.drop_eq_getElem_cons h]; rfl
theorem or_r (l:List Int) (hl:l.length≤9223372036854775806):cmp_Or_int_r l=(true,firstNz l):=by
 have key:=loopR_by (d:=HL.dflt [.bool,.int .i64,.bool]) (step:=cmp_Or_int_l0 l) (fun s=>∃ i:Nat,s=((i:Int),())∧i≤l.length∧firstNz (l.drop i)=firstNz l) (fun s=>l.length - s.1.toNat) (fun r=>(cond r.2.2.1 (0:Int) r.2.1)=firstNz l) ((0:Int),()) ⟨0,rfl,by omega,by simp⟩
  (by
   rintro _ ⟨i,rfl,hi,hf⟩
   unfold cmp_Or_int_l0
   by_cases hlt:i<l.length
   ·have hw:=firstNz_drop hlt
    by_cases hz:l[i]=0
    ·simp [hlt,hz,wrap_i64 (x:=(i:Int)+1) (by omega) (by omega)]
     refine ⟨⟨i+1,rfl,by omega,?_⟩,by omega⟩
     rw [← hf,hw,if_pos hz]
    ·simp [hlt,hz]
     rw [← hf,hw,if_neg hz]
   ·have:l.drop i= []:=List.drop_eq_nil_of_le (by omega)
    rw [this] at hf
    simp [hlt,← hf]; rfl)
 exact Prod.ext key.1 key.2
def edgeCmp (a b:Int × Int × Int):Int:=firstNz [cmpI a.2.2 b.2.2,cmpI a.1 b.1,cmpI a.2.1 b.2.1]
theorem edge_Compare_eq (a b:Int × Int × Int):edge_Compare_r a b=(true,edgeCmp a b):=by
 unfold edge_Compare_r edgeCmp
 simp only [compare_r]
 rw [or_r _ (by simp)]
 rfl
theorem edgeCmp_cases (a b:Int × Int × Int):(edgeCmp a b= -1∧(a.2.2<b.2.2∨a.2.2=b.2.2∧(a.1<b.1∨a.1=b.1∧a.2.1<b.2.1)))∨(edgeCmp a b=0∧a=b)∨(edgeCmp a b=1∧(b.2.2<a.2.2∨a.2.2=b.2.2∧(b.1<a.1∨a.1=b.1∧b.2.1<a.2.1))):=by
 obtain ⟨x,y,w⟩:=a
 obtain ⟨x',y',w'⟩:=b
 unfold edgeCmp cmpI
 simp only [firstNz,Prod.mk.injEq]
 rcases Int.lt_trichotomy w w' with h1 | h1 | h1
 ·simp [h1]
 ·subst h1
  rcases Int.lt_trichotomy x x' with h2 | h2 | h2
  ·simp [h2]
  ·subst h2
   rcases Int.lt_trichotomy y y' with h3 | h3 | h3
   ·simp [h3]
   ·subst h3; simp
   ·simp [h3,Int.not_lt.2 (Int.le_of_lt h3)]
  ·simp [h2,Int.not_lt.2 (Int.le_of_lt h2)]
 ·simp [h1,Int.not_lt.2 (Int.le_of_lt h1)]
theorem node_r (n:Int):edge_Node_r n=(true,decide (1≤n∧n≤64)):=by
 unfold edge_Node_r
 by_cases h1:1≤n<;>simp [h1]
abbrev Ed:=Int × Int × Int
abbrev lt (a b:Ed):Prop:=edgeCmp a b<0
theorem lt_asym (a b:Ed) (h:lt a b):¬ lt b a:=by
 have h1:=edgeCmp_cases a b
 have h2:=edgeCmp_cases b a
 obtain ⟨x,y,w⟩:=a
 obtain ⟨x',y',w'⟩:=b
 simp only [lt,Prod.mk.injEq] at*
 omega
theorem le_trans' (a b c:Ed) (h:¬ lt b a) (h':¬ lt c b):¬ lt c a:=by
 have h1:=edgeCmp_cases b a
 have h2:=edgeCmp_cases c b
 have h3:=edgeCmp_cases c a
 obtain ⟨x,y,w⟩:=a
 obtain ⟨x',y',w'⟩:=b
 obtain ⟨x2,y2,w2⟩:=c
 simp only [lt,Prod.mk.injEq] at*
 omega
theorem le_anti (a b:Ed) (h:¬ lt b a) (h':¬ lt a b):a=b:=by
 have h1:=edgeCmp_cases a b
 have h2:=edgeCmp_cases b a
 obtain ⟨x,y,w⟩:=a
 obtain ⟨x',y',w'⟩:=b
 simp only [lt,Prod.mk.injEq] at*
 omega
end Go.Proofs.Ytfeepbajipdfaaa.T
namespace Go.Proofs.Ytfeepbajipdfaaa.T
open Go.Vm Go.Tm
set_option linter.unusedVariables false
set_option linter.unusedSimpArgs false
theorem ins_l1 (a:Nat) (b:Int) (L l:List Ed) (i:Nat) (hai:a≤i) (hi:i<l.length) (hbig:l.length≤4611686018427387904) (h:InOrder lt a i l):
  (loopR (HL.dflt [.bool,(.fl (.row (.prod (.int .i64) (.prod (.int .i64) (.int .i64)))))]) (slices_insertionSortCmpFunc_api_Edge_l1 (a:Int) b () L) ((i:Int),l,())).1=true∧
  (fun r:Bool × List Ed × Unit=>RP a (i+1) l r.2.1∧InOrder lt a (i+1) r.2.1) (loopR (HL.dflt [.bool,(.fl (.row (.prod (.int .i64) (.prod (.int .i64) (.int .i64)))))]) (slices_insertionSortCmpFunc_api_Edge_l1 (a:Int) b () L) ((i:Int),l,())).2:=by
 refine loopR_by (d:=HL.dflt [.bool,(.fl (.row (.prod (.int .i64) (.prod (.int .i64) (.int .i64)))))]) (step:=slices_insertionSortCmpFunc_api_Edge_l1 (a:Int) b () L) (fun s:Int × List Ed × Unit=>∃ (j:Nat) (m:List Ed),s=((j:Int),m,())∧a≤j∧j≤i∧RP a (i+1) l m∧InsAt lt a (i+1) j m) (fun s=>s.1.toNat) (fun r:Bool × List Ed × Unit=>RP a (i+1) l r.2.1∧InOrder lt a (i+1) r.2.1) ((i:Int),l,()) ⟨i,l,rfl,hai,Nat.le_refl _,RP.refl _ _ _,InsAt.start h⟩ ?_
 rintro _ ⟨j,m,rfl,h1,h2,h3,h4⟩
 have hlen:=h3.len
 by_cases hj:a<j
 ·obtain ⟨k,rfl⟩:∃ k,j=k+1:=⟨j - 1,by omega⟩
  have hw:IntKind.i64.wrap (((k+1:Nat):Int) - 1)=(k:Int):=by rw [wrap_i64 (by omega) (by omega)]; omega
  have hx:m[k]? =some (m[k]'(by omega)):=List.getElem?_eq_getElem (by omega)
  have hy:m[k+1]? =some (m[k+1]'(by omega)):=List.getElem?_eq_getElem (by omega)
  generalize m[k]'(by omega)=x at hx
  generalize m[k+1]'(by omega)=y at hy
  have g1:(((k+1:Nat):Int)>(a:Int)):=by omega
  have g2:k+1<m.length:=by omega
  have g3:(0:Int)≤((k+1:Nat):Int):=by omega
  have g4:k<m.length:=by omega
  unfold slices_insertionSortCmpFunc_api_Edge_l1
  simp only [hw,Int.toNat_natCast,hx,hy,Option.getD_some,edge_Compare_eq,decT g1,decT g2,decT g3,decT g4,decT (show (0:Int)≤(k:Int) by omega),cond_true,Bool.and_true,Bool.true_and,List.length_set]
  by_cases hlt:lt y x
  ·simp only [decT hlt,cond_true,Bool.and_true]
   refine ⟨trivial,fun _=>⟨⟨k,_,rfl,by omega,by omega,h3.trans ?_,h4.step lt_asym (by omega) (by omega) hx hy hlt⟩,?_⟩,fun h=>by cases h⟩
   ·have:=RP.swap (d:=y) (l:=m) (a:=a) (b:=i+1) (i:=k+1) (j:=k) (by omega) (by omega) (by omega) (by omega) (by omega)
    rw [hx,hy] at this
    exact this
   ·show ((k:Int)).toNat<(((k+1:Nat):Int)).toNat
    omega
  ·simp only [decF hlt,cond_false,Bool.and_true]
   exact ⟨trivial,fun h=>(by cases h),fun _=>⟨h3,h4.stop le_trans' (by omega) (.inr ⟨x,y,hj,hx,hy,hlt⟩)⟩⟩
 ·have:j=a:=by omega
  subst this
  have g1:¬ ((j:Int)>(j:Int)):=by omega
  unfold slices_insertionSortCmpFunc_api_Edge_l1
  simp only [decF g1,cond_false,Bool.and_true]
  exact ⟨trivial,fun h=>(by cases h),fun _=>⟨h3,h4.stop le_trans' (by omega) (.inl rfl)⟩⟩
theorem ins_r (a b:Nat) (l:List Ed) (hb:b≤l.length) (hab:a≤b) (hbig:l.length≤4611686018427387904):
  ∃ m,slices_insertionSortCmpFunc_api_Edge_r (a:Int) (b:Int) () l=(true,m)∧RP a b l m∧InOrder lt a b m:=by
 have key:=loopR_by (d:=HL.dflt [.bool,(.fl (.row (.prod (.int .i64) (.prod (.int .i64) (.int .i64)))))]) (step:=slices_insertionSortCmpFunc_api_Edge_l0 (a:Int) (b:Int) () l)
  (fun s:Int × List Ed × Unit=>∃ (i:Nat) (m:List Ed),s=((i:Int),m,())∧a<i∧(i≤b∨i=a+1)∧RP a b l m∧InOrder lt a i m) (fun s=>b - s.1.toNat) (fun r:Bool × List Ed × Unit=>RP a b l r.2.1∧InOrder lt a b r.2.1)
  (((a+1:Nat):Int),l,()) ⟨a+1,l,rfl,by omega,.inr rfl,RP.refl _ _ _,fun p q x y h1 h2 h3=>by omega⟩ (by
   rintro _ ⟨i,m,rfl,h1,h2,h3,h4⟩
   have hlen:=h3.len
   unfold slices_insertionSortCmpFunc_api_Edge_l0
   by_cases hi:i<b
   ·have g1:((i:Int)<(b:Int)):=by omega
    have hw:IntKind.i64.wrap ((i:Int)+1)=((i+1:Nat):Int):=by rw [wrap_i64 (by omega) (by omega)]; omega
    obtain ⟨k1,k2,k3⟩:=ins_l1 a (b:Int) l m i (by omega) (by omega) (by omega) h4
    simp only [decT g1,cond_true,hw,loopD_eq]
    exact ⟨k1,fun _=>⟨⟨i+1,_,rfl,by omega,by omega,h3.trans (k2.mono (Nat.le_refl _) (by omega)),k3⟩,by show b - (((i+1:Nat):Int)).toNat<b - ((i:Int)).toNat; omega⟩,fun h=>by cases h⟩
   ·have g1:¬ ((i:Int)<(b:Int)):=by omega
    simp only [decF g1,cond_false]
    exact ⟨trivial,fun h=>(by cases h),fun _=>⟨h3,fun p q x y e1 e2 e3=>h4 p q x y e1 e2 (by omega)⟩⟩)
 have hw:IntKind.i64.wrap ((a:Int)+1)=((a+1:Nat):Int):=by rw [wrap_i64 (by omega) (by omega)]; omega
 unfold slices_insertionSortCmpFunc_api_Edge_r
 simp only [hw,loopD_eq]
 exact ⟨_,Prod.ext key.1 rfl,key.2⟩
end Go.Proofs.Ytfeepbajipdfaaa.T
namespace Go.Proofs.Ytfeepbajipdfaaa.T
open Go.Vm Go.Tm
set_option linter.unusedVariables false
set_option linter.unusedSimpArgs false
theorem rev_r (a b:Nat) (l:List Ed) (hb:b≤l.length) (hab:a≤b) (hbig:l.length≤4611686018427387904):
  ∃ m,slices_reverseRangeCmpFunc_api_Edge_r (a:Int) (b:Int) () l=(true,m)∧RP a b l m:=by
 have key:=loopR_by (d:=HL.dflt [.bool,(.fl (.row (.prod (.int .i64) (.prod (.int .i64) (.int .i64)))))]) (step:=slices_reverseRangeCmpFunc_api_Edge_l0 (a:Int) (b:Int) () l)
  (fun s:Int × Int × List Ed × Unit=>∃ (j:Int) (i:Nat) (m:List Ed),s=(j,(i:Int),m,())∧a≤i∧i≤b∧j<b∧ -1≤j∧RP a b l m) (fun s=>(s.1 - s.2.1).toNat) (fun r:Bool × List Ed × Unit=>RP a b l r.2.1)
  ((b:Int) - 1,(a:Int),l,()) ⟨(b:Int) - 1,a,l,rfl,by omega,hab,by omega,by omega,RP.refl _ _ _⟩ (by
   rintro _ ⟨j,i,m,rfl,h1,h2,h3,h4,h5⟩
   have hlen:=h5.len
   unfold slices_reverseRangeCmpFunc_api_Edge_l0
   by_cases hi:(i:Int)<j
   ·obtain ⟨k,rfl⟩:∃ k:Nat,j=(k:Int):=⟨j.toNat,by omega⟩
    have hw1:IntKind.i64.wrap ((k:Int) - 1)=(k:Int) - 1:=wrap_i64 (by omega) (by omega)
    have hw2:IntKind.i64.wrap ((i:Int)+1)=((i+1:Nat):Int):=by rw [wrap_i64 (by omega) (by omega)]; omega
    simp only [decT hi,cond_true,hw1,hw2,Int.toNat_natCast,List.length_set,decT (show k<m.length by omega),decT (show i<m.length by omega),decT (show (0:Int)≤(k:Int) by omega),decT (show (0:Int)≤(i:Int) by omega),Bool.and_true]
    refine ⟨trivial,fun _=>⟨⟨(k:Int) - 1,i+1,_,rfl,by omega,by omega,by omega,by omega,h5.trans (RP.swap (by omega) (by omega) (by omega) (by omega) (by omega))⟩,?_⟩,fun h=>by cases h⟩
    show ((k:Int) - 1 - ((i+1:Nat):Int)).toNat<((k:Int) - (i:Int)).toNat
    omega
   ·simp only [decF hi,cond_false]
    exact ⟨trivial,fun h=>(by cases h),fun _=>h5⟩)
 have hw:IntKind.i64.wrap ((b:Int) - 1)=(b:Int) - 1:=wrap_i64 (by omega) (by omega)
 unfold slices_reverseRangeCmpFunc_api_Edge_r
 simp only [hw,loopD_eq]
 exact ⟨_,Prod.ext key.1 rfl,key.2⟩
end Go.Proofs.Ytfeepbajipdfaaa.T
namespace Go.Proofs.Ytfeepbajipdfaaa.T
open Go.Vm Go.Tm
set_option linter.unusedVariables false
set_option linter.unusedSimpArgs false
theorem sift_r (f lo hi:Nat) (l:List Ed) (hf:f+hi≤l.length) (hlo:lo≤hi) (hbig:l.length≤1152921504606846976) (h:Heaped lt f (lo+1) hi l):
  ∃ m,slices_siftDownCmpFunc_api_Edge_r (lo:Int) (hi:Int) (f:Int) () l=(true,m)∧RP f (f+hi) l m∧Heaped lt f lo hi m:=by
 have key:=loopR_by (d:=HL.dflt [.bool,(.fl (.row (.prod (.int .i64) (.prod (.int .i64) (.int .i64))))),.bool,(.fl (.row (.prod (.int .i64) (.prod (.int .i64) (.int .i64)))))]) (step:=slices_siftDownCmpFunc_api_Edge_l0 (lo:Int) (hi:Int) (f:Int) () l)
  (fun s:Int × List Ed × Unit=>∃ (k:Nat) (m:List Ed),s=((k:Int),m,())∧lo≤k∧k≤hi∧RP f (f+hi) l m∧SiftAt lt f lo hi k m) (fun s=>hi - s.1.toNat) (fun r:Bool × List Ed × Bool × List Ed × Unit=>RP f (f+hi) l (cond r.2.2.1 r.2.2.2.1 r.2.1)∧Heaped lt f lo hi (cond r.2.2.1 r.2.2.2.1 r.2.1))
  ((lo:Int),l,()) ⟨lo,l,rfl,Nat.le_refl _,hlo,RP.refl _ _ _,SiftAt.start h⟩ (by
   rintro _ ⟨k,m,rfl,h1,h2,h3,h4⟩
   have hlen:=h3.len
   have w1:IntKind.i64.wrap ((2:Int)*(k:Int))=((2*k:Nat):Int):=by rw [wrap_i64 (by omega) (by omega)]; omega
   have w2:IntKind.i64.wrap (((2*k:Nat):Int)+1)=((2*k+1:Nat):Int):=by rw [wrap_i64 (by omega) (by omega)]; omega
   have w3:IntKind.i64.wrap (((2*k+1:Nat):Int)+1)=((2*k+2:Nat):Int):=by rw [wrap_i64 (by omega) (by omega)]; omega
   have w4:IntKind.i64.wrap ((f:Int)+((2*k+1:Nat):Int))=((f+(2*k+1):Nat):Int):=by rw [wrap_i64 (by omega) (by omega)]; omega
   have w5:IntKind.i64.wrap (((f+(2*k+1):Nat):Int)+1)=((f+(2*k+2):Nat):Int):=by rw [wrap_i64 (by omega) (by omega)]; omega
   have w6:IntKind.i64.wrap ((f:Int)+(k:Int))=((f+k:Nat):Int):=by rw [wrap_i64 (by omega) (by omega)]; omega
   have w7:IntKind.i64.wrap ((f:Int)+((2*k+2:Nat):Int))=((f+(2*k+2):Nat):Int):=by rw [wrap_i64 (by omega) (by omega)]; omega
   have nn:∀ n:Nat,(0:Int)≤(n:Int):=fun n=>by omega
   unfold slices_siftDownCmpFunc_api_Edge_l0
   by_cases hc:hi≤2*k+1
   ·have g1:((2*k+1:Nat):Int)≥(hi:Int):=by omega
    simp only [w1,w2,decT g1,Bool.not_true,cond_false,Bool.false_and]
    exact ⟨trivial,fun h=>(by cases h),fun _=>⟨h3,h4.stop fun c x y e1 e2=>by omega⟩⟩
   ·have g1:¬ ((2*k+1:Nat):Int)≥(hi:Int):=by omega
    have hx:m[f+k]? =some (m[f+k]'(by omega)):=List.getElem?_eq_getElem (by omega)
    have hy:m[f+(2*k+1)]? =some (m[f+(2*k+1)]'(by omega)):=List.getElem?_eq_getElem (by omega)
    generalize m[f+k]'(by omega)=x at hx
    generalize m[f+(2*k+1)]'(by omega)=y at hy
    have g2:f+(2*k+1)<m.length:=by omega
    have g3:f+k<m.length:=by omega
    have fin:∀ (c:Nat) (v:Ed),(c=2*k+1∨c=2*k+2)→c<hi→m[f+c]? =some v→(∀ d z,(d=2*k+1∨d=2*k+2)→d<hi→m[f+d]? =some z→¬ lt v z)→
      (lt x v→(RP f (f+hi) l ((m.set (f+k) v).set (f+c) x)∧SiftAt lt f lo hi c ((m.set (f+k) v).set (f+c) x)))∧(¬ lt x v→Heaped lt f lo hi m):=by
     intro c v e1 e2 e3 e4
     refine ⟨fun hlt=>⟨h3.trans ?_,h4.step lt_asym h1 e1 e2 hx e3 hlt e4⟩,fun hlt=>h4.stop fun d u z d1 d2 d3 d4=> ?_⟩
     ·have:=RP.swap (d:=x) (l:=m) (a:=f) (b:=f+hi) (i:=f+k) (j:=f+c) (by omega) (by omega) (by omega) (by omega) (by omega)
      rw [hx,e3] at this
      exact this
     ·rw [hx] at d3; injection d3 with d3; subst d3
      exact le_trans' z v x (e4 d z d1 d2 d4) hlt
    by_cases hc2:2*k+2<hi
    ·have g4:((2*k+2:Nat):Int)<(hi:Int):=by omega
     have hz:m[f+(2*k+2)]? =some (m[f+(2*k+2)]'(by omega)):=List.getElem?_eq_getElem (by omega)
     generalize m[f+(2*k+2)]'(by omega)=z at hz
     have g5:f+(2*k+2)<m.length:=by omega
     by_cases hyz:lt y z
     ·have hfin:=fin (2*k+2) z (.inr rfl) hc2 hz (fun d u d1 d2 d3=>by
       rcases d1 with rfl | rfl
       ·rw [hy] at d3; injection d3 with d3; subst d3; exact lt_asym _ _ hyz
       ·rw [hz] at d3; injection d3 with d3; subst d3; exact fun hh=>lt_asym _ _ hh hh)
      simp only [w1,w2,w3,w4,w5,w6,w7,decF g1,decT g4,Int.toNat_natCast,hx,hy,hz,Option.getD_some,edge_Compare_eq,decT hyz,cond_true,decT (nn _),decT g2,decT g3,decT g5,Bool.not_false,Bool.and_true,Bool.true_and,List.length_set]
      by_cases hlt:lt x z
      ·simp only [decT hlt,Bool.not_true,Bool.not_false,cond_true]
       exact ⟨trivial,fun _=>⟨⟨2*k+2,_,rfl,by omega,by omega,(hfin.1 hlt).1,(hfin.1 hlt).2⟩,by show hi - (((2*k+2:Nat):Int)).toNat<hi - ((k:Int)).toNat; omega⟩,fun h=>by cases h⟩
      ·simp only [decF hlt,Bool.not_true,Bool.not_false,cond_false]
       exact ⟨trivial,fun h=>(by cases h),fun _=>⟨h3,hfin.2 hlt⟩⟩
     ·have hfin:=fin (2*k+1) y (.inl rfl) (by omega) hy (fun d u d1 d2 d3=>by
       rcases d1 with rfl | rfl
       ·rw [hy] at d3; injection d3 with d3; subst d3; exact fun hh=>lt_asym _ _ hh hh
       ·rw [hz] at d3; injection d3 with d3; subst d3; exact hyz)
      simp only [w1,w2,w3,w4,w5,w6,w7,decF g1,decT g4,Int.toNat_natCast,hx,hy,hz,Option.getD_some,edge_Compare_eq,decF hyz,cond_true,cond_false,decT (nn _),decT g2,decT g3,decT g5,Bool.not_false,Bool.and_true,Bool.true_and,List.length_set]
      by_cases hlt:lt x y
      ·simp only [decT hlt,Bool.not_true,Bool.not_false,cond_true]
       exact ⟨trivial,fun _=>⟨⟨2*k+1,_,rfl,by omega,by omega,(hfin.1 hlt).1,(hfin.1 hlt).2⟩,by show hi - (((2*k+1:Nat):Int)).toNat<hi - ((k:Int)).toNat; omega⟩,fun h=>by cases h⟩
      ·simp only [decF hlt,Bool.not_true,Bool.not_false,cond_false]
       exact ⟨trivial,fun h=>(by cases h),fun _=>⟨h3,hfin.2 hlt⟩⟩
    ·have g4:¬ ((2*k+2:Nat):Int)<(hi:Int):=by omega
     have hfin:=fin (2*k+1) y (.inl rfl) (by omega) hy (fun d u d1 d2 d3=>by
      rcases d1 with rfl | rfl
      ·rw [hy] at d3; injection d3 with d3; subst d3; exact fun hh=>lt_asym _ _ hh hh
      ·omega)
     simp only [w1,w2,w3,w4,w5,w6,w7,decF g1,decF g4,Int.toNat_natCast,hx,hy,Option.getD_some,edge_Compare_eq,cond_true,cond_false,decT (nn _),decT g2,decT g3,Bool.not_false,Bool.and_true,Bool.true_and,Bool.false_and,List.length_set]
     by_cases hlt:lt x y
     ·simp only [decT hlt,Bool.not_true,Bool.not_false,cond_true]
      exact ⟨trivial,fun _=>⟨⟨2*k+1,_,rfl,by omega,by omega,(hfin.1 hlt).1,(hfin.1 hlt).2⟩,by show hi - (((2*k+1:Nat):Int)).toNat<hi - ((k:Int)).toNat; omega⟩,fun h=>by cases h⟩
     ·simp only [decF hlt,Bool.not_true,Bool.not_false,cond_false]
      exact ⟨trivial,fun h=>(by cases h),fun _=>⟨h3,hfin.2 hlt⟩⟩)
 unfold slices_siftDownCmpFunc_api_Edge_r
 simp only [loopD_eq]
 exact ⟨_,Prod.ext key.1 rfl,key.2⟩
end Go.Proofs.Ytfeepbajipdfaaa.T
namespace Go.Proofs.Ytfeepbajipdfaaa.T
open Go.Vm Go.Tm
set_option linter.unusedVariables false
set_option linter.unusedSimpArgs false
theorem heap_l0 (a b:Nat) (L l:List Ed) (hb:b≤l.length) (hab:a≤b) (hbig:l.length≤1152921504606846976) (i0:Nat) (hi0:i0≤b - a) (h0:Heaped lt a (i0+1) (b - a) l):
  (loopR (HL.dflt [.bool,(.fl (.row (.prod (.int .i64) (.prod (.int .i64) (.int .i64)))))]) (slices_heapSortCmpFunc_api_Edge_l0 (a:Int) (b:Int) () L) ((i0:Int),l,())).1=true∧
  (fun r:Bool × List Ed × Unit=>RP a b l r.2.1∧Heaped lt a 0 (b - a) r.2.1) (loopR (HL.dflt [.bool,(.fl (.row (.prod (.int .i64) (.prod (.int .i64) (.int .i64)))))]) (slices_heapSortCmpFunc_api_Edge_l0 (a:Int) (b:Int) () L) ((i0:Int),l,())).2:=by
 refine loopR_by (d:=HL.dflt [.bool,(.fl (.row (.prod (.int .i64) (.prod (.int .i64) (.int .i64)))))]) (step:=slices_heapSortCmpFunc_api_Edge_l0 (a:Int) (b:Int) () L)
  (fun s:Int × List Ed × Unit=>∃ (i:Int) (m:List Ed),s=(i,m,())∧ -1≤i∧i≤((b - a:Nat):Int)∧RP a b l m∧Heaped lt a (i+1).toNat (b - a) m) (fun s=>(s.1+1).toNat) (fun r:Bool × List Ed × Unit=>RP a b l r.2.1∧Heaped lt a 0 (b - a) r.2.1) ((i0:Int),l,())
  ⟨i0,l,rfl,by omega,by omega,RP.refl _ _ _,by rw [show ((i0:Int)+1).toNat=i0+1 by omega]; exact h0⟩ ?_
 rintro _ ⟨i,m,rfl,h1,h2,h3,h4⟩
 have hlen:=h3.len
 have w1:IntKind.i64.wrap ((b:Int) - (a:Int))=((b - a:Nat):Int):=by rw [wrap_i64 (by omega) (by omega)]; omega
 unfold slices_heapSortCmpFunc_api_Edge_l0
 by_cases hi:i≥0
 ·obtain ⟨k,rfl⟩:∃ k:Nat,i=(k:Int):=⟨i.toNat,by omega⟩
  have w2:IntKind.i64.wrap ((k:Int) - 1)=(k:Int) - 1:=wrap_i64 (by omega) (by omega)
  obtain ⟨m',e1,e2,e3⟩:=sift_r a k (b - a) m (by omega) (by omega) (by omega) (by rw [show ((k:Int)+1).toNat=k+1 by omega] at h4; exact h4)
  simp only [decT hi,cond_true,w1,w2,e1]
  refine ⟨trivial,fun _=>⟨⟨(k:Int) - 1,m',rfl,by omega,by omega,h3.trans (e2.mono (Nat.le_refl _) (by omega)),by rw [show ((k:Int) - 1+1).toNat=k by omega]; exact e3⟩,?_⟩,fun h=>by cases h⟩
  show ((k:Int) - 1+1).toNat<((k:Int)+1).toNat
  omega
 ·simp only [decF hi,cond_false]
  exact ⟨trivial,fun h=>(by cases h),fun _=>⟨h3,by rw [show (i+1).toNat=0 by omega] at h4; exact h4⟩⟩
theorem lt_irr (x:Ed):¬ lt x x:=fun h=>lt_asym _ _ h h
structure Out1 (a b n:Nat) (m:List Ed):Prop where
 heap:Heaped lt a 0 n m
 back:InOrder lt (a+n) b m
 cross:∀ p q x y,a≤p→p<a+n→a+n≤q→q<b→m[p]? =some x→m[q]? =some y→¬ lt y x
theorem Out1.step {a b k:Nat} {m m':List Ed} {x0 z:Ed} (h:Out1 a b (k+1) m) (hb:b≤m.length) (hk:a+k<b) (hx:m[a]? =some x0) (hz:m[a+k]? =some z) (hrp:RP a (a+k) ((m.set a z).set (a+k) x0) m') (hhp:Heaped lt a 0 k m'):Out1 a b k m':=by
 have e0:((m.set a z).set (a+k) x0)[a+k]? =some x0:=List.getElem?_set_self (by simp; omega)
 have e1:∀ p,p≠a→p≠a+k→((m.set a z).set (a+k) x0)[p]? =m[p]? :=fun p h1 h2=>by
  rw [List.getElem?_set_ne (by omega),List.getElem?_set_ne (by omega)]
 have hback:∀ q,a+k≤q→m'[q]? =((m.set a z).set (a+k) x0)[q]? :=fun q hq=>hrp.out q (.inr hq)
 have htop:∀ p x,a≤p→p<a+(k+1)→m[p]? =some x→¬ lt x0 x:=fun p x h1 h2 hp=>
  heap_top lt_irr le_trans' h.heap hx (by omega) (p - a) x (by omega) (by rw [show a+(p - a)=p by omega]; exact hp)
 refine ⟨hhp,fun p q x y h1 h2 h3 hp hq=> ?_,fun p q x y h1 h2 h3 h4 hp hq=> ?_⟩
 ·rw [hback p h1] at hp
  rw [hback q (by omega),e1 q (by omega) (by omega)] at hq
  by_cases hpk:p=a+k
  ·subst hpk
   rw [e0] at hp; injection hp with hp; subst hp
   exact h.cross a q x0 y (Nat.le_refl _) (by omega) (by omega) h3 hx hq
  ·rw [e1 p (by omega) hpk] at hp
   exact h.back p q x y (by omega) h2 h3 hp hq
 ·rw [hback q h3] at hq
  refine hrp.all (P:=fun x=>¬ lt y x) (fun p x h1 h2 hp=> ?_) p x h1 h2 hp
  have hm:∃ p',a≤p'∧p'<a+(k+1)∧m[p']? =some x:=by
   by_cases hpa:p=a
   ·subst hpa
    rw [List.getElem?_set_ne (by omega),List.getElem?_set_self (by omega)] at hp
    injection hp with hp; subst hp
    exact ⟨p+k,by omega,by omega,hz⟩
   ·rw [e1 p hpa (by omega)] at hp
    exact ⟨p,h1,by omega,hp⟩
  obtain ⟨p',g1,g2,g3⟩:=hm
  by_cases hqk:q=a+k
  ·subst hqk
   rw [e0] at hq; injection hq with hq; subst hq
   exact htop p' x g1 g2 g3
  ·rw [e1 q (by omega) hqk] at hq
   exact h.cross p' q x y g1 g2 (by omega) h4 g3 hq
theorem heap_l1 (a b:Nat) (L l:List Ed) (hb:b≤l.length) (hab:a≤b) (hbig:l.length≤1152921504606846976) (h0:Heaped lt a 0 (b - a) l):
  (loopR (HL.dflt [.bool,(.fl (.row (.prod (.int .i64) (.prod (.int .i64) (.int .i64)))))]) (slices_heapSortCmpFunc_api_Edge_l1 (a:Int) (b:Int) () L) (((b - a:Nat):Int) - 1,l,())).1=true∧
  (fun r:Bool × List Ed × Unit=>RP a b l r.2.1∧InOrder lt a b r.2.1) (loopR (HL.dflt [.bool,(.fl (.row (.prod (.int .i64) (.prod (.int .i64) (.int .i64)))))]) (slices_heapSortCmpFunc_api_Edge_l1 (a:Int) (b:Int) () L) (((b - a:Nat):Int) - 1,l,())).2:=by
 refine loopR_by (d:=HL.dflt [.bool,(.fl (.row (.prod (.int .i64) (.prod (.int .i64) (.int .i64)))))]) (step:=slices_heapSortCmpFunc_api_Edge_l1 (a:Int) (b:Int) () L)
  (fun s:Int × List Ed × Unit=>∃ (n:Nat) (m:List Ed),s=((n:Int) - 1,m,())∧n≤b - a∧RP a b l m∧Out1 a b n m) (fun s=>(s.1+1).toNat) (fun r:Bool × List Ed × Unit=>RP a b l r.2.1∧InOrder lt a b r.2.1) (((b - a:Nat):Int) - 1,l,())
  ⟨b - a,l,rfl,Nat.le_refl _,RP.refl _ _ _,⟨h0,fun p q x y h1 h2 h3=>by omega,fun p q x y h1 h2 h3 h4=>by omega⟩⟩ ?_
 rintro _ ⟨n,m,rfl,h2,h3,h4⟩
 have hlen:=h3.len
 unfold slices_heapSortCmpFunc_api_Edge_l1
 cases n with
 | zero=>
  have g:¬ ((0:Nat):Int) - 1≥0:=by omega
  simp only [decF g,cond_false]
  exact ⟨trivial,fun h=>(by cases h),fun _=>⟨h3,h4.back⟩⟩
 | succ k=>
  have hk:((k+1:Nat):Int) - 1=(k:Int):=by omega
  have g:(k:Int)≥0:=by omega
  have w1:IntKind.i64.wrap ((a:Int)+(k:Int))=((a+k:Nat):Int):=by rw [wrap_i64 (by omega) (by omega)]; omega
  have w2:IntKind.i64.wrap ((k:Int) - 1)=(k:Int) - 1:=wrap_i64 (by omega) (by omega)
  have hx:m[a]? =some (m[a]'(by omega)):=List.getElem?_eq_getElem (by omega)
  have hz:m[a+k]? =some (m[a+k]'(by omega)):=List.getElem?_eq_getElem (by omega)
  generalize m[a]'(by omega)=x0 at hx
  generalize m[a+k]'(by omega)=z at hz
  have hsw:RP a b m ((m.set a z).set (a+k) x0):=by
   have:=RP.swap (d:=z) (l:=m) (a:=a) (b:=b) (i:=a) (j:=a+k) (by omega) (by omega) (by omega) (by omega) (by omega)
   rw [hx,hz] at this
   exact this
  obtain ⟨m',e1,e2,e3⟩:=sift_r a 0 k ((m.set a z).set (a+k) x0) (by simp; omega) (by omega) (by simp; omega) (fun r c x y k1 k2 k3 hr hc=>by
   rw [List.getElem?_set_ne (by omega),List.getElem?_set_ne (by omega)] at hr hc
   exact h4.heap r c x y (by omega) k2 (by omega) hr hc)
  have e1':slices_siftDownCmpFunc_api_Edge_r (0:Int) (k:Int) (a:Int) () ((m.set a z).set (a+k) x0)=(true,m'):=e1
  simp only [hk,decT g,cond_true,w1,w2,Int.toNat_natCast,hx,hz,Option.getD_some,e1',decT (show (0:Int)≤((a+k:Nat):Int) by omega),decT (show (0:Int)≤(a:Int) by omega),List.length_set,decT (show a+k<m.length by omega),decT (show a<m.length by omega),Bool.and_true]
  refine ⟨trivial,fun _=>⟨⟨k,m',rfl,by omega,(h3.trans hsw).trans (e2.mono (Nat.le_refl _) (by omega)),h4.step (by omega) (by omega) hx hz e2 e3⟩,?_⟩,fun h=>by cases h⟩
  show ((k:Int) - 1+1).toNat<((k:Int)+1).toNat
  omega
theorem heap_r (a b:Nat) (l:List Ed) (hb:b≤l.length) (hab:a≤b) (hbig:l.length≤1152921504606846976):
  ∃ m,slices_heapSortCmpFunc_api_Edge_r (a:Int) (b:Int) () l=(true,m)∧RP a b l m∧InOrder lt a b m:=by
 have w1:IntKind.i64.wrap ((b:Int) - (a:Int))=((b - a:Nat):Int):=by rw [wrap_i64 (by omega) (by omega)]; omega
 have w2:IntKind.i64.wrap (((b - a:Nat):Int) - 1)=((b - a:Nat):Int) - 1:=wrap_i64 (by omega) (by omega)
 have hd:Int.tdiv (((b - a:Nat):Int) - 1) 2=(((b - a - 1) / 2:Nat):Int):=by
  by_cases h0:b - a=0
  ·rw [h0]; rfl
  ·rw [show ((b - a:Nat):Int) - 1=((b - a - 1:Nat):Int) by omega]; rfl
 have w3:IntKind.i64.wrap ((((b - a - 1) / 2:Nat):Int))=(((b - a - 1) / 2:Nat):Int):=wrap_i64 (by omega) (by omega)
 obtain ⟨k1,k2,k3⟩:=heap_l0 a b l l hb hab hbig ((b - a - 1) / 2) (by omega) (fun r c x y h1 h2 h3=>by omega)
 have hlen:=k2.len
 obtain ⟨m1,m2,m3⟩:=heap_l1 a b l _ (by omega) hab (by omega) k3
 unfold slices_heapSortCmpFunc_api_Edge_r
 simp only [w1,w2,hd,w3,loopD_eq]
 exact ⟨_,Prod.ext (by show ((((2:Int) !=(0:Int)) && _) && _)=true; rw [k1,m1]; rfl) rfl,k2.trans m2,m3⟩
end Go.Proofs.Ytfeepbajipdfaaa.T
namespace Go.Proofs.Ytfeepbajipdfaaa.T
open Go.Vm Go.Tm
set_option linter.unusedVariables false
set_option linter.unusedSimpArgs false
theorem part_l3 (a:Nat) (b' pv:Int) (L m:List Ed) (i0 J:Nat) (p:Ed) (hp:m[a]? =some p) (hi:i0≤J) (hJ:J≤m.length) (hbig:m.length≤1152921504606846976):
  ∃ i,i0≤i∧i≤J∧(∀ k,i0≤k→k<i→∃ x,m[k]? =some x∧lt x p)∧(i=J∨¬ ∃ x,m[i]? =some x∧lt x p)∧
   loopR (HL.dflt [.bool,.int .i64]) (slices_partitionCmpFunc_api_Edge_l3 (a:Int) b' pv () L ((i0:Int),(J:Int) - 1,m,())) ((i0:Int),())=(true,(true,(i:Int),())):=by
 have ha:a<m.length:=(List.getElem?_eq_some_iff.1 hp).1
 refine scan_up J (fun k=>∃ x,m[k]? =some x∧lt x p) (fun i=>(true,(i:Int),())) i0 hi (fun i h1 h2 h3=> ?_) (fun i h1 h2 h3=> ?_)
 ·obtain ⟨x,hx,hlt⟩:=h3
  have g1:(i:Int)≤(J:Int) - 1:=by omega
  have hw:IntKind.i64.wrap ((i:Int)+1)=((i+1:Nat):Int):=by rw [wrap_i64 (by omega) (by omega)]; omega
  unfold slices_partitionCmpFunc_api_Edge_l3 RGo
  simp only [decT g1,hw,Int.toNat_natCast,hx,hp,Option.getD_some,edge_Compare_eq,decT hlt,decT ha,decT (show i<m.length by omega),decT (show (0:Int)≤(i:Int) by omega),decT (show (0:Int)≤(a:Int) by omega),cond_true,Bool.and_true,Bool.not_true,and_self]
 ·unfold slices_partitionCmpFunc_api_Edge_l3 REnd
  rcases Nat.lt_or_ge i J with hlt | hge
  ·have g1:(i:Int)≤(J:Int) - 1:=by omega
   have hx:m[i]? =some (m[i]'(by omega)):=List.getElem?_eq_getElem (by omega)
   generalize m[i]'(by omega)=x at hx
   have hn:¬ lt x p:=fun hh=>by
    rcases h3 with h3 | h3
    ·omega
    ·exact h3 ⟨x,hx,hh⟩
   simp only [decT g1,Int.toNat_natCast,hx,hp,Option.getD_some,edge_Compare_eq,decF hn,decT ha,decT (show i<m.length by omega),decT (show (0:Int)≤(i:Int) by omega),decT (show (0:Int)≤(a:Int) by omega),cond_true,Bool.and_true,Bool.not_false,and_self]
  ·have g1:¬ (i:Int)≤(J:Int) - 1:=by omega
   simp only [decF g1,cond_false,Bool.and_true,Bool.not_false,and_self]
theorem part_l4 (a:Nat) (b' pv:Int) (L m:List Ed) (i0 i J:Nat) (p:Ed) (hp:m[a]? =some p) (hi:i≤J) (hJ:J≤m.length) (hbig:m.length≤1152921504606846976)
  (h3:loopR (HL.dflt [.bool,.int .i64]) (slices_partitionCmpFunc_api_Edge_l3 (a:Int) b' pv () L ((i0:Int),(J:Int) - 1,m,())) ((i0:Int),())=(true,(true,(i:Int),()))):
  ∃ j,i≤j∧j≤J∧(∀ k,j≤k→k<J→¬ ∃ x,m[k]? =some x∧lt x p)∧(j=i∨∃ k,j=k+1∧i≤k∧¬ ¬ ∃ x,m[k]? =some x∧lt x p)∧
   loopR (HL.dflt [.bool,.int .i64]) (slices_partitionCmpFunc_api_Edge_l4 (a:Int) b' pv () L ((i0:Int),(J:Int) - 1,m,())) ((J:Int) - 1,())=(true,(true,(j:Int) - 1,())):=by
 have ha:a<m.length:=(List.getElem?_eq_some_iff.1 hp).1
 refine scan_down i (fun k=>¬ ∃ x,m[k]? =some x∧lt x p) (fun j=>(true,(j:Int) - 1,())) J hi (fun j h1 h2 h4=> ?_) (fun j h1 h2 h4=> ?_)
 ·have hx:m[j]? =some (m[j]'(by omega)):=List.getElem?_eq_getElem (by omega)
  generalize m[j]'(by omega)=x at hx
  have hn:¬ lt x p:=fun hh=>h4 ⟨x,hx,hh⟩
  have g1:(i:Int)≤((j+1:Nat):Int) - 1:=by omega
  have hw:IntKind.i64.wrap (((j+1:Nat):Int) - 1 - 1)=(j:Int) - 1:=by rw [wrap_i64 (by omega) (by omega)]; omega
  have hj:(((j+1:Nat):Int) - 1).toNat=j:=by omega
  unfold slices_partitionCmpFunc_api_Edge_l4 RGo
  simp only [loopD_eq,h3,decT g1,hw,hj,hx,hp,Int.toNat_natCast,Option.getD_some,edge_Compare_eq,decF hn,decT ha,decT (show j<m.length by omega),decT (show (0:Int)≤((j+1:Nat):Int) - 1 by omega),decT (show (0:Int)≤(a:Int) by omega),cond_true,Bool.and_true,Bool.not_false,Bool.not_true,and_self]
 ·unfold slices_partitionCmpFunc_api_Edge_l4 REnd
  rcases h4 with h4 | ⟨k,rfl,h5,h6⟩
  ·have g1:¬ (i:Int)≤(j:Int) - 1:=by omega
   simp only [loopD_eq,h3,decF g1,cond_false,Bool.and_true,Bool.not_false,and_self]
  ·obtain ⟨x,hx,hlt⟩:=Classical.not_not.1 h6
   have g1:(i:Int)≤((k+1:Nat):Int) - 1:=by omega
   have hj:(((k+1:Nat):Int) - 1).toNat=k:=by omega
   simp only [loopD_eq,h3,decT g1,hj,hx,hp,Int.toNat_natCast,Option.getD_some,edge_Compare_eq,decT hlt,decT ha,decT (show k<m.length by omega),decT (show (0:Int)≤((k+1:Nat):Int) - 1 by omega),decT (show (0:Int)≤(a:Int) by omega),cond_true,Bool.and_true,Bool.not_false,Bool.not_true,and_self]
theorem part_l2 (a b:Nat) (b' pv:Int) (L l:List Ed) (i0 J:Nat) (p:Ed) (hi0:a<i0) (hi:i0≤J) (hJ:J≤b) (hb:b≤l.length) (hbig:l.length≤1152921504606846976) (hp:l[a]? =some p) (hpa:PartAt (fun x=>lt x p) (a+1) i0 J b l):
  ∃ (k:Nat) (m:List Ed),loopR (HL.dflt [.bool,.int .i64,(.fl (.row (.prod (.int .i64) (.prod (.int .i64) (.int .i64)))))]) (slices_partitionCmpFunc_api_Edge_l2 (a:Int) b' pv () L) ((i0:Int),(J:Int) - 1,l,())=(true,(true,(k:Int),m,()))∧
   a≤k∧k<b∧RP (a+1) b l m∧PartAt (fun x=>lt x p) (a+1) (k+1) (k+1) b m:=by
 have key:=loopR_by (d:=HL.dflt [.bool,.int .i64,(.fl (.row (.prod (.int .i64) (.prod (.int .i64) (.int .i64)))))]) (step:=slices_partitionCmpFunc_api_Edge_l2 (a:Int) b' pv () L)
  (fun s:Int × Int × List Ed × Unit=>∃ (i j:Nat) (m:List Ed),s=((i:Int),(j:Int) - 1,m,())∧a<i∧i≤j∧j≤b∧RP (a+1) b l m∧PartAt (fun x=>lt x p) (a+1) i j b m) (fun s=>(s.2.1+1 - s.1).toNat)
  (fun r:Bool × Int × List Ed × Unit=>∃ (k:Nat) (m:List Ed),r=(true,(k:Int),m,())∧a≤k∧k<b∧RP (a+1) b l m∧PartAt (fun x=>lt x p) (a+1) (k+1) (k+1) b m)
  ((i0:Int),(J:Int) - 1,l,()) ⟨i0,J,l,rfl,hi0,hi,hJ,RP.refl _ _ _,hpa⟩ (by
   rintro _ ⟨i,j,m,rfl,h1,h2,h3,h4,h5⟩
   have hlen:=h4.len
   have hpm:m[a]? =some p:=by rw [h4.out a (.inl (by omega))]; exact hp
   obtain ⟨i',e1,e2,e3,e4,e5⟩:=part_l3 a b' pv L m i j p hpm h2 (by omega) (by omega)
   obtain ⟨j',f1,f2,f3,f4,f5⟩:=part_l4 a b' pv L m i i' j p hpm e2 (by omega) (by omega) e5
   have hsc:PartAt (fun x=>lt x p) (a+1) i' j' b m:=h5.scan e3 (fun k k1 k2=>by
    have hx:m[k]? =some (m[k]'(by omega)):=List.getElem?_eq_getElem (by omega)
    exact ⟨_,hx,fun hh=>f3 k k1 k2 ⟨_,hx,hh⟩⟩)
   unfold slices_partitionCmpFunc_api_Edge_l2
   simp only [loopD_eq,e5,f5]
   rcases f4 with f4 | ⟨k,rfl,f6,f7⟩
   ·subst f4
    have g1:(j':Int)>(j':Int) - 1:=by omega
    simp only [decT g1,Bool.not_true,cond_false,Bool.and_true]
    refine ⟨trivial,fun h=>(by cases h),fun _=>⟨j' - 1,m,?_,by omega,by omega,h4,?_⟩⟩
    ·rw [show ((j' - 1:Nat):Int)=(j':Int) - 1 by omega]
    ·rw [show j' - 1+1=j' by omega]; exact hsc
   ·obtain ⟨y,hy,hlt⟩:=Classical.not_not.1 f7
    have hik:i'<k:=by
     rcases Nat.lt_or_ge i' k with hh | hh
     ·exact hh
     ·have:i'=k:=by omega
      subst this
      rcases e4 with e4 | e4
      ·omega
      ·exact absurd ⟨y,hy,hlt⟩ e4
    have hx:m[i']? =some (m[i']'(by omega)):=List.getElem?_eq_getElem (by omega)
    generalize m[i']'(by omega)=x at hx
    have hn:¬ lt x p:=fun hh=>by
     rcases e4 with e4 | e4
     ·omega
     ·exact e4 ⟨x,hx,hh⟩
    have g1:¬ (i':Int)>((k+1:Nat):Int) - 1:=by omega
    have hw1:IntKind.i64.wrap ((i':Int)+1)=((i'+1:Nat):Int):=by rw [wrap_i64 (by omega) (by omega)]; omega
    have hw2:IntKind.i64.wrap (((k+1:Nat):Int) - 1 - 1)=(k:Int) - 1:=by rw [wrap_i64 (by omega) (by omega)]; omega
    have hk:(((k+1:Nat):Int) - 1).toNat=k:=by omega
    simp only [decF g1,hw1,hw2,hk,hx,hy,Int.toNat_natCast,Option.getD_some,Bool.not_false,cond_true,List.length_set,decT (show k<m.length by omega),decT (show i'<m.length by omega),decT (show (0:Int)≤(i':Int) by omega),decT (show (0:Int)≤((k+1:Nat):Int) - 1 by omega),Bool.and_true]
    exact ⟨trivial,fun _=>⟨⟨i'+1,k,_,rfl,by omega,by omega,by omega,h4.trans (RP.swap' hx hy (by omega) (by omega) (by omega) (by omega)),hsc.swap hik (by omega) hx hy hn hlt⟩,by
     show ((k:Int) - 1+1 - ((i'+1:Nat):Int)).toNat<((j:Int) - 1+1 - (i:Int)).toNat
     omega⟩,fun h=>by cases h⟩)
 obtain ⟨h1,k,m,h2,h3,h4,h5,h6⟩:=key
 exact ⟨k,m,Prod.ext h1 h2,h3,h4,h5,h6⟩
end Go.Proofs.Ytfeepbajipdfaaa.T
namespace Go.Proofs.Ytfeepbajipdfaaa.T
open Go.Vm Go.Tm
set_option linter.unusedVariables false
set_option linter.unusedSimpArgs false
theorem part_l0 (a b pv:Nat) (L:List Ed) (p q:Ed) (hp:L[pv]? =some p) (hq:L[a]? =some q) (hab:a<b) (hb:b≤L.length) (hbig:L.length≤1152921504606846976) (m:List Ed) (hm:m=(L.set a p).set pv q) (hpm:m[a]? =some p):
  ∃ i,a+1≤i∧i≤b∧(∀ k,a+1≤k→k<i→∃ x,m[k]? =some x∧lt x p)∧(i=b∨¬ ∃ x,m[i]? =some x∧lt x p)∧
   loopR (HL.dflt [.bool,.int .i64]) (slices_partitionCmpFunc_api_Edge_l0 (a:Int) (b:Int) (pv:Int) () L) (((a+1:Nat):Int),())=(true,(true,(i:Int),())):=by
 have hlen:m.length=L.length:=by rw [hm]; simp
 have hwb:IntKind.i64.wrap ((b:Int) - 1)=(b:Int) - 1:=wrap_i64 (by omega) (by omega)
 refine scan_up b (fun k=>∃ x,m[k]? =some x∧lt x p) (fun i=>(true,(i:Int),())) (a+1) (by omega) (fun i h1 h2 h3=> ?_) (fun i h1 h2 h3=> ?_)
 ·obtain ⟨x,hx,hlt⟩:=h3
  have g1:(i:Int)≤(b:Int) - 1:=by omega
  have hw:IntKind.i64.wrap ((i:Int)+1)=((i+1:Nat):Int):=by rw [wrap_i64 (by omega) (by omega)]; omega
  unfold slices_partitionCmpFunc_api_Edge_l0 RGo
  simp only [hwb,Int.toNat_natCast,hp,hq,Option.getD_some,← hm,decT g1,hw,hx,hpm,edge_Compare_eq,decT hlt,decT (show a<m.length by omega),decT (show i<m.length by omega),decT (show (0:Int)≤(i:Int) by omega),decT (show (0:Int)≤(a:Int) by omega),cond_true,Bool.and_true,Bool.not_true,and_self]
 ·unfold slices_partitionCmpFunc_api_Edge_l0 REnd
  rcases Nat.lt_or_ge i b with hlt | hge
  ·have g1:(i:Int)≤(b:Int) - 1:=by omega
   have hx:m[i]? =some (m[i]'(by omega)):=List.getElem?_eq_getElem (by omega)
   generalize m[i]'(by omega)=x at hx
   have hn:¬ lt x p:=fun hh=>by
    rcases h3 with h3 | h3
    ·omega
    ·exact h3 ⟨x,hx,hh⟩
   simp only [hwb,Int.toNat_natCast,hp,hq,Option.getD_some,← hm,decT g1,hx,hpm,edge_Compare_eq,decF hn,decT (show a<m.length by omega),decT (show i<m.length by omega),decT (show (0:Int)≤(i:Int) by omega),decT (show (0:Int)≤(a:Int) by omega),cond_true,Bool.and_true,Bool.not_false,and_self]
  ·have g1:¬ (i:Int)≤(b:Int) - 1:=by omega
   simp only [hwb,decF g1,cond_false,Bool.and_true,Bool.not_false,and_self]
theorem part_l1 (a b pv:Nat) (L:List Ed) (p q:Ed) (hp:L[pv]? =some p) (hq:L[a]? =some q) (hab:a<b) (hb:b≤L.length) (hbig:L.length≤1152921504606846976) (m:List Ed) (hm:m=(L.set a p).set pv q) (hpm:m[a]? =some p) (i:Nat) (hi:i≤b)
  (h3:loopR (HL.dflt [.bool,.int .i64]) (slices_partitionCmpFunc_api_Edge_l0 (a:Int) (b:Int) (pv:Int) () L) (((a+1:Nat):Int),())=(true,(true,(i:Int),()))):
  ∃ j,i≤j∧j≤b∧(∀ k,j≤k→k<b→¬ ∃ x,m[k]? =some x∧lt x p)∧(j=i∨∃ k,j=k+1∧i≤k∧¬ ¬ ∃ x,m[k]? =some x∧lt x p)∧
   loopR (HL.dflt [.bool,.int .i64]) (slices_partitionCmpFunc_api_Edge_l1 (a:Int) (b:Int) (pv:Int) () L) ((b:Int) - 1,())=(true,(true,(j:Int) - 1,())):=by
 have hlen:m.length=L.length:=by rw [hm]; simp
 have hwa:IntKind.i64.wrap ((a:Int)+1)=((a+1:Nat):Int):=by rw [wrap_i64 (by omega) (by omega)]; omega
 refine scan_down i (fun k=>¬ ∃ x,m[k]? =some x∧lt x p) (fun j=>(true,(j:Int) - 1,())) b hi (fun j h1 h2 h4=> ?_) (fun j h1 h2 h4=> ?_)
 ·have hx:m[j]? =some (m[j]'(by omega)):=List.getElem?_eq_getElem (by omega)
  generalize m[j]'(by omega)=x at hx
  have hn:¬ lt x p:=fun hh=>h4 ⟨x,hx,hh⟩
  have g1:(i:Int)≤((j+1:Nat):Int) - 1:=by omega
  have hw:IntKind.i64.wrap (((j+1:Nat):Int) - 1 - 1)=(j:Int) - 1:=by rw [wrap_i64 (by omega) (by omega)]; omega
  have hj:(((j+1:Nat):Int) - 1).toNat=j:=by omega
  unfold slices_partitionCmpFunc_api_Edge_l1 RGo
  simp only [loopD_eq,hwa,h3,decT g1,hw,hj,Int.toNat_natCast,hp,hq,Option.getD_some,← hm,hx,hpm,edge_Compare_eq,decF hn,decT (show a<m.length by omega),decT (show j<m.length by omega),decT (show (0:Int)≤((j+1:Nat):Int) - 1 by omega),decT (show (0:Int)≤(a:Int) by omega),cond_true,Bool.and_true,Bool.not_false,Bool.not_true,and_self]
 ·unfold slices_partitionCmpFunc_api_Edge_l1 REnd
  rcases h4 with h4 | ⟨k,rfl,h5,h6⟩
  ·have g1:¬ (i:Int)≤(j:Int) - 1:=by omega
   simp only [loopD_eq,hwa,h3,decF g1,cond_false,Bool.and_true,Bool.not_false,and_self]
  ·obtain ⟨x,hx,hlt⟩:=Classical.not_not.1 h6
   have g1:(i:Int)≤((k+1:Nat):Int) - 1:=by omega
   have hj:(((k+1:Nat):Int) - 1).toNat=k:=by omega
   simp only [loopD_eq,hwa,h3,decT g1,hj,Int.toNat_natCast,hp,hq,Option.getD_some,← hm,hx,hpm,edge_Compare_eq,decT hlt,decT (show a<m.length by omega),decT (show k<m.length by omega),decT (show (0:Int)≤((k+1:Nat):Int) - 1 by omega),decT (show (0:Int)≤(a:Int) by omega),cond_true,Bool.and_true,Bool.not_false,Bool.not_true,and_self]
structure Split (a k b:Nat) (m:List Ed) (p:Ed):Prop where
 at':m[k]? =some p
 left:∀ i x,a≤i→i<k→m[i]? =some x→lt x p
 right:∀ i x,k<i→i<b→m[i]? =some x→¬ lt x p
theorem Split.of {a k b:Nat} {m:List Ed} {p y:Ed} (hak:a≤k) (hkb:k<b) (hb:b≤m.length) (hp:m[a]? =some p) (hy:m[k]? =some y) (h:PartAt (fun x=>lt x p) (a+1) (k+1) (k+1) b m):Split a k b ((m.set k p).set a y) p:=by
 have hs:=swap_at hy hp
 refine ⟨?_,fun i x h1 h2 h3=> ?_,fun i x h1 h2 h3=> ?_⟩
 ·rw [hs]
  by_cases hka:k=a
  ·rw [if_pos hka,← hy,hka,hp]
  ·rw [if_neg hka,if_pos rfl]
 ·rw [hs] at h3
  by_cases hia:i=a
  ·rw [if_pos hia] at h3
   injection h3 with h3; subst h3
   exact h.left k y (by omega) (by omega) hy
  ·rw [if_neg hia,if_neg (by omega)] at h3
   exact h.left i x (by omega) (by omega) h3
 ·rw [hs,if_neg (by omega),if_neg (by omega)] at h3
  exact h.right i x (by omega) h2 h3
theorem part_r (a b pv:Nat) (l:List Ed) (h1:a≤pv) (h2:pv<b) (hb:b≤l.length) (hbig:l.length≤1152921504606846976):
  ∃ (k:Nat) (c:Bool) (m:List Ed) (p:Ed),slices_partitionCmpFunc_api_Edge_r (a:Int) (b:Int) (pv:Int) () l=(true,((k:Int),c,m))∧a≤k∧k<b∧RP a b l m∧Split a k b m p:=by
 have hp:l[pv]? =some (l[pv]'(by omega)):=List.getElem?_eq_getElem (by omega)
 have hq:l[a]? =some (l[a]'(by omega)):=List.getElem?_eq_getElem (by omega)
 generalize l[pv]'(by omega)=p at hp
 generalize l[a]'(by omega)=q at hq
 generalize hm:(l.set a p).set pv q=m
 have hlen:m.length=l.length:=by rw [← hm]; simp
 have hpm:m[a]? =some p:=by
  rw [← hm,swap_at hq hp]
  by_cases hh:a=pv
  ·rw [if_pos hh]; rw [← hh,hq] at hp; exact hp
  ·rw [if_neg hh,if_pos rfl]
 have hrp:RP a b l m:=by rw [← hm]; exact RP.swap' hq hp (by omega) (by omega) h1 h2
 have hwa:IntKind.i64.wrap ((a:Int)+1)=((a+1:Nat):Int):=by rw [wrap_i64 (by omega) (by omega)]; omega
 have hwb:IntKind.i64.wrap ((b:Int) - 1)=(b:Int) - 1:=wrap_i64 (by omega) (by omega)
 obtain ⟨i',e1,e2,e3,e4,e5⟩:=part_l0 a b pv l p q hp hq (by omega) hb hbig m hm.symm hpm
 obtain ⟨j',f1,f2,f3,f4,f5⟩:=part_l1 a b pv l p q hp hq (by omega) hb hbig m hm.symm hpm i' e2 e5
 have hsc:PartAt (fun x=>lt x p) (a+1) i' j' b m:=PartAt.scan (i:=a+1) (j:=b) ⟨fun p x h1 h2=>by omega,fun p x h1 h2=>by omega⟩ e3 (fun k k1 k2=>by
  have hx:m[k]? =some (m[k]'(by omega)):=List.getElem?_eq_getElem (by omega)
  exact ⟨_,hx,fun hh=>f3 k k1 k2 ⟨_,hx,hh⟩⟩)
 unfold slices_partitionCmpFunc_api_Edge_r
 simp only [loopD_eq,hwa,hwb,Int.toNat_natCast,hp,hq,Option.getD_some,hm,e5,f5,hpm]
 have hset:∀ k:Nat,a≤k→k<b→∀ n:List Ed,n.length=l.length→decide (k<n.length)=true:=fun k _ hk n hn=>decT (by omega)
 rcases f4 with f4 | ⟨k,rfl,f6,f7⟩
 ·subst f4
  obtain ⟨k,rfl⟩:∃ k,j'=k+1:=⟨j' - 1,by omega⟩
  have g1:((k+1:Nat):Int)>((k+1:Nat):Int) - 1:=by omega
  have hk:(((k+1:Nat):Int) - 1).toNat=k:=by omega
  have hy:m[k]? =some (m[k]'(by omega)):=List.getElem?_eq_getElem (by omega)
  generalize m[k]'(by omega)=y at hy
  simp only [decT g1,hk,hy,Option.getD_some,Bool.not_true,cond_true,cond_false,List.length_set,decT (show pv<l.length by omega),decT (show a<l.length by omega),decT (show a<m.length by omega),decT (show k<m.length by omega),decT (show (0:Int)≤(pv:Int) by omega),decT (show (0:Int)≤(a:Int) by omega),decT (show (0:Int)≤((k+1:Nat):Int) - 1 by omega),Bool.and_true]
  refine ⟨k,true,(m.set k p).set a y,p,?_,by omega,by omega,hrp.trans (RP.swap' hy hpm (by omega) (by omega) (by omega) (by omega)),Split.of (by omega) (by omega) (by omega) hpm hy hsc⟩
  rw [show ((k+1:Nat):Int) - 1=(k:Int) by omega]
 ·obtain ⟨y,hy,hlt⟩:=Classical.not_not.1 f7
  have hik:i'<k:=by
   rcases Nat.lt_or_ge i' k with hh | hh
   ·exact hh
   ·have:i'=k:=by omega
    subst this
    rcases e4 with e4 | e4
    ·omega
    ·exact absurd ⟨y,hy,hlt⟩ e4
  have hx:m[i']? =some (m[i']'(by omega)):=List.getElem?_eq_getElem (by omega)
  generalize m[i']'(by omega)=x at hx
  have hn:¬ lt x p:=fun hh=>by
   rcases e4 with e4 | e4
   ·omega
   ·exact e4 ⟨x,hx,hh⟩
  have g1:¬ (i':Int)>((k+1:Nat):Int) - 1:=by omega
  have hw1:IntKind.i64.wrap ((i':Int)+1)=((i'+1:Nat):Int):=by rw [wrap_i64 (by omega) (by omega)]; omega
  have hw2:IntKind.i64.wrap (((k+1:Nat):Int) - 1 - 1)=(k:Int) - 1:=by rw [wrap_i64 (by omega) (by omega)]; omega
  have hk:(((k+1:Nat):Int) - 1).toNat=k:=by omega
  have hsw:RP (a+1) b m ((m.set i' y).set k x):=RP.swap' hx hy (by omega) (by omega) (by omega) (by omega)
  have hps:=hsc.swap hik (by omega) hx hy hn hlt
  generalize hm2:(m.set i' y).set k x=m2 at hsw hps
  have hlen2:m2.length=l.length:=by rw [← hm2]; simp [hlen]
  have hp2:m2[a]? =some p:=by rw [hsw.out a (.inl (by omega))]; exact hpm
  obtain ⟨k2,m3,r1,r2,r3,r4,r5⟩:=part_l2 a b (b:Int) (pv:Int) l m2 (i'+1) k p (by omega) (by omega) (by omega) (by omega) (by omega) hp2 hps
  have hlen3:=r4.len
  have hp3:m3[a]? =some p:=by rw [r4.out a (.inl (by omega))]; exact hp2
  have hz:m3[k2]? =some (m3[k2]'(by omega)):=List.getElem?_eq_getElem (by omega)
  generalize m3[k2]'(by omega)=z at hz
  simp only [decF g1,hw1,hw2,hk,hx,hy,Option.getD_some,hm2,r1,hp3,hz,Int.toNat_natCast,Bool.not_false,cond_true,cond_false,List.length_set,decT (show pv<l.length by omega),decT (show a<l.length by omega),decT (show a<m.length by omega),decT (show a<m3.length by omega),decT (show k2<m3.length by omega),decT (show k<m.length by omega),decT (show i'<m.length by omega),decT (show (0:Int)≤(pv:Int) by omega),decT (show (0:Int)≤(k2:Int) by omega),decT (show (0:Int)≤(i':Int) by omega),decT (show (0:Int)≤(a:Int) by omega),decT (show (0:Int)≤((k+1:Nat):Int) - 1 by omega),Bool.and_true]
  exact ⟨k2,false,(m3.set k2 p).set a z,p,rfl,r2,r3,hrp.trans ((hsw.trans r4).mono (by omega) (Nat.le_refl _) |>.trans (RP.swap' hz hp3 (by omega) (by omega) (by omega) (by omega))),Split.of (by omega) (by omega) (by omega) hp3 hz r5⟩
end Go.Proofs.Ytfeepbajipdfaaa.T
namespace Go.Proofs.Ytfeepbajipdfaaa.T
open Go.Vm Go.Tm
set_option linter.unusedVariables false
set_option linter.unusedSimpArgs false
theorem peq_l1 (a:Nat) (b' pv:Int) (L m:List Ed) (i0 J:Nat) (p:Ed) (hp:m[a]? =some p) (hi:i0≤J) (hJ:J≤m.length) (hbig:m.length≤1152921504606846976):
  ∃ i,i0≤i∧i≤J∧(∀ k,i0≤k→k<i→∃ x,m[k]? =some x∧¬ lt p x)∧(i=J∨¬ ∃ x,m[i]? =some x∧¬ lt p x)∧
   loopR (HL.dflt [.bool,.int .i64]) (slices_partitionEqualCmpFunc_api_Edge_l1 (a:Int) b' pv () L ((i0:Int),(J:Int) - 1,m,())) ((i0:Int),())=(true,(true,(i:Int),())):=by
 have ha:a<m.length:=(List.getElem?_eq_some_iff.1 hp).1
 refine scan_up J (fun k=>∃ x,m[k]? =some x∧¬ lt p x) (fun i=>(true,(i:Int),())) i0 hi (fun i h1 h2 h3=> ?_) (fun i h1 h2 h3=> ?_)
 ·obtain ⟨x,hx,hlt⟩:=h3
  have g1:(i:Int)≤(J:Int) - 1:=by omega
  have hw:IntKind.i64.wrap ((i:Int)+1)=((i+1:Nat):Int):=by rw [wrap_i64 (by omega) (by omega)]; omega
  unfold slices_partitionEqualCmpFunc_api_Edge_l1 RGo
  simp only [decT g1,hw,Int.toNat_natCast,hx,hp,Option.getD_some,edge_Compare_eq,decF hlt,decT ha,decT (show i<m.length by omega),decT (show (0:Int)≤(i:Int) by omega),decT (show (0:Int)≤(a:Int) by omega),cond_true,Bool.and_true,Bool.not_true,Bool.not_false,and_self]
 ·unfold slices_partitionEqualCmpFunc_api_Edge_l1 REnd
  rcases Nat.lt_or_ge i J with hlt | hge
  ·have g1:(i:Int)≤(J:Int) - 1:=by omega
   have hx:m[i]? =some (m[i]'(by omega)):=List.getElem?_eq_getElem (by omega)
   generalize m[i]'(by omega)=x at hx
   have hn:lt p x:=by
    rcases h3 with h3 | h3
    ·omega
    ·exact Classical.not_not.1 fun hh=>h3 ⟨x,hx,hh⟩
   simp only [decT g1,Int.toNat_natCast,hx,hp,Option.getD_some,edge_Compare_eq,decT hn,decT ha,decT (show i<m.length by omega),decT (show (0:Int)≤(i:Int) by omega),decT (show (0:Int)≤(a:Int) by omega),cond_true,Bool.and_true,Bool.not_false,Bool.not_true,and_self]
  ·have g1:¬ (i:Int)≤(J:Int) - 1:=by omega
   simp only [decF g1,cond_false,Bool.and_true,Bool.not_false,and_self]
theorem peq_l2 (a:Nat) (b' pv:Int) (L m:List Ed) (i0 i J:Nat) (p:Ed) (hp:m[a]? =some p) (hi:i≤J) (hJ:J≤m.length) (hbig:m.length≤1152921504606846976)
  (h3:loopR (HL.dflt [.bool,.int .i64]) (slices_partitionEqualCmpFunc_api_Edge_l1 (a:Int) b' pv () L ((i0:Int),(J:Int) - 1,m,())) ((i0:Int),())=(true,(true,(i:Int),()))):
  ∃ j,i≤j∧j≤J∧(∀ k,j≤k→k<J→¬ ∃ x,m[k]? =some x∧¬ lt p x)∧(j=i∨∃ k,j=k+1∧i≤k∧¬ ¬ ∃ x,m[k]? =some x∧¬ lt p x)∧
   loopR (HL.dflt [.bool,.int .i64]) (slices_partitionEqualCmpFunc_api_Edge_l2 (a:Int) b' pv () L ((i0:Int),(J:Int) - 1,m,())) ((J:Int) - 1,())=(true,(true,(j:Int) - 1,())):=by
 have ha:a<m.length:=(List.getElem?_eq_some_iff.1 hp).1
 refine scan_down i (fun k=>¬ ∃ x,m[k]? =some x∧¬ lt p x) (fun j=>(true,(j:Int) - 1,())) J hi (fun j h1 h2 h4=> ?_) (fun j h1 h2 h4=> ?_)
 ·have hx:m[j]? =some (m[j]'(by omega)):=List.getElem?_eq_getElem (by omega)
  generalize m[j]'(by omega)=x at hx
  have hn:lt p x:=Classical.not_not.1 fun hh=>h4 ⟨x,hx,hh⟩
  have g1:(i:Int)≤((j+1:Nat):Int) - 1:=by omega
  have hw:IntKind.i64.wrap (((j+1:Nat):Int) - 1 - 1)=(j:Int) - 1:=by rw [wrap_i64 (by omega) (by omega)]; omega
  have hj:(((j+1:Nat):Int) - 1).toNat=j:=by omega
  unfold slices_partitionEqualCmpFunc_api_Edge_l2 RGo
  simp only [loopD_eq,h3,decT g1,hw,hj,hx,hp,Int.toNat_natCast,Option.getD_some,edge_Compare_eq,decT hn,decT ha,decT (show j<m.length by omega),decT (show (0:Int)≤((j+1:Nat):Int) - 1 by omega),decT (show (0:Int)≤(a:Int) by omega),cond_true,Bool.and_true,Bool.not_false,Bool.not_true,and_self]
 ·unfold slices_partitionEqualCmpFunc_api_Edge_l2 REnd
  rcases h4 with h4 | ⟨k,rfl,h5,h6⟩
  ·have g1:¬ (i:Int)≤(j:Int) - 1:=by omega
   simp only [loopD_eq,h3,decF g1,cond_false,Bool.and_true,Bool.not_false,and_self]
  ·obtain ⟨x,hx,hlt⟩:=Classical.not_not.1 h6
   have g1:(i:Int)≤((k+1:Nat):Int) - 1:=by omega
   have hj:(((k+1:Nat):Int) - 1).toNat=k:=by omega
   simp only [loopD_eq,h3,decT g1,hj,hx,hp,Int.toNat_natCast,Option.getD_some,edge_Compare_eq,decF hlt,decT ha,decT (show k<m.length by omega),decT (show (0:Int)≤((k+1:Nat):Int) - 1 by omega),decT (show (0:Int)≤(a:Int) by omega),cond_true,Bool.and_true,Bool.not_false,Bool.not_true,and_self]
theorem peq_l0 (a b:Nat) (b' pv:Int) (L l:List Ed) (p:Ed) (hab:a<b) (hb:b≤l.length) (hbig:l.length≤1152921504606846976) (hp:l[a]? =some p):
  ∃ (k:Nat) (m:List Ed),loopR (HL.dflt [.bool,.int .i64,(.fl (.row (.prod (.int .i64) (.prod (.int .i64) (.int .i64)))))]) (slices_partitionEqualCmpFunc_api_Edge_l0 (a:Int) b' pv () L) (((a+1:Nat):Int),(b:Int) - 1,l,())=(true,(true,(k:Int),m,()))∧
   a<k∧k≤b∧RP (a+1) b l m∧PartAt (fun x=>¬ lt p x) (a+1) k k b m:=by
 have key:=loopR_by (d:=HL.dflt [.bool,.int .i64,(.fl (.row (.prod (.int .i64) (.prod (.int .i64) (.int .i64)))))]) (step:=slices_partitionEqualCmpFunc_api_Edge_l0 (a:Int) b' pv () L)
  (fun s:Int × Int × List Ed × Unit=>∃ (i j:Nat) (m:List Ed),s=((i:Int),(j:Int) - 1,m,())∧a<i∧i≤j∧j≤b∧RP (a+1) b l m∧PartAt (fun x=>¬ lt p x) (a+1) i j b m) (fun s=>(s.2.1+1 - s.1).toNat)
  (fun r:Bool × Int × List Ed × Unit=>∃ (k:Nat) (m:List Ed),r=(true,(k:Int),m,())∧a<k∧k≤b∧RP (a+1) b l m∧PartAt (fun x=>¬ lt p x) (a+1) k k b m)
  (((a+1:Nat):Int),(b:Int) - 1,l,()) ⟨a+1,b,l,rfl,by omega,by omega,by omega,RP.refl _ _ _,⟨fun p x h1 h2=>by omega,fun p x h1 h2=>by omega⟩⟩ (by
   rintro _ ⟨i,j,m,rfl,h1,h2,h3,h4,h5⟩
   have hlen:=h4.len
   have hpm:m[a]? =some p:=by rw [h4.out a (.inl (by omega))]; exact hp
   obtain ⟨i',e1,e2,e3,e4,e5⟩:=peq_l1 a b' pv L m i j p hpm h2 (by omega) (by omega)
   obtain ⟨j',f1,f2,f3,f4,f5⟩:=peq_l2 a b' pv L m i i' j p hpm e2 (by omega) (by omega) e5
   have hsc:PartAt (fun x=>¬ lt p x) (a+1) i' j' b m:=h5.scan e3 (fun k k1 k2=>by
    have hx:m[k]? =some (m[k]'(by omega)):=List.getElem?_eq_getElem (by omega)
    exact ⟨_,hx,fun hh=>f3 k k1 k2 ⟨_,hx,hh⟩⟩)
   unfold slices_partitionEqualCmpFunc_api_Edge_l0
   simp only [loopD_eq,e5,f5]
   rcases f4 with f4 | ⟨k,rfl,f6,f7⟩
   ·subst f4
    have g1:(j':Int)>(j':Int) - 1:=by omega
    simp only [decT g1,Bool.not_true,cond_false,Bool.and_true]
    exact ⟨trivial,fun h=>(by cases h),fun _=>⟨j',m,rfl,by omega,by omega,h4,hsc⟩⟩
   ·obtain ⟨y,hy,hlt⟩:=Classical.not_not.1 f7
    have hik:i'<k:=by
     rcases Nat.lt_or_ge i' k with hh | hh
     ·exact hh
     ·have:i'=k:=by omega
      subst this
      rcases e4 with e4 | e4
      ·omega
      ·exact absurd ⟨y,hy,hlt⟩ e4
    have hx:m[i']? =some (m[i']'(by omega)):=List.getElem?_eq_getElem (by omega)
    generalize m[i']'(by omega)=x at hx
    have hn:¬ ¬ lt p x:=fun hh=>by
     rcases e4 with e4 | e4
     ·omega
     ·exact e4 ⟨x,hx,hh⟩
    have g1:¬ (i':Int)>((k+1:Nat):Int) - 1:=by omega
    have hw1:IntKind.i64.wrap ((i':Int)+1)=((i'+1:Nat):Int):=by rw [wrap_i64 (by omega) (by omega)]; omega
    have hw2:IntKind.i64.wrap (((k+1:Nat):Int) - 1 - 1)=(k:Int) - 1:=by rw [wrap_i64 (by omega) (by omega)]; omega
    have hk:(((k+1:Nat):Int) - 1).toNat=k:=by omega
    simp only [decF g1,hw1,hw2,hk,hx,hy,Int.toNat_natCast,Option.getD_some,Bool.not_false,cond_true,List.length_set,decT (show k<m.length by omega),decT (show i'<m.length by omega),decT (show (0:Int)≤(i':Int) by omega),decT (show (0:Int)≤((k+1:Nat):Int) - 1 by omega),Bool.and_true]
    exact ⟨trivial,fun _=>⟨⟨i'+1,k,_,rfl,by omega,by omega,by omega,h4.trans (RP.swap' hx hy (by omega) (by omega) (by omega) (by omega)),hsc.swap hik (by omega) hx hy hn hlt⟩,by
     show ((k:Int) - 1+1 - ((i'+1:Nat):Int)).toNat<((j:Int) - 1+1 - (i:Int)).toNat
     omega⟩,fun h=>by cases h⟩)
 obtain ⟨h1,k,m,h2,h3,h4,h5,h6⟩:=key
 exact ⟨k,m,Prod.ext h1 h2,h3,h4,h5,h6⟩
theorem peq_r (a b pv:Nat) (l:List Ed) (h1:a≤pv) (h2:pv<b) (hb:b≤l.length) (hbig:l.length≤1152921504606846976) (p:Ed) (hp:l[pv]? =some p):
  ∃ (k:Nat) (m:List Ed),slices_partitionEqualCmpFunc_api_Edge_r (a:Int) (b:Int) (pv:Int) () l=(true,((k:Int),m))∧a<k∧k≤b∧RP a b l m∧PartAt (fun x=>¬ lt p x) a k k b m:=by
 have hq:l[a]? =some (l[a]'(by omega)):=List.getElem?_eq_getElem (by omega)
 generalize l[a]'(by omega)=q at hq
 generalize hm:(l.set a p).set pv q=m
 have hlen:m.length=l.length:=by rw [← hm]; simp
 have hpm:m[a]? =some p:=by
  rw [← hm,swap_at hq hp]
  by_cases hh:a=pv
  ·rw [if_pos hh]; rw [← hh,hq] at hp; exact hp
  ·rw [if_neg hh,if_pos rfl]
 have hrp:RP a b l m:=by rw [← hm]; exact RP.swap' hq hp (by omega) (by omega) h1 h2
 have hwa:IntKind.i64.wrap ((a:Int)+1)=((a+1:Nat):Int):=by rw [wrap_i64 (by omega) (by omega)]; omega
 have hwb:IntKind.i64.wrap ((b:Int) - 1)=(b:Int) - 1:=wrap_i64 (by omega) (by omega)
 obtain ⟨k,m2,e1,e2,e3,e4,e5⟩:=peq_l0 a b (b:Int) (pv:Int) l m p (by omega) (by omega) (by omega) hpm
 unfold slices_partitionEqualCmpFunc_api_Edge_r
 simp only [loopD_eq,hwa,hwb,Int.toNat_natCast,hp,hq,Option.getD_some,hm,e1,List.length_set,decT (show pv<l.length by omega),decT (show a<l.length by omega),decT (show (0:Int)≤(pv:Int) by omega),decT (show (0:Int)≤(a:Int) by omega),Bool.and_true]
 refine ⟨k,m2,rfl,e2,e3,hrp.trans (e4.mono (by omega) (Nat.le_refl _)),⟨fun i x k1 k2 hx=> ?_,e5.right⟩⟩
 by_cases hia:i=a
 ·subst hia
  rw [e4.out i (.inl (by omega)),hpm] at hx
  injection hx with hx; subst hx
  exact lt_irr _
 ·exact e5.left i x (by omega) k2 hx
end Go.Proofs.Ytfeepbajipdfaaa.T
namespace Go.Proofs.Ytfeepbajipdfaaa.T
open Go.Vm Go.Tm
set_option linter.unusedVariables false
set_option linter.unusedSimpArgs false
def Low (a b:Nat) (l:List Ed):Prop:=a=0∨∀ i x z,a≤i→i<b→l[i]? =some x→l[a - 1]? =some z→¬ lt x z
theorem Low.of {a b:Nat} {l m:List Ed} (h:Low a b l) (hr:RP a b l m):Low a b m:=by
 rcases h with h | h
 ·exact .inl h
 ·by_cases h0:a=0
  ·exact .inl h0
  ·refine .inr fun i x z h1 h2 h3 h4=> ?_
   rw [hr.out (a - 1) (.inl (by omega))] at h4
   exact hr.all (P:=fun x=>¬ lt x z) (fun j y k1 k2 k3=>h j y z k1 k2 k3 h4) i x h1 h2 h3
theorem pis_l1 (a':Int) (b:Nat) (L m:List Ed) (i0:Nat) (c:Int) (h0:1≤i0) (hi:i0≤b) (hb:b≤m.length) (hbig:m.length≤1152921504606846976):
  ∃ i,i0≤i∧i≤b∧(∀ k,i0≤k→k<i→∃ x y,m[k - 1]? =some x∧m[k]? =some y∧¬ lt y x)∧(i=b∨¬ ∃ x y,m[i - 1]? =some x∧m[i]? =some y∧¬ lt y x)∧
   loopR (HL.dflt [.bool,.int .i64]) (slices_partialInsertionSortCmpFunc_api_Edge_l1 a' (b:Int) () L ((i0:Int),c,m,())) ((i0:Int),())=(true,(true,(i:Int),())):=by
 refine scan_up b (fun k=>∃ x y,m[k - 1]? =some x∧m[k]? =some y∧¬ lt y x) (fun i=>(true,(i:Int),())) i0 hi (fun i h1 h2 h3=> ?_) (fun i h1 h2 h3=> ?_)
 ·obtain ⟨x,y,hx,hy,hlt⟩:=h3
  have g1:(i:Int)<(b:Int):=by omega
  have hw:IntKind.i64.wrap ((i:Int)+1)=((i+1:Nat):Int):=by rw [wrap_i64 (by omega) (by omega)]; omega
  have hw2:IntKind.i64.wrap ((i:Int) - 1)=((i - 1:Nat):Int):=by rw [wrap_i64 (by omega) (by omega)]; omega
  unfold slices_partialInsertionSortCmpFunc_api_Edge_l1 RGo
  simp only [decT g1,hw,hw2,Int.toNat_natCast,hx,hy,Option.getD_some,edge_Compare_eq,decF hlt,decT (show i<m.length by omega),decT (show i - 1<m.length by omega),decT (show (0:Int)≤(i:Int) by omega),decT (show (0:Int)≤((i - 1:Nat):Int) by omega),cond_true,Bool.and_true,Bool.not_true,Bool.not_false,and_self]
 ·unfold slices_partialInsertionSortCmpFunc_api_Edge_l1 REnd
  rcases Nat.lt_or_ge i b with hlt | hge
  ·have g1:(i:Int)<(b:Int):=by omega
   have hx:m[i - 1]? =some (m[i - 1]'(by omega)):=List.getElem?_eq_getElem (by omega)
   generalize m[i - 1]'(by omega)=x at hx
   have hy:m[i]? =some (m[i]'(by omega)):=List.getElem?_eq_getElem (by omega)
   generalize m[i]'(by omega)=y at hy
   have hn:lt y x:=by
    rcases h3 with h3 | h3
    ·omega
    ·exact Classical.not_not.1 fun hh=>h3 ⟨x,y,hx,hy,hh⟩
   have hw2:IntKind.i64.wrap ((i:Int) - 1)=((i - 1:Nat):Int):=by rw [wrap_i64 (by omega) (by omega)]; omega
   simp only [decT g1,hw2,Int.toNat_natCast,hx,hy,Option.getD_some,edge_Compare_eq,decT hn,decT (show i<m.length by omega),decT (show i - 1<m.length by omega),decT (show (0:Int)≤(i:Int) by omega),decT (show (0:Int)≤((i - 1:Nat):Int) by omega),cond_true,Bool.and_true,Bool.not_true,Bool.not_false,and_self]
  ·have g1:¬ (i:Int)<(b:Int):=by omega
   simp only [decF g1,cond_false,Bool.and_true,Bool.not_false,and_self]
theorem pis_l2 (a b i:Nat) (b':Int) (L l:List Ed) (hai:a+1≤i) (hib:i≤b) (hb:b≤l.length) (hbig:l.length≤1152921504606846976) (hlow:Low a b l) (h:InOrder lt a (i - 1) l):
  ∃ m,loopR (HL.dflt [.bool,(.fl (.row (.prod (.int .i64) (.prod (.int .i64) (.int .i64)))))]) (slices_partialInsertionSortCmpFunc_api_Edge_l2 (a:Int) b' () L) (((i - 1:Nat):Int),l,())=(true,(true,m,()))∧RP a i l m∧InOrder lt a i m:=by
 have key:=loopR_by (d:=HL.dflt [.bool,(.fl (.row (.prod (.int .i64) (.prod (.int .i64) (.int .i64)))))]) (step:=slices_partialInsertionSortCmpFunc_api_Edge_l2 (a:Int) b' () L)
  (fun s:Int × List Ed × Unit=>∃ (j:Nat) (m:List Ed),s=((j:Int),m,())∧a≤j∧j<i∧RP a i l m∧InsAt lt a i j m) (fun s=>s.1.toNat)
  (fun r:Bool × List Ed × Unit=>∃ m,r=(true,m,())∧RP a i l m∧InOrder lt a i m) (((i - 1:Nat):Int),l,())
  ⟨i - 1,l,rfl,by omega,by omega,RP.refl _ _ _,by have:=InsAt.start h; rw [show i - 1+1=i by omega] at this; exact this⟩ (by
   rintro _ ⟨j,m,rfl,h1,h2,h3,h4⟩
   have hlen:=h3.len
   have hlow2:=hlow.of (h3.mono (Nat.le_refl _) hib)
   unfold slices_partialInsertionSortCmpFunc_api_Edge_l2
   cases j with
   | zero=>
    have g1:¬ ((0:Nat):Int)≥1:=by omega
    simp only [decF g1,cond_false,Bool.false_and,Bool.not_false]
    exact ⟨trivial,fun h=>(by cases h),fun _=>⟨m,rfl,h3,h4.stop le_trans' (by omega) (.inl (by omega))⟩⟩
   | succ k=>
    have g1:((k+1:Nat):Int)≥1:=by omega
    have hw:IntKind.i64.wrap (((k+1:Nat):Int) - 1)=(k:Int):=by rw [wrap_i64 (by omega) (by omega)]; omega
    have hx:m[k]? =some (m[k]'(by omega)):=List.getElem?_eq_getElem (by omega)
    have hy:m[k+1]? =some (m[k+1]'(by omega)):=List.getElem?_eq_getElem (by omega)
    generalize m[k]'(by omega)=x at hx
    generalize m[k+1]'(by omega)=y at hy
    simp only [decT g1,hw,Int.toNat_natCast,hx,hy,Option.getD_some,edge_Compare_eq,decT (show k+1<m.length by omega),decT (show k<m.length by omega),decT (show (0:Int)≤((k+1:Nat):Int) by omega),decT (show (0:Int)≤(k:Int) by omega),cond_true,Bool.and_true,Bool.true_and,List.length_set]
    by_cases hlt:lt y x
    ·have hk:a≤k:=by
      rcases Nat.lt_or_ge k a with hka | hka
      ·exfalso
       rcases hlow2 with h0 | h0
       ·omega
       ·exact h0 (k+1) y x (by omega) (by omega) hy (by rw [show a - 1=k by omega]; exact hx) hlt
      ·exact hka
     simp only [decT hlt,Bool.not_true,Bool.not_false,cond_true]
     exact ⟨trivial,fun _=>⟨⟨k,_,rfl,by omega,by omega,h3.trans (RP.swap' hy hx (by omega) (by omega) (by omega) (by omega)),h4.step lt_asym (by omega) (by omega) hx hy hlt⟩,by
      show ((k:Int)).toNat<(((k+1:Nat):Int)).toNat
      omega⟩,fun h=>by cases h⟩
    ·simp only [decF hlt,Bool.not_true,Bool.not_false,cond_false]
     refine ⟨trivial,fun h=>(by cases h),fun _=>⟨m,rfl,h3,h4.stop le_trans' (by omega) ?_⟩⟩
     by_cases hka:k+1=a
     ·exact .inl hka
     ·exact .inr ⟨x,y,by omega,hx,hy,hlt⟩)
 obtain ⟨h1,m,h2,h3,h4⟩:=key
 exact ⟨m,Prod.ext h1 h2,h3,h4⟩
theorem pis_l3 (a':Int) (b i:Nat) (L l:List Ed) (hi:1≤i) (hib:i≤b) (hb:b≤l.length) (hbig:l.length≤1152921504606846976):
  ∃ m,loopR (HL.dflt [.bool,(.fl (.row (.prod (.int .i64) (.prod (.int .i64) (.int .i64)))))]) (slices_partialInsertionSortCmpFunc_api_Edge_l3 a' (b:Int) () L) (((i+1:Nat):Int),l,())=(true,(true,m,()))∧RP i b l m:=by
 have key:=loopR_by (d:=HL.dflt [.bool,(.fl (.row (.prod (.int .i64) (.prod (.int .i64) (.int .i64)))))]) (step:=slices_partialInsertionSortCmpFunc_api_Edge_l3 a' (b:Int) () L)
  (fun s:Int × List Ed × Unit=>∃ (j:Nat) (m:List Ed),s=((j:Int),m,())∧i<j∧j≤b+1∧RP i b l m) (fun s=>b+1 - s.1.toNat)
  (fun r:Bool × List Ed × Unit=>∃ m,r=(true,m,())∧RP i b l m) (((i+1:Nat):Int),l,())
  ⟨i+1,l,rfl,by omega,by omega,RP.refl _ _ _⟩ (by
   rintro _ ⟨j,m,rfl,h1,h2,h3⟩
   have hlen:=h3.len
   unfold slices_partialInsertionSortCmpFunc_api_Edge_l3
   by_cases hj:j<b
   ·obtain ⟨k,rfl⟩:∃ k,j=k+1:=⟨j - 1,by omega⟩
    have g1:((k+1:Nat):Int)<(b:Int):=by omega
    have hw:IntKind.i64.wrap (((k+1:Nat):Int) - 1)=(k:Int):=by rw [wrap_i64 (by omega) (by omega)]; omega
    have hw2:IntKind.i64.wrap (((k+1:Nat):Int)+1)=((k+1+1:Nat):Int):=by rw [wrap_i64 (by omega) (by omega)]; omega
    have hx:m[k]? =some (m[k]'(by omega)):=List.getElem?_eq_getElem (by omega)
    have hy:m[k+1]? =some (m[k+1]'(by omega)):=List.getElem?_eq_getElem (by omega)
    generalize m[k]'(by omega)=x at hx
    generalize m[k+1]'(by omega)=y at hy
    simp only [decT g1,hw,hw2,Int.toNat_natCast,hx,hy,Option.getD_some,edge_Compare_eq,decT (show k+1<m.length by omega),decT (show k<m.length by omega),decT (show (0:Int)≤((k+1:Nat):Int) by omega),decT (show (0:Int)≤(k:Int) by omega),cond_true,Bool.and_true,Bool.true_and,List.length_set]
    by_cases hlt:lt y x
    ·simp only [decT hlt,Bool.not_true,Bool.not_false,cond_true]
     exact ⟨trivial,fun _=>⟨⟨k+1+1,_,rfl,by omega,by omega,h3.trans (RP.swap' hy hx (by omega) (by omega) (by omega) (by omega))⟩,by
      show b+1 - (((k+1+1:Nat):Int)).toNat<b+1 - (((k+1:Nat):Int)).toNat
      omega⟩,fun h=>by cases h⟩
    ·simp only [decF hlt,Bool.not_true,Bool.not_false,cond_false]
     exact ⟨trivial,fun h=>(by cases h),fun _=>⟨m,rfl,h3⟩⟩
   ·have g1:¬ (j:Int)<(b:Int):=by omega
    simp only [decF g1,cond_false,Bool.false_and,Bool.not_false]
    exact ⟨trivial,fun h=>(by cases h),fun _=>⟨m,rfl,h3⟩⟩)
 obtain ⟨h1,m,h2,h3⟩:=key
 exact ⟨m,Prod.ext h1 h2,h3⟩
theorem inOrder_more {a i i':Nat} {m:List Ed} (h:InOrder lt a i m) (hai:a<i) (h2:∀ k,i≤k→k<i'→∃ x y,m[k - 1]? =some x∧m[k]? =some y∧¬ lt y x):InOrder lt a i' m:=by
 have key:∀ n,i+n≤i'→InOrder lt a (i+n) m:=by
  intro n
  induction n with
  | zero=>exact fun _=>h
  | succ n ih=>
   intro hn p q u v k1 k2 k3 hu hv
   have ih:=ih (by omega)
   rcases Nat.lt_or_ge q (i+n) with hq | hq
   ·exact ih p q u v k1 k2 hq hu hv
   ·have hqe:q=i+n:=by omega
    subst hqe
    obtain ⟨x,y,hx,hy,hn'⟩:=h2 (i+n) (by omega) (by omega)
    rw [hy] at hv; injection hv with hv; subst hv
    by_cases hp:p=i+n - 1
    ·subst hp; rw [hx] at hu; injection hu with hu; subst hu; exact hn'
    ·exact le_trans' u x y (ih p (i+n - 1) u x k1 (by omega) (by omega) hu hx) hn'
 intro p q u v k1 k2 k3
 rcases Nat.lt_or_ge i' i with hh | hh
 ·exact h p q u v k1 k2 (by omega)
 ·have:=key (i' - i) (by omega)
  rw [show i+(i' - i)=i' by omega] at this
  exact this p q u v k1 k2 k3
theorem pis_r (a b:Nat) (l:List Ed) (hab:a<b) (hb:b≤l.length) (hbig:l.length≤1152921504606846976) (hlow:Low a b l):
  ∃ (c:Bool) (m:List Ed),slices_partialInsertionSortCmpFunc_api_Edge_r (a:Int) (b:Int) () l=(true,(c,m))∧RP a b l m∧(c=true→InOrder lt a b m):=by
 have hwa:IntKind.i64.wrap ((a:Int)+1)=((a+1:Nat):Int):=by rw [wrap_i64 (by omega) (by omega)]; omega
 have key:=loopR_by (d:=HL.dflt [.bool,.bool,(.fl (.row (.prod (.int .i64) (.prod (.int .i64) (.int .i64))))),.bool,(.fl (.row (.prod (.int .i64) (.prod (.int .i64) (.int .i64)))))]) (step:=slices_partialInsertionSortCmpFunc_api_Edge_l0 (a:Int) (b:Int) () l)
  (fun s:Int × Int × List Ed × Unit=>∃ (i:Nat) (c:Int) (m:List Ed),s=((i:Int),c,m,())∧0≤c∧c≤5∧a<i∧i≤b∧RP a b l m∧InOrder lt a i m) (fun s=>(5 - s.2.1).toNat)
  (fun r:Bool × Bool × List Ed × Bool × List Ed × Unit=>r.2.2.1=r.2.2.2.2.1∧RP a b l r.2.2.1∧((cond r.2.2.2.1 false r.2.1)=true→InOrder lt a b r.2.2.1))
  (((a+1:Nat):Int),(0:Int),l,()) ⟨a+1,0,l,rfl,by omega,by omega,by omega,by omega,RP.refl _ _ _,fun p q x y h1 h2 h3=>by omega⟩ (by
   rintro _ ⟨i,c,m,rfl,hc0,hc5,h1,h2,h3,h4⟩
   have hlen:=h3.len
   unfold slices_partialInsertionSortCmpFunc_api_Edge_l0
   by_cases hc:c<5
   ·obtain ⟨i',e1,e2,e3,e4,e5⟩:=pis_l1 (a:Int) b l m i c (by omega) h2 (by omega) (by omega)
    have ho:=inOrder_more h4 h1 e3
    have hwd:IntKind.i64.wrap ((b:Int) - (a:Int))=((b - a:Nat):Int):=by rw [wrap_i64 (by omega) (by omega)]; omega
    have hwc:IntKind.i64.wrap (c+1)=c+1:=wrap_i64 (by omega) (by omega)
    by_cases hib:i'=b
    ·subst hib
     simp only [loopD_eq,e5,decT hc,hwd,beq_self_eq_true,Bool.not_true,Bool.true_and,cond_true,cond_false,Bool.and_false,Bool.false_and]
     exact ⟨trivial,fun h=>(by cases h),fun _=>⟨trivial,h3,fun _=>ho⟩⟩
    ·have hne:¬ (i':Int)=(b:Int):=by omega
     by_cases h50:((b - a:Nat):Int)<50
     ·simp only [loopD_eq,e5,decT hc,hwd,beqI hne,decT h50,Bool.not_true,Bool.not_false,Bool.true_and,cond_true,cond_false,Bool.and_false,Bool.false_and]
      exact ⟨trivial,fun h=>(by cases h),fun _=>⟨trivial,h3,fun h=>by cases h⟩⟩
     ·have hx:m[i' - 1]? =some (m[i' - 1]'(by omega)):=List.getElem?_eq_getElem (by omega)
      have hy:m[i']? =some (m[i']'(by omega)):=List.getElem?_eq_getElem (by omega)
      generalize m[i' - 1]'(by omega)=x at hx
      generalize m[i']'(by omega)=y at hy
      have hw1:IntKind.i64.wrap ((i':Int) - 1)=((i' - 1:Nat):Int):=by rw [wrap_i64 (by omega) (by omega)]; omega
      have hw2:IntKind.i64.wrap ((i':Int)+1)=((i'+1:Nat):Int):=by rw [wrap_i64 (by omega) (by omega)]; omega
      have hw3:IntKind.i64.wrap ((i':Int) - (a:Int))=((i' - a:Nat):Int):=by rw [wrap_i64 (by omega) (by omega)]; omega
      have hw4:IntKind.i64.wrap ((b:Int) - (i':Int))=((b - i':Nat):Int):=by rw [wrap_i64 (by omega) (by omega)]; omega
      have hsw:RP a b m ((m.set i' x).set (i' - 1) y):=RP.swap' hy hx (by omega) (by omega) (by omega) (by omega)
      have ho1:InOrder lt a (i' - 1) ((m.set i' x).set (i' - 1) y):=fun p q u v k1 k2 k3 hu hv=>by
       rw [List.getElem?_set_ne (by omega),List.getElem?_set_ne (by omega)] at hu hv
       exact ho p q u v k1 k2 (by omega) hu hv
      generalize hm1:(m.set i' x).set (i' - 1) y=m1 at hsw ho1
      have hlen1:=hsw.len
      obtain ⟨m2,f1,f2,f3⟩:=pis_l2 a b i' (b:Int) l m1 (by omega) (by omega) (by omega) (by omega) (hlow.of (h3.trans hsw)) ho1
      have hm2:∃ m2',(cond (decide (((i' - a:Nat):Int)≥2)) m2 m1)=m2'∧RP a i' m1 m2'∧InOrder lt a i' m2':=by
       by_cases hh:((i' - a:Nat):Int)≥2
       ·exact ⟨m2,by simp only [decT hh,cond_true],f2,f3⟩
       ·exact ⟨m1,by simp only [decF hh,cond_false],RP.refl _ _ _,fun p q u v k1 k2 k3=>by omega⟩
      obtain ⟨m2',hm2',g2,g3⟩:=hm2
      have hlen2:=g2.len
      obtain ⟨m3,k1,k2⟩:=pis_l3 (a:Int) b i' l m2' (by omega) (by omega) (by omega) (by omega)
      have hm3:∃ m3',(cond (decide (((b - i':Nat):Int)≥2)) m3 m2')=m3'∧RP i' b m2' m3':=by
       by_cases hh:((b - i':Nat):Int)≥2
       ·exact ⟨m3,by simp only [decT hh,cond_true],k2⟩
       ·exact ⟨m2',by simp only [decF hh,cond_false],RP.refl _ _ _⟩
      obtain ⟨m3',hm3',g4⟩:=hm3
      simp only [loopD_eq,e5,decT hc,hwd,beqI hne,decF h50,hw1,hw2,hw3,hw4,hwc,Int.toNat_natCast,hx,hy,Option.getD_some,hm1,f1,hm2',k1,hm3',List.length_set,decT (show i'<m.length by omega),decT (show i' - 1<m.length by omega),decT (show (0:Int)≤(i':Int) by omega),decT (show (0:Int)≤((i' - 1:Nat):Int) by omega),Bool.not_true,Bool.not_false,Bool.true_and,Bool.and_true,cond_true,cond_false,Bool.and_false,Bool.false_and,cond_t,Bool.cond_self]
      exact ⟨trivial,fun _=>⟨⟨i',c+1,m3',rfl,by omega,by omega,by omega,e2,h3.trans (hsw.trans ((g2.mono (Nat.le_refl _) e2).trans (g4.mono (by omega) (Nat.le_refl _)))),g3.of_out g4 (.inl (Nat.le_refl _))⟩,by
       show (5 - (c+1)).toNat<(5 - c).toNat
       omega⟩,fun h=>by cases h⟩
   ·simp only [decF hc,cond_false,Bool.false_and,Bool.not_false]
    exact ⟨trivial,fun h=>(by cases h),fun _=>⟨trivial,h3,fun h=>by cases h⟩⟩)
 obtain ⟨k1,k2,k3,k4⟩:=key
 unfold slices_partialInsertionSortCmpFunc_api_Edge_r
 simp only [loopD_eq,hwa,k1,← k2,Bool.cond_self]
 exact ⟨_,_,rfl,k3,k4⟩
end Go.Proofs.Ytfeepbajipdfaaa.T
namespace Go.Proofs.Ytfeepbajipdfaaa.T
open Go.Vm Go.Tm
set_option linter.unusedVariables false
set_option linter.unusedSimpArgs false
theorem order2_r (i j:Nat) (l:List Ed) (s:Int) (hi:i<l.length) (hj:j<l.length):
  ∃ (x y:Nat) (s':Int),slices_order2CmpFunc_api_Edge_r (i:Int) (j:Int) () l s=(true,((x:Int),(y:Int),s'))∧((x=i∧y=j)∨(x=j∧y=i)):=by
 unfold slices_order2CmpFunc_api_Edge_r
 simp only [Int.toNat_natCast,edge_Compare_eq,decT hi,decT hj,decT (show (0:Int)≤(i:Int) by omega),decT (show (0:Int)≤(j:Int) by omega),Bool.and_true]
 by_cases hlt:edgeCmp ((l[j]?).getD ((0:Int),((0:Int),(0:Int)))) ((l[i]?).getD ((0:Int),((0:Int),(0:Int))))<0
 ·simp only [decT hlt,Bool.not_true,cond_false]
  exact ⟨j,i,_,rfl,.inr ⟨rfl,rfl⟩⟩
 ·simp only [decF hlt,Bool.not_false,cond_true]
  exact ⟨i,j,_,rfl,.inl ⟨rfl,rfl⟩⟩
theorem median_r (i j k:Nat) (l:List Ed) (s:Int) (hi:i<l.length) (hj:j<l.length) (hk:k<l.length):
  ∃ (r:Nat) (s':Int),slices_medianCmpFunc_api_Edge_r (i:Int) (j:Int) (k:Int) () l s=(true,((r:Int),s'))∧(r=i∨r=j∨r=k):=by
 obtain ⟨x1,y1,s1,e1,h1⟩:=order2_r i j l s hi hj
 obtain ⟨x2,y2,s2,e2,h2⟩:=order2_r y1 k l s1 (by omega) hk
 obtain ⟨x3,y3,s3,e3,h3⟩:=order2_r x1 x2 l s2 (by omega) (by omega)
 unfold slices_medianCmpFunc_api_Edge_r
 simp only [e1,e2,e3,Bool.and_self]
 exact ⟨y3,s3,rfl,by omega⟩
theorem adjacent_r (i:Nat) (l:List Ed) (s:Int) (h1:1≤i) (hi:i+1<l.length) (hbig:l.length≤1152921504606846976):
  ∃ (r:Nat) (s':Int),slices_medianAdjacentCmpFunc_api_Edge_r (i:Int) () l s=(true,((r:Int),s'))∧i - 1≤r∧r≤i+1:=by
 have hw1:IntKind.i64.wrap ((i:Int) - 1)=((i - 1:Nat):Int):=by rw [wrap_i64 (by omega) (by omega)]; omega
 have hw2:IntKind.i64.wrap ((i:Int)+1)=((i+1:Nat):Int):=by rw [wrap_i64 (by omega) (by omega)]; omega
 obtain ⟨r,s',e,h⟩:=median_r (i - 1) i (i+1) l s (by omega) (by omega) (by omega)
 unfold slices_medianAdjacentCmpFunc_api_Edge_r
 simp only [hw1,hw2,e]
 exact ⟨r,s',rfl,by omega,by omega⟩
theorem pivot_r (a b:Nat) (l:List Ed) (hab:a+12<b) (hb:b≤l.length) (hbig:l.length≤1152921504606846976):
  ∃ (k:Nat) (h:Int),slices_choosePivotCmpFunc_api_Edge_r (a:Int) (b:Int) () l=(true,((k:Int),h))∧a≤k∧k<b:=by
 have hwd:IntKind.i64.wrap ((b:Int) - (a:Int))=((b - a:Nat):Int):=by rw [wrap_i64 (by omega) (by omega)]; omega
 have hq:IntKind.i64.wrap (Int.tdiv ((b - a:Nat):Int) 4)=(((b - a) / 4:Nat):Int):=by
  rw [show Int.tdiv ((b - a:Nat):Int) 4=(((b - a) / 4:Nat):Int) from rfl,wrap_i64 (by omega) (by omega)]
 have hk:∀ c:Nat,c≤3→IntKind.i64.wrap ((((b - a) / 4:Nat):Int)*(c:Int))=(((b - a) / 4*c:Nat):Int):=fun c hc=>by
  have:c=0∨c=1∨c=2∨c=3:=by omega
  rcases this with rfl | rfl | rfl | rfl<;>(rw [wrap_i64 (by omega) (by omega)]; omega)
 have hk1:=hk 1 (by omega)
 have hk2:=hk 2 (by omega)
 have hk3:=hk 3 (by omega)
 have hi:∀ n:Nat,n≤b - a→IntKind.i64.wrap ((a:Int)+(n:Int))=((a+n:Nat):Int):=fun n hn=>by
  rw [wrap_i64 (by omega) (by omega)]; omega
 have hi1:=hi ((b - a) / 4*1) (by omega)
 have hi2:=hi ((b - a) / 4*2) (by omega)
 have hi3:=hi ((b - a) / 4*3) (by omega)
 obtain ⟨r1,s1,e1,f1,g1⟩:=adjacent_r (a+(b - a) / 4*1) l 0 (by omega) (by omega) hbig
 obtain ⟨r2,s2,e2,f2,g2⟩:=adjacent_r (a+(b - a) / 4*2) l s1 (by omega) (by omega) hbig
 obtain ⟨r3,s3,e3,f3,g3⟩:=adjacent_r (a+(b - a) / 4*3) l s2 (by omega) (by omega) hbig
 have h8:((b - a:Nat):Int)≥8:=by omega
 have c1:((1:Nat):Int)=(1:Int):=rfl
 have c2:((2:Nat):Int)=(2:Int):=rfl
 have c3:((3:Nat):Int)=(3:Int):=rfl
 rw [c1] at hk1; rw [c2] at hk2; rw [c3] at hk3
 unfold slices_choosePivotCmpFunc_api_Edge_r
 by_cases h50:((b - a:Nat):Int)≥50
 ·obtain ⟨k,s',e,hk⟩:=median_r r1 r2 r3 l s3 (by omega) (by omega) (by omega)
  simp only [hwd,hq,hk1,hk2,hk3,hi1,hi2,hi3,decT h8,decT h50,e1,e2,e3,e,cond_true,Bool.and_true,show ((4:Int) !=0)=true from rfl,Bool.cond_self]
  exact ⟨k,_,rfl,by omega,by omega⟩
 ·obtain ⟨k,s',e,hk⟩:=median_r (a+(b - a) / 4*1) (a+(b - a) / 4*2) (a+(b - a) / 4*3) l 0 (by omega) (by omega) (by omega)
  simp only [hwd,hq,hk1,hk2,hk3,hi1,hi2,hi3,decT h8,decF h50,e,cond_true,cond_false,Bool.and_true,show ((4:Int) !=0)=true from rfl,Bool.cond_self]
  exact ⟨k,_,rfl,by omega,by omega⟩
def IsLen (n L:Nat):Prop:=n<2 ^ L∧(L=0∨2 ^ (L - 1)≤n)
theorem isLen_shift {n L k:Nat} (h:IsLen (n / 2 ^ k) L) (hn:2 ^ k≤n):IsLen n (L+k):=by
 have hp:0<2 ^ k:=Nat.two_pow_pos k
 obtain ⟨h1,h2⟩:=h
 have hL:L≠0:=by
  intro h0
  subst h0
  have:=(Nat.div_lt_iff_lt_mul hp).1 h1
  omega
 refine ⟨?_,.inr ?_⟩
 ·have:=(Nat.div_lt_iff_lt_mul hp).1 h1
  rw [Nat.pow_add]; exact this
 ·rcases h2 with h2 | h2
  ·exact absurd h2 hL
  ·have:=(Nat.le_div_iff_mul_le hp).1 h2
   rw [show L+k - 1=L - 1+k by omega,Nat.pow_add]; exact this
theorem shr_nat (n k:Nat) (hk:k≤64):iShr .u64 .u64 (n:Int) (k:Int)=((n / 2 ^ k:Nat):Int):=by
 show Int.fdiv (n:Int) (2 ^ (min ((k:Int)).toNat 64))=_
 rw [Int.toNat_natCast,Nat.min_eq_left hk,show ((2:Int) ^ k)=((2 ^ k:Nat):Int) by simp]
 exact (Int.ofNat_fdiv n (2 ^ k)).symm
end Go.Proofs.Ytfeepbajipdfaaa.T
namespace Go.Proofs.Ytfeepbajipdfaaa.T
open Go.Vm Go.Tm
set_option linter.unusedVariables false
set_option linter.unusedSimpArgs false
theorem u8_id (n:Nat) (h:n<256):IntKind.u8.wrap (n:Int)=(n:Int):=by
 unfold IntKind.wrap
 simp [IntKind.bits,IntKind.signed]
 omega
theorem u64_id (n:Nat) (h:n<18446744073709551616):IntKind.u64.wrap (n:Int)=(n:Int):=by
 unfold IntKind.wrap
 simp [IntKind.bits,IntKind.signed]
 omega
set_option maxRecDepth 100000 in
theorem tab_r:∀ n:Nat,n<256→∃ L:Nat,L≤8∧IsLen n L∧∀ t:ByteArray,t=ByteArray.mk #[0,1,2,2,3,3,3,3,4,4,4,4,4,4,4,4,5,5,5,5,5,5,5,5,5,5,5,5,5,5,5,5,6,6,6,6,6,6,6,6,6,6,6,6,6,6,6,6,6,6,6,6,6,6,6,6,6,6,6,6,6,6,6,6,7,7,7,7,7,7,7,7,7,7,7,7,7,7,7,7,7,7,7,7,7,7,7,7,7,7,7,7,7,7,7,7,7,7,7,7,7,7,7,7,7,7,7,7,7,7,7,7,7,7,7,7,7,7,7,7,7,7,7,7,7,7,7,7,8,8,8,8,8,8,8,8,8,8,8,8,8,8,8,8,8,8,8,8,8,8,8,8,8,8,8,8,8,8,8,8,8,8,8,8,8,8,8,8,8,8,8,8,8,8,8,8,8,8,8,8,8,8,8,8,8,8,8,8,8,8,8,8,8,8,8,8,8,8,8,8,8,8,8,8,8,8,8,8,8,8,8,8,8,8,8,8,8,8,8,8,8,8,8,8,8,8,8,8,8,8,8,8,8,8,8,8,8,8,8,8,8,8,8,8,8,8,8,8,8,8,8,8,8,8,8,8]→n<t.size∧sAt t n=(L:Int):=by
 intro n hn
 have key:∀ n:Fin 256,(∃ L:Fin 9,(n.val<2 ^ L.val∧(L.val=0∨2 ^ (L.val - 1)≤n.val))∧(((ByteArray.mk #[0,1,2,2,3,3,3,3,4,4,4,4,4,4,4,4,5,5,5,5,5,5,5,5,5,5,5,5,5,5,5,5,6,6,6,6,6,6,6,6,6,6,6,6,6,6,6,6,6,6,6,6,6,6,6,6,6,6,6,6,6,6,6,6,7,7,7,7,7,7,7,7,7,7,7,7,7,7,7,7,7,7,7,7,7,7,7,7,7,7,7,7,7,7,7,7,7,7,7,7,7,7,7,7,7,7,7,7,7,7,7,7,7,7,7,7,7,7,7,7,7,7,7,7,7,7,7,7,8,8,8,8,8,8,8,8,8,8,8,8,8,8,8,8,8,8,8,8,8,8,8,8,8,8,8,8,8,8,8,8,8,8,8,8,8,8,8,8,8,8,8,8,8,8,8,8,8,8,8,8,8,8,8,8,8,8,8,8,8,8,8,8,8,8,8,8,8,8,8,8,8,8,8,8,8,8,8,8,8,8,8,8,8,8,8,8,8,8,8,8,8,8,8,8,8,8,8,8,8,8,8,8,8,8,8,8,8,8,8,8,8,8,8,8,8,8,8,8,8,8,8,8,8,8,8,8])[n.val]?).getD 0).toNat=L.val):=by decide+kernel
 obtain ⟨L,h1,h2⟩:=key ⟨n,hn⟩
 refine ⟨L.val,by omega,h1,fun t ht=> ?_⟩
 subst ht
 refine ⟨hn,?_⟩
 show ((((ByteArray.mk #[0,1,2,2,3,3,3,3,4,4,4,4,4,4,4,4,5,5,5,5,5,5,5,5,5,5,5,5,5,5,5,5,6,6,6,6,6,6,6,6,6,6,6,6,6,6,6,6,6,6,6,6,6,6,6,6,6,6,6,6,6,6,6,6,7,7,7,7,7,7,7,7,7,7,7,7,7,7,7,7,7,7,7,7,7,7,7,7,7,7,7,7,7,7,7,7,7,7,7,7,7,7,7,7,7,7,7,7,7,7,7,7,7,7,7,7,7,7,7,7,7,7,7,7,7,7,7,7,8,8,8,8,8,8,8,8,8,8,8,8,8,8,8,8,8,8,8,8,8,8,8,8,8,8,8,8,8,8,8,8,8,8,8,8,8,8,8,8,8,8,8,8,8,8,8,8,8,8,8,8,8,8,8,8,8,8,8,8,8,8,8,8,8,8,8,8,8,8,8,8,8,8,8,8,8,8,8,8,8,8,8,8,8,8,8,8,8,8,8,8,8,8,8,8,8,8,8,8,8,8,8,8,8,8,8,8,8,8,8,8,8,8,8,8,8,8,8,8,8,8,8,8,8,8,8,8])[n]?).getD 0).toNat:Int)=_
 rw [h2]
set_option maxRecDepth 100000 in
theorem len64_r (n:Nat) (hn:n<18446744073709551616):∃ L:Nat,bits_Len64_r (n:Int)=(true,(L:Int))∧IsLen n L∧L≤64:=by
 have s1:∃ m k:Nat,(cond (decide ((n:Int)≥4294967296)) (iShr .u64 .u64 (n:Int) (32:Int)) (n:Int))=(m:Int)∧(cond (decide ((n:Int)≥4294967296)) (32:Int) 0)=(k:Int)∧m<4294967296∧k≤32∧∀ L,IsLen m L→IsLen n (L+k):=by
  by_cases h:(n:Int)≥4294967296
  ·refine ⟨n / 2 ^ 32,32,?_,?_,by omega,by omega,fun L hL=>isLen_shift hL (by omega)⟩
   ·simp only [decT h,cond_true]; exact shr_nat n 32 (by omega)
   ·simp only [decT h,cond_true]; rfl
  ·exact ⟨n,0,by simp only [decF h,cond_false],by simp only [decF h,cond_false]; rfl,by omega,by omega,fun L hL=>hL⟩
 obtain ⟨m,k,e1,e2,hm,hk,hf⟩:=s1
 have s2:∃ m' k':Nat,(cond (decide ((m:Int)≥65536)) (iShr .u64 .u64 (m:Int) (16:Int)) (m:Int))=(m':Int)∧(cond (decide ((m:Int)≥65536)) (IntKind.i64.wrap ((k:Int)+16)) (k:Int))=(k':Int)∧m'<65536∧k'≤48∧∀ L,IsLen m' L→IsLen n (L+k'):=by
  by_cases h:(m:Int)≥65536
  ·refine ⟨m / 2 ^ 16,k+16,?_,?_,by omega,by omega,fun L hL=> ?_⟩
   ·simp only [decT h,cond_true]; exact shr_nat m 16 (by omega)
   ·simp only [decT h,cond_true]; rw [wrap_i64 (by omega) (by omega)]; rfl
   ·have:=hf _ (isLen_shift hL (by omega))
    rw [show L+(k+16)=L+16+k by omega]; exact this
  ·exact ⟨m,k,by simp only [decF h,cond_false],by simp only [decF h,cond_false],by omega,by omega,hf⟩
 obtain ⟨m',k',e3,e4,hm',hk',hf'⟩:=s2
 have s3:∃ m2 k2:Nat,(cond (decide ((m':Int)≥256)) (iShr .u64 .u64 (m':Int) (8:Int)) (m':Int))=(m2:Int)∧(cond (decide ((m':Int)≥256)) (IntKind.i64.wrap ((k':Int)+8)) (k':Int))=(k2:Int)∧m2<256∧k2≤56∧∀ L,IsLen m2 L→IsLen n (L+k2):=by
  by_cases h:(m':Int)≥256
  ·refine ⟨m' / 2 ^ 8,k'+8,?_,?_,by omega,by omega,fun L hL=> ?_⟩
   ·simp only [decT h,cond_true]; exact shr_nat m' 8 (by omega)
   ·simp only [decT h,cond_true]; rw [wrap_i64 (by omega) (by omega)]; rfl
   ·have:=hf' _ (isLen_shift hL (by omega))
    rw [show L+(k'+8)=L+8+k' by omega]; exact this
  ·exact ⟨m',k',by simp only [decF h,cond_false],by simp only [decF h,cond_false],by omega,by omega,hf'⟩
 obtain ⟨m2,k2,e5,e6,hm2,hk2,hf2⟩:=s3
 obtain ⟨L,hL,hl1,hl2⟩:=tab_r m2 hm2
 have ht:=hl2 _ rfl
 refine ⟨L+k2,?_,hf2 L hl1,by omega⟩
 unfold bits_Len64_r
 simp only [e1,e2,e3,e4,e5,e6,u8_id m2 hm2,Int.toNat_natCast,ht.1,ht.2,decide_true,decT (show (0:Int)≤(m2:Int) by omega),decT (show (0:Int)≤32 by omega),decT (show (0:Int)≤16 by omega),decT (show (0:Int)≤8 by omega),Bool.and_true,Bool.cond_self]
 rw [wrap_i64 (x:=(L:Int)) (by omega) (by omega),wrap_i64 (by omega) (by omega)]
 rw [show (k2:Int)+(L:Int)=((L+k2:Nat):Int) by omega]
theorem len_r (n:Nat) (hn:n<18446744073709551616):∃ L:Nat,bits_Len_r (n:Int)=(true,(L:Int))∧IsLen n L∧L≤64:=by
 obtain ⟨L,e,h1,h2⟩:=len64_r n hn
 unfold bits_Len_r
 simp only [e,Bool.not_false,cond_true,cond_false,Bool.and_self]
 exact ⟨L,rfl,h1,h2⟩
theorem pow2_r (n:Nat) (h0:0<n) (hn:n≤1152921504606846976):∃ M:Nat,slices_nextPowerOfTwo_r (n:Int)=(true,(M:Int))∧0<M∧M≤2*n:=by
 obtain ⟨L,e,h1,h2⟩:=len_r n (by omega)
 have hM:0<2 ^ L∧2 ^ L≤2*n:=by
  refine ⟨Nat.two_pow_pos L,?_⟩
  rcases h1.2 with h | h
  ·subst h; simp; omega
  ·have:L≠0∨L=0:=by omega
   rcases this with hh | hh
   ·rw [show L=L - 1+1 by omega,Nat.pow_succ]; omega
   ·subst hh; simp; omega
 unfold slices_nextPowerOfTwo_r
 rw [u64_id n (by omega)]
 simp only [e,decT (show (0:Int)≤(L:Int) by omega),Bool.and_true]
 refine ⟨2 ^ L,?_,hM.1,hM.2⟩
 have:iShl .u64 .i64 (1:Int) (L:Int)=((2 ^ L:Nat):Int):=by
  show IntKind.u64.wrap (1*2 ^ (min ((L:Int)).toNat 64))=_
  rw [Int.toNat_natCast,Nat.min_eq_left h2,Int.one_mul,show ((2:Int) ^ L)=((2 ^ L:Nat):Int) by simp]
  exact u64_id _ (by omega)
 rw [this]
theorem next_r (s:Int):∃ r:Int,__slices_xorshift__Next_r s=(true,(r,r)):=by
 unfold __slices_xorshift__Next_r
 exact ⟨_,rfl⟩
theorem band_r (r:Int) (M:Nat) (hM:0<M) (hM2:M≤4611686018427387904):∃ x:Nat,IntKind.i64.wrap (iBand .u64 r (IntKind.u64.wrap ((M:Int) - 1)))=(x:Int)∧x<M:=by
 have hw:IntKind.u64.wrap ((M:Int) - 1)=((M - 1:Nat):Int):=by
  rw [show (M:Int) - 1=((M - 1:Nat):Int) by omega]; exact u64_id _ (by omega)
 rw [hw]
 have hx:(BitVec.ofInt 64 r &&& BitVec.ofInt 64 ((M - 1:Nat):Int)).toNat≤M - 1:=by
  rw [BitVec.toNat_and]
  refine Nat.le_trans Nat.and_le_right ?_
  rw [BitVec.ofInt_natCast,BitVec.toNat_ofNat]
  exact Nat.mod_le _ _
 refine ⟨(BitVec.ofInt 64 r &&& BitVec.ofInt 64 ((M - 1:Nat):Int)).toNat,?_,by omega⟩
 show IntKind.i64.wrap (IntKind.u64.wrap (((BitVec.ofInt 64 r &&& BitVec.ofInt 64 ((M - 1:Nat):Int)).toNat:Nat):Int))=_
 rw [u64_id _ (by omega),wrap_i64 (by omega) (by omega)]
theorem break_r (a b:Nat) (l:List Ed) (hab:a≤b) (hb:b≤l.length) (hbig:l.length≤1152921504606846976):
  ∃ m,slices_breakPatternsCmpFunc_api_Edge_r (a:Int) (b:Int) () l=(true,m)∧RP a b l m:=by
 have hwd:IntKind.i64.wrap ((b:Int) - (a:Int))=((b - a:Nat):Int):=by rw [wrap_i64 (by omega) (by omega)]; omega
 unfold slices_breakPatternsCmpFunc_api_Edge_r
 by_cases h8:((b - a:Nat):Int)≥8
 ·obtain ⟨M,eM,hM1,hM2⟩:=pow2_r (b - a) (by omega) (by omega)
  have hq:IntKind.i64.wrap (Int.tdiv ((b - a:Nat):Int) 4)=(((b - a) / 4:Nat):Int):=by
   rw [show Int.tdiv ((b - a:Nat):Int) 4=(((b - a) / 4:Nat):Int) from rfl,wrap_i64 (by omega) (by omega)]
  have hq2:IntKind.i64.wrap ((((b - a) / 4:Nat):Int)*2)=(((b - a) / 4*2:Nat):Int):=by
   rw [wrap_i64 (by omega) (by omega)]; omega
  have hq3:IntKind.i64.wrap ((a:Int)+(((b - a) / 4*2:Nat):Int))=((a+(b - a) / 4*2:Nat):Int):=by
   rw [wrap_i64 (by omega) (by omega)]; omega
  have hq4:IntKind.i64.wrap (((a+(b - a) / 4*2:Nat):Int) - 1)=((a+(b - a) / 4*2 - 1:Nat):Int):=by
   rw [wrap_i64 (by omega) (by omega)]; omega
  have hq5:IntKind.i64.wrap (((a+(b - a) / 4*2:Nat):Int)+1)=((a+(b - a) / 4*2+1:Nat):Int):=by
   rw [wrap_i64 (by omega) (by omega)]; omega
  generalize hlo:a+(b - a) / 4*2=lo at*
  have key:=loopR_by (d:=HL.dflt [.bool,(.fl (.row (.prod (.int .i64) (.prod (.int .i64) (.int .i64))))),.int .u64]) (step:=slices_breakPatternsCmpFunc_api_Edge_l0 (a:Int) (b:Int) () l)
   (fun s:Int × List Ed × Int × Unit=>∃ (i:Nat) (m:List Ed) (r:Int),s=((i:Int),m,r,())∧a≤i∧i≤lo+2∧RP a b l m) (fun s=>lo+2 - s.1.toNat)
   (fun r:Bool × List Ed × Int × Unit=>RP a b l r.2.1) (((lo - 1:Nat):Int),l,(IntKind.u64.wrap ((b - a:Nat):Int)),())
   ⟨lo - 1,l,_,rfl,by omega,by omega,RP.refl _ _ _⟩ (by
    rintro _ ⟨i,m,r,rfl,h1,h2,h3⟩
    have hlen:=h3.len
    obtain ⟨r',er⟩:=next_r r
    obtain ⟨x,ex,hx⟩:=band_r r' M hM1 (by omega)
    have hoth:∃ y:Nat,IntKind.i64.wrap ((a:Int)+cond (decide ((x:Int)≥((b - a:Nat):Int))) (IntKind.i64.wrap ((x:Int) - ((b - a:Nat):Int))) (x:Int))=(y:Int)∧a≤y∧y<b:=by
     by_cases hxx:(x:Int)≥((b - a:Nat):Int)
     ·refine ⟨a+(x - (b - a)),?_,by omega,by omega⟩
      simp only [decT hxx,cond_true]
      rw [wrap_i64 (x:=(x:Int) - ((b - a:Nat):Int)) (by omega) (by omega),wrap_i64 (by omega) (by omega)]
      omega
     ·refine ⟨a+x,?_,by omega,by omega⟩
      simp only [decF hxx,cond_false]
      rw [wrap_i64 (by omega) (by omega)]
      omega
    obtain ⟨y,ey,hy1,hy2⟩:=hoth
    unfold slices_breakPatternsCmpFunc_api_Edge_l0
    have hne:((4:Int) !=0)=true:=rfl
    by_cases hi:i≤lo+1
    ·have g1:(i:Int)≤((lo+1:Nat):Int):=by omega
     have hw:IntKind.i64.wrap ((i:Int)+1)=((i+1:Nat):Int):=by rw [wrap_i64 (by omega) (by omega)]; omega
     have hu:m[i]? =some (m[i]'(by omega)):=List.getElem?_eq_getElem (by omega)
     have hv:m[y]? =some (m[y]'(by omega)):=List.getElem?_eq_getElem (by omega)
     generalize m[i]'(by omega)=u at hu
     generalize m[y]'(by omega)=v at hv
     simp only [hwd,eM,hq,hq2,hq3,hq5,decT g1,er,ex,ey,hw,hne,Int.toNat_natCast,hu,hv,Option.getD_some,List.length_set,decT (show i<m.length by omega),decT (show y<m.length by omega),decT (show (0:Int)≤(i:Int) by omega),decT (show (0:Int)≤(y:Int) by omega),cond_true,Bool.and_true]
     exact ⟨trivial,fun _=>⟨⟨i+1,_,r',rfl,by omega,by omega,h3.trans (RP.swap' hu hv (by omega) (by omega) (by omega) (by omega))⟩,by
      show lo+2 - (((i+1:Nat):Int)).toNat<lo+2 - ((i:Int)).toNat
      omega⟩,fun h=>by cases h⟩
    ·have g1:¬ (i:Int)≤((lo+1:Nat):Int):=by omega
     simp only [hwd,eM,hq,hq2,hq3,hq5,decF g1,hne,cond_false,Bool.and_true]
     exact ⟨trivial,fun h=>(by cases h),fun _=>h3⟩)
  simp only [loopD_eq,hwd,eM,hq,hq2,hq3,hq4,decT h8,cond_true,show ((4:Int) !=0)=true from rfl,Bool.true_and]
  exact ⟨_,Prod.ext key.1 rfl,key.2⟩
 ·simp only [hwd,decF h8,cond_false]
  exact ⟨l,rfl,RP.refl _ _ _⟩
end Go.Proofs.Ytfeepbajipdfaaa.T
namespace Go.Proofs.Ytfeepbajipdfaaa.T
open Go.Vm Go.Tm
set_option linter.unusedVariables false
set_option linter.unusedSimpArgs false
def Pend (a0 a b b0:Nat) (m:List Ed):Prop:=∀ p q x y,a0≤p→p<q→q<b0→(p<a∨b≤q)→m[p]? =some x→m[q]? =some y→¬ lt y x
theorem Pend.start (a b:Nat) (m:List Ed):Pend a a b b m:=fun p q x y h1 h2 h3 h4=>by omega
theorem Pend.keep {a0 a b b0:Nat} {m m':List Ed} (ha:a0≤a) (hb:b≤b0) (h:Pend a0 a b b0 m) (hr:RP a b m m'):Pend a0 a b b0 m':=by
 intro p q x y h1 h2 h3 h4 hx hy
 rcases h4 with h4 | h4
 ·rw [hr.out p (.inl h4)] at hx
  by_cases hq:a≤q∧q<b
  ·exact hr.all (P:=fun y=>¬ lt y x) (fun j z k1 k2 k3=>h p j x z h1 (by omega) (by omega) (.inl h4) hx k3) q y hq.1 hq.2 hy
  ·rw [hr.out q (by omega)] at hy
   exact h p q x y h1 h2 h3 (.inl h4) hx hy
 ·rw [hr.out q (.inr h4)] at hy
  by_cases hp:a≤p∧p<b
  ·exact hr.all (P:=fun x=>¬ lt y x) (fun j z k1 k2 k3=>h j q z y (by omega) (by omega) h3 (.inr h4) k3 hy) p x hp.1 hp.2 hx
  ·rw [hr.out p (by omega)] at hx
   exact h p q x y h1 h2 h3 (.inr h4) hx hy
theorem Pend.done {a0 a b b0:Nat} {m:List Ed} (h:Pend a0 a b b0 m) (ho:InOrder lt a b m):InOrder lt a0 b0 m:=by
 intro p q x y h1 h2 h3 hx hy
 by_cases hh:p<a∨b≤q
 ·exact h p q x y h1 h2 h3 hh hx hy
 ·exact ho p q x y (by omega) h2 (by omega) hx hy
theorem Split.keepL {a k b:Nat} {m m':List Ed} {p:Ed} (h:Split a k b m p) (hr:RP a k m m'):Split a k b m' p:=
 ⟨by rw [hr.out k (.inr (Nat.le_refl _))]; exact h.at',fun i x h1 h2 h3=>hr.all (P:=fun x=>lt x p) h.left i x h1 h2 h3,fun i x h1 h2 h3=>by
  rw [hr.out i (.inr (by omega))] at h3; exact h.right i x h1 h2 h3⟩
theorem Split.keepR {a k b:Nat} {m m':List Ed} {p:Ed} (h:Split a k b m p) (hr:RP (k+1) b m m'):Split a k b m' p:=
 ⟨by rw [hr.out k (.inl (by omega))]; exact h.at',fun i x h1 h2 h3=>by
  rw [hr.out i (.inl (by omega))] at h3; exact h.left i x h1 h2 h3,fun i x h1 h2 h3=>hr.all (P:=fun x=>¬ lt x p) (fun j z k1 k2 k3=>h.right j z (by omega) k2 k3) i x (by omega) h2 h3⟩
theorem Pend.left {a0 a k b b0:Nat} {m:List Ed} {p:Ed} (h:Pend a0 a b b0 m) (hs:Split a k b m p) (ho:InOrder lt a k m):Pend a0 (k+1) b b0 m:=by
 intro i j x y h1 h2 h3 h4 hx hy
 by_cases hh:i<a∨b≤j
 ·exact h i j x y h1 h2 h3 hh hx hy
 ·have hik:i≤k:=by omega
  have key:∀ z,m[i]? =some z→i=k→z=p:=fun z hz hi=>by
   subst hi; rw [hs.at'] at hz; injection hz with hz; exact hz.symm
  rcases Nat.lt_or_ge j k with hj | hj
  ·exact ho i j x y (by omega) h2 hj hx hy
  ·by_cases hjk:j=k
   ·subst hjk
    rw [hs.at'] at hy; injection hy with hy; subst hy
    exact lt_asym _ _ (hs.left i x (by omega) (by omega) hx)
   ·have hyp:=hs.right j y (by omega) (by omega) hy
    by_cases hi:i=k
    ·rw [key x hx hi]; exact hyp
    ·exact le_trans' x p y (lt_asym _ _ (hs.left i x (by omega) (by omega) hx)) hyp
theorem Pend.right {a0 a k b b0:Nat} {m:List Ed} {p:Ed} (h:Pend a0 a b b0 m) (hs:Split a k b m p) (ho:InOrder lt (k+1) b m):Pend a0 a k b0 m:=by
 intro i j x y h1 h2 h3 h4 hx hy
 by_cases hh:i<a∨b≤j
 ·exact h i j x y h1 h2 h3 hh hx hy
 ·rcases Nat.lt_or_ge k i with hi | hi
  ·exact ho i j x y (by omega) h2 (by omega) hx hy
  ·by_cases hik:i=k
   ·subst hik
    rw [hs.at'] at hx; injection hx with hx; subst hx
    exact hs.right j y (by omega) (by omega) hy
   ·have hxp:=lt_asym _ _ (hs.left i x (by omega) (by omega) hx)
    by_cases hjk:j=k
    ·subst hjk
     rw [hs.at'] at hy; injection hy with hy; subst hy
     exact hxp
    ·exact le_trans' x p y hxp (hs.right j y (by omega) (by omega) hy)
theorem Pend.equal {a0 a k b b0:Nat} {m:List Ed} {p z:Ed} (h:Pend a0 a b b0 m) (ha:0<a) (hz:m[a - 1]? =some z) (hlow:Low a b m) (hpz:¬ lt z p) (hs:PartAt (fun x=>¬ lt p x) a k k b m):Pend a0 k b b0 m:=by
 intro i j x y h1 h2 h3 h4 hx hy
 by_cases hh:i<a∨b≤j
 ·exact h i j x y h1 h2 h3 hh hx hy
 ·have hlx:¬ lt z x:=le_trans' x p z (hs.left i x (by omega) (by omega) hx) hpz
  have hly:¬ lt y z:=by
   rcases hlow with h0 | h0
   ·omega
   ·exact h0 j y z (by omega) (by omega) hy hz
  exact le_trans' x z y hlx hly
theorem InOrder_pair {a b:Nat} {m:List Ed} (h:InOrder lt a b m):((m.take b).drop a).Pairwise (fun x y=>¬ lt y x):=by
 rw [List.pairwise_iff_getElem]
 intro i j hi hj hij
 simp only [List.length_drop,List.length_take] at hi hj
 rw [List.getElem_drop,List.getElem_drop,List.getElem_take,List.getElem_take]
 exact h (a+i) (a+j) _ _ (by omega) (by omega) (by omega) (List.getElem?_eq_getElem (by omega)) (List.getElem?_eq_getElem (by omega))
theorem sorted_one {a b:Nat} {l v w:List Ed} (hab:a≤b) (hv:RP a b l v) (hw:RP a b l w) (ov:InOrder lt a b v) (ow:InOrder lt a b w):v=w:=by
 have hm:(v.take b).drop a=(w.take b).drop a:=perm_sorted_eq (R:=fun x y=>¬ lt y x) (fun x y h1 h2=>le_anti x y h1 h2) ((hv.mid hab).trans (hw.mid hab).symm) (InOrder_pair ov) (InOrder_pair ow)
 apply List.ext_getElem?
 intro i
 by_cases hi:a≤i∧i<b
 ·have:=congrArg (fun l=>l[i - a]?) hm
  simp only [List.getElem?_drop,List.getElem?_take] at this
  rw [show a+(i - a)=i by omega,if_pos hi.2,if_pos hi.2] at this
  exact this
 ·rw [hv.out i (by omega),hw.out i (by omega)]
abbrev PqIn:=HL slices_pdqsortCmpFunc_api_Edge_e.ins
def PqI (x:Int × Int × Int × Unit × List Ed × Unit):Prop:=∃ (a b:Nat) (lim:Int) (l:List Ed),x=((a:Int),(b:Int),lim,(),l,())∧a≤b∧b≤l.length∧l.length≤1152921504606846976∧Low a b l
def PqP (x:Int × Int × Int × Unit × List Ed × Unit) (v:List Ed × Unit):Prop:=RP x.1.toNat x.2.1.toNat x.2.2.2.2.1 v.1∧InOrder lt x.1.toNat x.2.1.toNat v.1
end Go.Proofs.Ytfeepbajipdfaaa.T
namespace Go.Proofs.Ytfeepbajipdfaaa.T
open Go.Vm Go.Tm
set_option linter.unusedVariables false
set_option linter.unusedSimpArgs false
theorem pdq_round (g:(Int × Int × Int × Unit × List Ed × Unit)→Bool × (List Ed × Unit)) (a0 b0:Nat) (A1 A2 A3:Int) (L l:List Ed) (hb0:b0≤l.length) (hbig:l.length≤1152921504606846976)
  (hg:∀ y,PqI y→y.2.1.toNat - y.1.toNat<b0 - a0→(g y).1=true∧PqP y (g y).2)
  (a b:Nat) (wp wb:Bool) (lim:Int) (m:List Ed) (h1:a0≤a) (h2:a≤b) (h3:b≤b0) (h4:RP a0 b0 l m) (h5:Pend a0 a b b0 m) (h6:Low a b m):
  (slices_pdqsortCmpFunc_api_Edge_s_l0 g A1 A2 A3 () L ((b:Int),(a:Int),wp,wb,lim,m,())).1=true∧
  ((slices_pdqsortCmpFunc_api_Edge_s_l0 g A1 A2 A3 () L ((b:Int),(a:Int),wp,wb,lim,m,())).2.1=true→
   ∃ (a' b':Nat) (wp' wb':Bool) (lim':Int) (m':List Ed),(slices_pdqsortCmpFunc_api_Edge_s_l0 g A1 A2 A3 () L ((b:Int),(a:Int),wp,wb,lim,m,())).2.2.1=((b':Int),(a':Int),wp',wb',lim',m',())∧a0≤a'∧a'≤b'∧b'≤b0∧b' - a'<b - a∧RP a0 b0 l m'∧Pend a0 a' b' b0 m'∧Low a' b' m')∧
  ((slices_pdqsortCmpFunc_api_Edge_s_l0 g A1 A2 A3 () L ((b:Int),(a:Int),wp,wb,lim,m,())).2.1=false→
   RP a0 b0 l (slices_pdqsortCmpFunc_api_Edge_s_l0 g A1 A2 A3 () L ((b:Int),(a:Int),wp,wb,lim,m,())).2.2.2.2.1∧InOrder lt a0 b0 (slices_pdqsortCmpFunc_api_Edge_s_l0 g A1 A2 A3 () L ((b:Int),(a:Int),wp,wb,lim,m,())).2.2.2.2.1):=by
 have hlen:=h4.len
 have hwd:IntKind.i64.wrap ((b:Int) - (a:Int))=((b - a:Nat):Int):=by rw [wrap_i64 (by omega) (by omega)]; omega
 unfold slices_pdqsortCmpFunc_api_Edge_s_l0
 by_cases h12:((b - a:Nat):Int)≤12
 ·obtain ⟨m',e1,e2,e3⟩:=ins_r a b m (by omega) h2 (by omega)
  simp only [hwd,decT h12,e1,Bool.not_true,Bool.not_false,Bool.false_and,Bool.or_false,cond_true,cond_false,Bool.and_true]
  exact ⟨trivial,fun h=>(by cases h),fun _=>⟨h4.trans (e2.mono h1 h3),(h5.keep h1 h3 e2).done e3⟩⟩
 ·by_cases hl:lim=0
  ·subst hl
   obtain ⟨m',e1,e2,e3⟩:=heap_r a b m (by omega) h2 (by omega)
   simp only [hwd,decF h12,beq_self_eq_true,e1,Bool.not_true,Bool.not_false,Bool.false_and,Bool.and_false,Bool.or_false,cond_true,cond_false,Bool.and_true,Bool.true_and]
   exact ⟨trivial,fun h=>(by cases h),fun _=>⟨h4.trans (e2.mono h1 h3),(h5.keep h1 h3 e2).done e3⟩⟩
  ·
   have s1:∃ m1,cond (!wb) (slices_breakPatternsCmpFunc_api_Edge_r (a:Int) (b:Int) () m).2 m=m1∧cond (!wb) (slices_breakPatternsCmpFunc_api_Edge_r (a:Int) (b:Int) () m).1 true=true∧RP a b m m1:=by
    obtain ⟨m',e1,e2⟩:=break_r a b m h2 (by omega) (by omega)
    cases wb
    ·exact ⟨m',by rw [e1]; rfl,by rw [e1]; rfl,e2⟩
    ·exact ⟨m,rfl,rfl,RP.refl _ _ _⟩
   obtain ⟨m1,e1,e1',r1⟩:=s1
   have hl1:=r1.len
   obtain ⟨k,hint,e2,k1,k2⟩:=pivot_r a b m1 (by omega) (by omega) (by omega)
   have s3:∃ m2,cond (hint==2) (slices_reverseRangeCmpFunc_api_Edge_r (a:Int) (b:Int) () m1).2 m1=m2∧cond (hint==2) (slices_reverseRangeCmpFunc_api_Edge_r (a:Int) (b:Int) () m1).1 true=true∧RP a b m1 m2:=by
    obtain ⟨m',e1,e2⟩:=rev_r a b m1 (by omega) h2 (by omega)
    cases hint==2
    ·exact ⟨m1,rfl,rfl,RP.refl _ _ _⟩
    ·exact ⟨m',by rw [e1]; rfl,by rw [e1]; rfl,e2⟩
   obtain ⟨m2,e3,e3',r2⟩:=s3
   have hl2:=r2.len
   have s4:∃ pv:Nat,cond (hint==2) (IntKind.i64.wrap (IntKind.i64.wrap ((b:Int) - 1) - IntKind.i64.wrap ((k:Int) - (a:Int)))) (k:Int)=(pv:Int)∧a≤pv∧pv<b:=by
    cases hint==2
    ·exact ⟨k,rfl,k1,k2⟩
    ·refine ⟨b - 1 - (k - a),?_,by omega,by omega⟩
     rw [wrap_i64 (x:=(b:Int) - 1) (by omega) (by omega),wrap_i64 (x:=(k:Int) - (a:Int)) (by omega) (by omega),cond_true,wrap_i64 (by omega) (by omega)]
     omega
   obtain ⟨pv,e4,pv1,pv2⟩:=s4
   have low2:Low a b m2:=h6.of (r1.trans r2)
   obtain ⟨c,m3,e5,r3,o3⟩:=pis_r a b m2 (by omega) (by omega) (by omega) low2
   have hl3:=r3.len
   simp only [hwd,decF h12,beqI hl,e1,e1',e2,e3,e3',e4,e5,Bool.not_true,Bool.not_false,cond_true,cond_false,Bool.and_true,Bool.true_and,Bool.and_self,Bool.cond_self]
   generalize ht:cond (cond wb wp false) (cond (hint==2) (1:Int) hint==1) false=t
   by_cases hct:(c && t)=true
   ·
    simp only [Bool.and_eq_true] at hct
    obtain ⟨rfl,rfl⟩:=hct
    simp only [cond_true,cond_false,Bool.not_true,Bool.false_and,Bool.and_false,Bool.or_false,Bool.and_true,Bool.cond_self,Bool.or_self]
    exact ⟨by cases wb<;>cases wp<;>rfl,fun h=>(by cases h),fun _=>⟨h4.trans ((r1.trans (r2.trans r3)).mono h1 h3),(h5.keep h1 h3 (r1.trans (r2.trans r3))).done (o3 rfl)⟩⟩
   ·have hgo:cond t (!c) true=true:=by cases c<;>cases t<;>simp_all
    have hcf:(c && t)=false:=by simpa using hct
    have s6:∃ m4,cond t m3 m2=m4∧RP a b m2 m4:=by
     cases t
     ·exact ⟨m2,rfl,RP.refl _ _ _⟩
     ·exact ⟨m3,rfl,r3⟩
    obtain ⟨m4,e6,r4⟩:=s6
    have hl4:=r4.len
    have rr:RP a b m m4:=r1.trans (r2.trans r4)
    have low4:Low a b m4:=h6.of rr
    have pend4:=h5.keep h1 h3 rr
    have hp:m4[pv]? =some (m4[pv]'(by omega)):=List.getElem?_eq_getElem (by omega)
    generalize m4[pv]'(by omega)=p at hp
    simp only [hgo,hcf,e6,Int.toNat_natCast,hp,Option.getD_some,edge_Compare_eq,cond_true,Bool.and_true,Bool.true_and,Bool.cond_self]
    have hT:∀ x:Bool,cond x x true=true:=fun x=>by cases x<;>rfl
    have fin:∀ (hq:¬ ((a:Int)>0∧¬ edgeCmp ((m4[((IntKind.i64.wrap ((a:Int) - 1))).toNat]?).getD (0,0,0)) p<0)),cond (decide ((a:Int)>0)) (!decide (edgeCmp ((m4[((IntKind.i64.wrap ((a:Int) - 1))).toNat]?).getD (0,0,0)) p<0)) false=false:=fun hq=>by
     by_cases ha:(a:Int)>0
     ·simp only [decT ha,cond_true]
      by_cases hh:edgeCmp ((m4[((IntKind.i64.wrap ((a:Int) - 1))).toNat]?).getD (0,0,0)) p<0
      ·simp only [decT hh,Bool.not_true]
      ·exact absurd ⟨ha,hh⟩ hq
     ·simp only [decF ha,cond_false]
    by_cases hq:(a:Int)>0∧¬ edgeCmp ((m4[((IntKind.i64.wrap ((a:Int) - 1))).toNat]?).getD (0,0,0)) p<0
    ·obtain ⟨ha,hcmp⟩:=hq
     obtain ⟨kq,mq,f1,f2,f3,f4,f5⟩:=peq_r a b pv m4 pv1 pv2 (by omega) (by omega) p hp
     have hw1:IntKind.i64.wrap ((a:Int) - 1)=((a - 1:Nat):Int):=by rw [wrap_i64 (by omega) (by omega)]; omega
     rw [hw1] at hcmp ⊢
     have hz:m4[a - 1]? =some (m4[a - 1]'(by omega)):=List.getElem?_eq_getElem (by omega)
     generalize m4[a - 1]'(by omega)=z at hz
     rw [Int.toNat_natCast,hz,Option.getD_some] at hcmp
     simp only [decT ha,Int.toNat_natCast,hz,Option.getD_some,decF hcmp,f1,cond_true,cond_false,Bool.not_false,Bool.not_true,Bool.and_false,Bool.and_true,Bool.true_and,Bool.false_or,Bool.false_and,decT (show a - 1<m4.length by omega),decT (show pv<m4.length by omega),decT (show (0:Int)≤((a - 1:Nat):Int) by omega),decT (show (0:Int)≤(pv:Int) by omega),Bool.cond_self,hT,Bool.and_self]
     refine ⟨trivial,fun _=>⟨kq,b,_,_,_,mq,rfl,by omega,f3,h3,by omega,h4.trans ((rr.trans f4).mono h1 h3),?_,?_⟩,fun h=>by cases h⟩
     ·exact ((pend4.keep h1 h3 f4).equal (by omega) (by rw [f4.out (a - 1) (.inl (by omega))]; exact hz) (low4.of f4) hcmp f5)
     ·refine .inr fun i x u k1 k2 k3 k4=> ?_
      exact ((Pend.start a b mq).equal (by omega) (by rw [f4.out (a - 1) (.inl (by omega))]; exact hz) (low4.of f4) hcmp f5) (kq - 1) i u x (by omega) (by omega) k2 (.inl (by omega)) k4 k3
    ·have hqf:=fin hq
     obtain ⟨kp,done,mp,p',f1,f2,f3,f4,f5⟩:=part_r a b pv m4 pv1 pv2 (by omega) (by omega)
     have hl5:=f4.len
     have lowp:=low4.of f4
     have pendp:=pend4.keep h1 h3 f4
     have hwl:IntKind.i64.wrap ((kp:Int) - (a:Int))=((kp - a:Nat):Int):=by rw [wrap_i64 (by omega) (by omega)]; omega
     have hwr:IntKind.i64.wrap ((b:Int) - (kp:Int))=((b - kp:Nat):Int):=by rw [wrap_i64 (by omega) (by omega)]; omega
     have hwk:IntKind.i64.wrap ((kp:Int)+1)=((kp+1:Nat):Int):=by rw [wrap_i64 (by omega) (by omega)]; omega
     have hchk:∀ x:Bool,cond (decide ((a:Int)>0)) (decide ((a:Int)>0) && (decide ((a:Int)>0) && (decide (0≤IntKind.i64.wrap ((a:Int) - 1)) && decide ((IntKind.i64.wrap ((a:Int) - 1)).toNat<m4.length)))) true=true:=fun _=>by
      by_cases ha:(a:Int)>0
      ·have hw1:IntKind.i64.wrap ((a:Int) - 1)=((a - 1:Nat):Int):=by rw [wrap_i64 (by omega) (by omega)]; omega
       simp only [decT ha,hw1,Int.toNat_natCast,decT (show a - 1<m4.length by omega),decT (show (0:Int)≤((a - 1:Nat):Int) by omega),cond_true,Bool.and_self]
      ·simp only [decF ha,cond_false]
     have hchk2:cond (decide ((a:Int)>0)) (decide ((a:Int)>0) && decide ((IntKind.i64.wrap ((a:Int) - 1)).toNat<m4.length)) true=true:=by
      by_cases ha:(a:Int)>0
      ·have hw1:IntKind.i64.wrap ((a:Int) - 1)=((a - 1:Nat):Int):=by rw [wrap_i64 (by omega) (by omega)]; omega
       simp only [decT ha,hw1,Int.toNat_natCast,decT (show a - 1<m4.length by omega),cond_true,Bool.and_self]
      ·simp only [decF ha,cond_false]
     have hT2:∀ x:Bool,cond x (x && (x && true)) true=true:=fun x=>by cases x<;>rfl
     have hT3:∀ x:Bool,cond x (x && x) true=true:=fun x=>by cases x<;>rfl
     have hT4:∀ x:Bool,cond x (x && (x && x)) true=true:=fun x=>by cases x<;>rfl
     by_cases hlr:((kp - a:Nat):Int)<((b - kp:Nat):Int)
     ·have hI:PqI ((a:Int),(kp:Int),cond (!wb) (IntKind.i64.wrap (lim - 1)) lim,(),mp,()):=⟨a,kp,_,mp,rfl,f2,by omega,by omega,by
       rcases lowp with h0 | h0
       ·exact .inl h0
       ·exact .inr fun i x z k1 k2 k3 k4=>h0 i x z k1 (by omega) k3 k4⟩
      obtain ⟨g1,g2,g3⟩:=hg _ hI (by show (kp:Int).toNat - (a:Int).toNat<b0 - a0; omega)
      simp only [Int.toNat_natCast] at g2 g3
      simp only [hqf,f1,hwl,hwr,hwk,decT hlr,g1,hchk true,hchk2,hT,hT2,hT3,hT4,cond_true,cond_false,Bool.not_false,Bool.not_true,Bool.and_true,Bool.true_and,Bool.and_false,Bool.or_false,decT (show pv<m4.length by omega),decT (show (0:Int)≤(pv:Int) by omega),Bool.and_self,show ((8:Int) !=0)=true from rfl]
      refine ⟨g1,fun _=>⟨kp+1,b,_,_,_,_,rfl,by omega,by omega,h3,by omega,h4.trans (((rr.trans f4).trans (g2.mono (Nat.le_refl _) (by omega))).mono h1 h3),?_,?_⟩,fun h=>by cases h⟩
      ·exact (pendp.keep h1 h3 (g2.mono (Nat.le_refl _) (by omega))).left (f5.keepL g2) g3
      ·refine .inr fun i x u k1 k2 k3 k4=> ?_
       have hs:=f5.keepL g2
       have hu:u=p':=Option.some.inj (k4.symm.trans hs.at')
       rw [hu]
       exact hs.right i x (by omega) k2 k3
     ·have hI:PqI (((kp+1:Nat):Int),(b:Int),cond (!wb) (IntKind.i64.wrap (lim - 1)) lim,(),mp,()):=⟨kp+1,b,_,mp,rfl,by omega,by omega,by omega,.inr fun i x u k1 k2 k3 k4=>by
       rw [show kp+1 - 1=kp by omega,f5.at'] at k4
       injection k4 with k4; subst k4
       exact f5.right i x (by omega) k2 k3⟩
      obtain ⟨g1,g2,g3⟩:=hg _ hI (by show (b:Int).toNat - ((kp+1:Nat):Int).toNat<b0 - a0; omega)
      simp only [Int.toNat_natCast] at g2 g3
      simp only [hqf,f1,hwl,hwr,hwk,decF hlr,g1,hchk true,hchk2,hT,hT2,hT3,hT4,cond_true,cond_false,Bool.not_false,Bool.not_true,Bool.and_true,Bool.true_and,Bool.and_false,Bool.or_false,decT (show pv<m4.length by omega),decT (show (0:Int)≤(pv:Int) by omega),Bool.and_self,show ((8:Int) !=0)=true from rfl]
      refine ⟨g1,fun _=>⟨a,kp,_,_,_,_,rfl,by omega,by omega,by omega,by omega,h4.trans (((rr.trans f4).trans (g2.mono (by omega) (Nat.le_refl _))).mono h1 h3),?_,?_⟩,fun h=>by cases h⟩
      ·exact (pendp.keep h1 h3 (g2.mono (by omega) (Nat.le_refl _))).right (f5.keepR g2) g3
      ·have lowq:=lowp.of (g2.mono (by omega) (Nat.le_refl _))
       rcases lowq with h0 | h0
       ·exact .inl h0
       ·exact .inr fun i x z k1 k2 k3 k4=>h0 i x z k1 (by omega) k3 k4
end Go.Proofs.Ytfeepbajipdfaaa.T
namespace Go.Proofs.Ytfeepbajipdfaaa.T
open Go.Vm Go.Tm
set_option linter.unusedVariables false
set_option linter.unusedSimpArgs false
theorem pq_uniq (x:Int × Int × Int × Unit × List Ed × Unit) (v w:List Ed × Unit) (hI:PqI x) (hv:PqP x v) (hw:PqP x w):v=w:=by
 obtain ⟨a,b,lim,l,rfl,h1,h2,h3,h4⟩:=hI
 obtain ⟨k1,k2⟩:=hv
 obtain ⟨k3,k4⟩:=hw
 exact Prod.ext (sorted_one (show (a:Int).toNat≤(b:Int).toNat by omega) k1 k3 k2 k4) rfl
noncomputable def pqS (g:(Int × Int × Int × Unit × List Ed × Unit)→Bool × (List Ed × Unit)) (x:Int × Int × Int × Unit × List Ed × Unit):Bool × (List Ed × Unit):=slices_pdqsortCmpFunc_api_Edge_s g x
theorem pqS_eq (g:(Int × Int × Int × Unit × List Ed × Unit)→Bool × (List Ed × Unit)) (a b:Nat) (lim:Int) (l:List Ed):pqS g ((a:Int),(b:Int),lim,(),l,())=
  ((loopR (HL.dflt [.bool,(.fl (.row (.prod (.int .i64) (.prod (.int .i64) (.int .i64)))))]) (slices_pdqsortCmpFunc_api_Edge_s_l0 g (a:Int) (b:Int) lim () l) ((b:Int),(a:Int),true,true,lim,l,())).1,
   ((loopR (HL.dflt [.bool,(.fl (.row (.prod (.int .i64) (.prod (.int .i64) (.int .i64)))))]) (slices_pdqsortCmpFunc_api_Edge_s_l0 g (a:Int) (b:Int) lim () l) ((b:Int),(a:Int),true,true,lim,l,())).2.2.1,())):=rfl
theorem pq_step (g:(Int × Int × Int × Unit × List Ed × Unit)→Bool × (List Ed × Unit)) (x:Int × Int × Int × Unit × List Ed × Unit) (hI:PqI x)
  (hg:∀ y,PqI y→y.2.1.toNat - y.1.toNat<x.2.1.toNat - x.1.toNat→(g y).1=true∧PqP y (g y).2):(pqS g x).1=true∧PqP x (pqS g x).2:=by
 obtain ⟨a,b,lim,l,rfl,h1,h2,h3,h4⟩:=hI
 simp only [Int.toNat_natCast] at hg
 rw [pqS_eq]
 have key:=loopR_by (d:=HL.dflt [.bool,(.fl (.row (.prod (.int .i64) (.prod (.int .i64) (.int .i64)))))]) (step:=slices_pdqsortCmpFunc_api_Edge_s_l0 g (a:Int) (b:Int) lim () l)
  (fun s:Int × Int × Bool × Bool × Int × List Ed × Unit=>∃ (a' b':Nat) (wp' wb':Bool) (lim':Int) (m':List Ed),s=((b':Int),(a':Int),wp',wb',lim',m',())∧a≤a'∧a'≤b'∧b'≤b∧RP a b l m'∧Pend a a' b' b m'∧Low a' b' m')
  (fun s=>s.1.toNat - s.2.1.toNat) (fun r:Bool × List Ed × Unit=>RP a b l r.2.1∧InOrder lt a b r.2.1) ((b:Int),(a:Int),true,true,lim,l,())
  ⟨a,b,true,true,lim,l,rfl,Nat.le_refl _,h1,Nat.le_refl _,RP.refl _ _ _,Pend.start a b l,h4⟩ (by
   rintro _ ⟨a',b',wp,wb,lim',m,rfl,k1,k2,k3,k4,k5,k6⟩
   obtain ⟨r1,r2,r3⟩:=pdq_round g a b (a:Int) (b:Int) lim l l h2 h3 hg a' b' wp wb lim' m k1 k2 k3 k4 k5 k6
   generalize slices_pdqsortCmpFunc_api_Edge_s_l0 g (a:Int) (b:Int) lim () l ((b':Int),(a':Int),wp,wb,lim',m,())=z at r1 r2 r3 ⊢
   obtain ⟨z1,z2,z3,z4⟩:=z
   refine ⟨r1,fun h=> ?_,r3⟩
   obtain ⟨a2,b2,wp2,wb2,lim2,m2,e,q1,q2,q3,q4,q5,q6,q7⟩:=r2 h
   have e:z3=_:=e
   subst e
   exact ⟨⟨a2,b2,wp2,wb2,lim2,m2,rfl,q1,q2,q3,q5,q6,q7⟩,by
    show (b2:Int).toNat - (a2:Int).toNat<(b':Int).toNat - (a':Int).toNat
    omega⟩)
 refine ⟨key.1,?_⟩
 unfold PqP
 simp only [Int.toNat_natCast]
 exact key.2
theorem pdq_r (l:List Ed) (lim:Int) (hbig:l.length≤1152921504606846976):∃ m,slices_pdqsortCmpFunc_api_Edge_r (0:Int) (l.length:Int) lim () l=(true,m)∧m.Perm l∧InOrder lt 0 l.length m:=by
 have key:=recF_rel (e:=slices_pdqsortCmpFunc_api_Edge_e) (step:=slices_pdqsortCmpFunc_api_Edge_s) PqI (fun x:Int × Int × Int × Unit × List Ed × Unit=>x.2.1.toNat - x.1.toNat) PqP pq_uniq pq_step
  ((0:Int),(l.length:Int),lim,(),l,()) ⟨0,l.length,lim,l,rfl,Nat.zero_le _,Nat.le_refl _,hbig,.inl rfl⟩
 obtain ⟨k1,k2,k3⟩:=key
 unfold slices_pdqsortCmpFunc_api_Edge_r
 exact ⟨_,Prod.ext k1 rfl,k2.perm,k3⟩
def Sorted (l:List Ed):Prop:=l.Pairwise (fun x y=>¬ lt y x)
theorem sortFunc_r (l:List Ed) (hbig:l.length≤1152921504606846976):∃ m,slices_SortFunc_api_Edge_r () l=(true,m)∧m.Perm l∧Sorted m:=by
 obtain ⟨L,e,h1,h2⟩:=len_r l.length (by omega)
 obtain ⟨m,e2,h3,h4⟩:=pdq_r l (L:Int) hbig
 unfold slices_SortFunc_api_Edge_r
 rw [u64_id _ (by omega)]
 simp only [e,e2,Bool.and_self]
 refine ⟨m,rfl,h3,?_⟩
 have:=InOrder_pair h4
 rw [← h3.length_eq,List.take_length,List.drop_zero] at this
 exact this
theorem sorted_unique {l m k:List Ed} (h1:m.Perm l) (h2:k.Perm l) (h3:Sorted m) (h4:Sorted k):m=k:=
 perm_sorted_eq (R:=fun x y=>¬ lt y x) (fun x y a b=>le_anti x y a b) (h1.trans h2.symm) h3 h4
def May (e:Ed):Prop:=1≤e.1∧e.1≤64∧1≤e.2.1∧e.2.1≤64∧e.1<e.2.1∧0≤e.2.2∧e.2.2≤2147483647
instance (e:Ed):Decidable (May e):=by unfold May; exact inferInstance
def Apart (a b:Ed):Prop:=¬ (a.1=b.1∧a.2.1=b.2.1)
instance (a b:Ed):Decidable (Apart a b):=by unfold Apart; exact inferInstance
def AllMay (l:List Ed):Prop:=(∀ e∈l,May e)∧l.Pairwise Apart
instance (l:List Ed):Decidable (AllMay l):=by unfold AllMay; exact inferInstance
def chk (l:List Ed):Int:=if AllMay l then (if l.length>512 then 3 else 0) else 1
theorem refNode_r (n:Int):withyref05_Node_r n=(true,decide (1≤n∧n≤64)):=by
 unfold withyref05_Node_r
 by_cases h1:1≤n<;>simp [h1]
theorem refMay_r (e:Ed):withyref05_May_r e=(true,decide (May e)):=by
 unfold withyref05_May_r May
 simp only [refNode_r]
 by_cases h1:1≤e.1∧e.1≤64<;>by_cases h2:1≤e.2.1∧e.2.1≤64<;>by_cases h3:e.1<e.2.1<;>by_cases h4:0≤e.2.2<;>simp [h1,h2,h3,h4]<;>omega
theorem edgeCheck_r (e:Ed):edge_Check_r e=(true,if May e then 0 else 1):=by
 unfold edge_Check_r May
 simp only [node_r]
 by_cases h1:1≤e.1∧e.1≤64<;>by_cases h2:1≤e.2.1∧e.2.1≤64<;>by_cases h3:e.2.1≤e.1<;>by_cases h4:e.2.2<0<;>by_cases h5:2147483647<e.2.2<;>simp [h1,h2,h3,h4,h5]<;>omega
theorem allMay_step {l:List Ed} {i:Nat} (hi:i<l.length):AllMay (l.take (i+1))↔AllMay (l.take i)∧May l[i]∧∀ e∈l.take i,Apart e l[i]:=by
 have e:l.take (i+1)=l.take i++ [l[i]]:=by rw [List.take_add_one,List.getElem?_eq_getElem hi]; rfl
 rw [e]
 unfold AllMay
 rw [List.pairwise_append]
 constructor
 ·rintro ⟨h1,h2,h3,h4⟩
  exact ⟨⟨fun e he=>h1 e (List.mem_append_left _ he),h2⟩,h1 _ (List.mem_append_right _ (.head _)),fun e he=>h4 e he _ (.head _)⟩
 ·rintro ⟨⟨h1,h2⟩,h3,h4⟩
  refine ⟨fun e he=> ?_,h2,List.pairwise_singleton _ _,fun e he x hx=> ?_⟩
  ·rcases List.mem_append.1 he with h | h
   ·exact h1 e h
   ·rw [List.mem_singleton.1 h]; exact h3
  ·rw [List.mem_singleton.1 hx]; exact h4 e he
theorem allMay_take {l:List Ed} (i:Nat) (h:AllMay l):AllMay (l.take i):=⟨fun e he=>h.1 e (List.mem_of_mem_take he),h.2.sublist (List.take_sublist _ _)⟩
theorem chk_bad {l:List Ed} (i:Nat) (h:¬ AllMay (l.take i)):chk l=1:=by
 unfold chk
 rw [if_neg (fun hh=>h (allMay_take i hh))]
end Go.Proofs.Ytfeepbajipdfaaa.T
namespace Go.Proofs.Ytfeepbajipdfaaa.T
open Go.Vm Go.Tm
set_option linter.unusedVariables false
set_option linter.unusedSimpArgs false
theorem beq_ed (a b:Ed):Ty.beq (.row (.prod (.int .i64) (.prod (.int .i64) (.int .i64)))) a b=true↔a=b:=by
 obtain ⟨x,y,w⟩:=a
 obtain ⟨x',y',w'⟩:=b
 show ((x==x') && ((y==y') && (w==w')))=true↔_
 simp
theorem checkAll_r (l:List Ed) (hbig:l.length≤1152921504606846976):edge_CheckAll_r l=(true,chk l):=by
 have key:=loopR_by (d:=HL.dflt [.bool,.int .i64,(.fl (.prod (.row (.prod (.int .i64) (.prod (.int .i64) (.int .i64)))) .bool)),.bool,(.fl (.prod (.row (.prod (.int .i64) (.prod (.int .i64) (.int .i64)))) .bool))]) (step:=edge_CheckAll_l0 l)
  (fun s:Int × List (Ed × Bool) × Unit=>∃ (i:Nat) (M:List (Ed × Bool)),s=((i:Int),M,())∧i≤l.length∧AllMay (l.take i)∧∀ k:Ed,mapGet (k:=(.row (.prod (.int .i64) (.prod (.int .i64) (.int .i64))))) (v:=.bool) M k false=true↔∃ e∈l.take i,k=(e.1,e.2.1,0))
  (fun s=>l.length - s.1.toNat) (fun r:Bool × Int × List (Ed × Bool) × Bool × List (Ed × Bool) × Unit=>cond r.2.2.2.1 (cond (!(decide ((l.length:Int)>(512:Int)))) (0:Int) (3:Int)) r.2.1=chk l) ((0:Int),[],())
  ⟨0,[],rfl,Nat.zero_le _,⟨fun e he=>by simp at he,by simp⟩,fun k=>by simp [mapGet]⟩ (by
   rintro _ ⟨i,M,rfl,h1,h2,h3⟩
   unfold edge_CheckAll_l0
   by_cases hi:i<l.length
   ·have g1:(i:Int)<(l.length:Int):=by omega
    have hw:IntKind.i64.wrap ((i:Int)+1)=((i+1:Nat):Int):=by rw [wrap_i64 (by omega) (by omega)]; omega
    have hx:l[i]? =some l[i]:=List.getElem?_eq_getElem hi
    have hst:=allMay_step hi
    have hbad:=chk_bad (l:=l) (i+1)
    generalize l[i]=x at hx hst
    have tk:l.take (i+1)=l.take i++ [x]:=by rw [List.take_add_one,hx]; rfl
    by_cases hm:May x
    ·by_cases hmet:mapGet (k:=(.row (.prod (.int .i64) (.prod (.int .i64) (.int .i64))))) (v:=.bool) M (x.1,x.2.1,0) false=true
     ·simp only [decT g1,hw,Int.toNat_natCast,hx,Option.getD_some,edgeCheck_r,if_pos hm,hmet,decT hi,decT (show (0:Int)≤(i:Int) by omega),show ((0:Int) !=0)=false from rfl,Bool.not_false,Bool.not_true,cond_true,cond_false,Bool.and_true,Bool.and_self,Bool.true_and,Bool.and_false]
      refine ⟨trivial,fun h=>(by cases h),fun _=> ?_⟩
      obtain ⟨e,he,hk⟩:=(h3 _).1 hmet
      refine (hbad fun hh=> ?_).symm
      have:=(hst.1 hh).2.2 e he
      exact this ⟨by injection hk with a b; exact a.symm,by injection hk with a b; injection b with b c; exact b.symm⟩
     ·have hmet':=Bool.eq_false_iff.2 hmet
      simp only [decT g1,hw,Int.toNat_natCast,hx,Option.getD_some,edgeCheck_r,if_pos hm,hmet',decT hi,decT (show (0:Int)≤(i:Int) by omega),show ((0:Int) !=0)=false from rfl,Bool.not_false,Bool.not_true,cond_true,cond_false,Bool.and_true,Bool.and_self,Bool.true_and,Bool.and_false]
      refine ⟨trivial,fun _=>⟨⟨i+1,_,rfl,by omega,hst.2 ⟨h2,hm,fun e he hh=>hmet ((h3 _).2 ⟨e,he,by rw [hh.1,hh.2]⟩)⟩,fun k=> ?_⟩,by
       show l.length - (((i+1:Nat):Int)).toNat<l.length - ((i:Int)).toNat
       omega⟩,fun h=>by cases h⟩
      rw [mapGet_put beq_ed,tk]
      by_cases hk:k=(x.1,x.2.1,0)
      ·rw [if_pos hk]
       exact ⟨fun _=>⟨x,List.mem_append_right _ (.head _),hk⟩,fun _=>rfl⟩
      ·rw [if_neg hk,h3]
       constructor
       ·rintro ⟨e,he,hh⟩; exact ⟨e,List.mem_append_left _ he,hh⟩
       ·rintro ⟨e,he,hh⟩
        rcases List.mem_append.1 he with h | h
        ·exact ⟨e,h,hh⟩
        ·rw [List.mem_singleton.1 h] at hh; exact absurd hh hk
    ·simp only [decT g1,hw,Int.toNat_natCast,hx,Option.getD_some,edgeCheck_r,if_neg hm,decT hi,decT (show (0:Int)≤(i:Int) by omega),show ((1:Int) !=0)=true from rfl,Bool.not_false,Bool.not_true,cond_true,cond_false,Bool.and_true,Bool.and_self,Bool.true_and,Bool.and_false]
     exact ⟨trivial,fun h=>(by cases h),fun _=>(hbad fun hh=>hm (hst.1 hh).2.1).symm⟩
   ·have g1:¬ (i:Int)<(l.length:Int):=by omega
    simp only [decF g1,cond_false,Bool.false_and,Bool.not_false,cond_true]
    refine ⟨trivial,fun h=>(by cases h),fun _=> ?_⟩
    rw [List.take_of_length_le (by omega)] at h2
    unfold chk
    rw [if_pos h2]
    by_cases h512:(l.length:Int)>512
    ·rw [decT h512,if_pos (by omega)]; rfl
    ·rw [decF h512,if_neg (by omega)]; rfl)
 unfold edge_CheckAll_r
 simp only [loopD_eq]
 exact Prod.ext key.1 key.2
end Go.Proofs.Ytfeepbajipdfaaa.T
namespace Go.Proofs.Ytfeepbajipdfaaa.T
open Go.Vm Go.Tm
set_option linter.unusedVariables false
set_option linter.unusedSimpArgs false
theorem ref_l0 (l:List Ed) (hbig:l.length≤1152921504606846976):∃ r:Bool × Int × Bool × Unit,loopR (HL.dflt [.bool,.int .i64,.bool]) (withyref05_Check_l0 l) ((0:Int),())=(true,r)∧((r.2.2.1=true∧∀ e∈l,May e)∨(r.2.2.1=false∧r.2.1=1∧¬ ∀ e∈l,May e)):=by
 have key:=loopR_by (d:=HL.dflt [.bool,.int .i64,.bool]) (step:=withyref05_Check_l0 l) (fun s:Int × Unit=>∃ i:Nat,s=((i:Int),())∧i≤l.length∧∀ e∈l.take i,May e) (fun s=>l.length - s.1.toNat)
  (fun r:Bool × Int × Bool × Unit=>(r.2.2.1=true∧∀ e∈l,May e)∨(r.2.2.1=false∧r.2.1=1∧¬ ∀ e∈l,May e)) ((0:Int),()) ⟨0,rfl,Nat.zero_le _,fun e he=>by simp at he⟩ (by
   rintro _ ⟨i,rfl,h1,h2⟩
   unfold withyref05_Check_l0
   by_cases hi:i<l.length
   ·have g1:(i:Int)<(l.length:Int):=by omega
    have hw:IntKind.i64.wrap ((i:Int)+1)=((i+1:Nat):Int):=by rw [wrap_i64 (by omega) (by omega)]; omega
    have hx:l[i]? =some l[i]:=List.getElem?_eq_getElem hi
    have hmem:l[i]∈l:=List.getElem_mem hi
    generalize l[i]=x at hx hmem
    by_cases hm:May x
    ·simp only [decT g1,hw,Int.toNat_natCast,hx,Option.getD_some,refMay_r,decT hm,decT hi,decT (show (0:Int)≤(i:Int) by omega),Bool.not_false,Bool.not_true,cond_true,Bool.and_true,Bool.and_self,Bool.and_false]
     refine ⟨trivial,fun _=>⟨⟨i+1,rfl,by omega,fun e he=> ?_⟩,by
      show l.length - (((i+1:Nat):Int)).toNat<l.length - ((i:Int)).toNat
      omega⟩,fun h=>by cases h⟩
     rw [List.take_add_one,hx] at he
     rcases List.mem_append.1 he with h | h
     ·exact h2 e h
     ·rw [show e=x by simpa using h]; exact hm
    ·simp only [decT g1,hw,Int.toNat_natCast,hx,Option.getD_some,refMay_r,decF hm,decT hi,decT (show (0:Int)≤(i:Int) by omega),Bool.not_false,Bool.not_true,cond_true,Bool.and_true,Bool.and_self,Bool.and_false]
     exact ⟨trivial,fun h=>(by cases h),fun _=>.inr ⟨by trivial,by trivial,fun hh=>hm (hh x hmem)⟩⟩
   ·have g1:¬ (i:Int)<(l.length:Int):=by omega
    simp only [decF g1,cond_false,Bool.false_and,Bool.not_false,Bool.not_true]
    rw [List.take_of_length_le (by omega)] at h2
    exact ⟨trivial,fun h=>(by cases h),fun _=>.inl ⟨by trivial,h2⟩⟩)
 exact ⟨_,Prod.ext key.1 rfl,key.2⟩
def Met (l:List Ed) (M:Nat→Nat→Bool):Prop:=∀ a b,M a b=true↔∃ e∈l,e.1.toNat=a∧e.2.1.toNat=b
theorem ref_l1 (l:List Ed) (hall:∀ e∈l,May e) (hbig:l.length≤1152921504606846976) (M0:Nat→Nat→Bool) (hM0:∀ a b,M0 a b=false):
  ∃ r:Bool × Int × (Nat→Nat→Bool) × Bool × (Nat→Nat→Bool) × Unit,loopR (HL.dflt [.bool,.int .i64,(.arr 65 (.arr 65 .bool)),.bool,(.arr 65 (.arr 65 .bool))]) (withyref05_Check_l1 l) ((0:Int),M0,())=(true,r)∧((r.2.2.2.1=true∧AllMay l)∨(r.2.2.2.1=false∧r.2.1=1∧¬ AllMay l)):=by
 have key:=loopR_by (d:=HL.dflt [.bool,.int .i64,(.arr 65 (.arr 65 .bool)),.bool,(.arr 65 (.arr 65 .bool))]) (step:=withyref05_Check_l1 l)
  (fun s:Int × (Nat→Nat→Bool) × Unit=>∃ (i:Nat) (M:Nat→Nat→Bool),s=((i:Int),M,())∧i≤l.length∧AllMay (l.take i)∧Met (l.take i) M) (fun s=>l.length - s.1.toNat)
  (fun r:Bool × Int × (Nat→Nat→Bool) × Bool × (Nat→Nat→Bool) × Unit=>(r.2.2.2.1=true∧AllMay l)∨(r.2.2.2.1=false∧r.2.1=1∧¬ AllMay l)) ((0:Int),M0,())
  ⟨0,M0,rfl,Nat.zero_le _,⟨fun e he=>by simp at he,by simp⟩,fun a b=>by simp [hM0]⟩ (by
   rintro _ ⟨i,M,rfl,h1,h2,h3⟩
   unfold withyref05_Check_l1
   by_cases hi:i<l.length
   ·have g1:(i:Int)<(l.length:Int):=by omega
    have hw:IntKind.i64.wrap ((i:Int)+1)=((i+1:Nat):Int):=by rw [wrap_i64 (by omega) (by omega)]; omega
    have hx:l[i]? =some l[i]:=List.getElem?_eq_getElem hi
    have hst:=allMay_step hi
    have hm:May l[i]:=hall _ (List.getElem_mem hi)
    generalize l[i]=x at hx hst hm
    have tk:l.take (i+1)=l.take i++ [x]:=by rw [List.take_add_one,hx]; rfl
    obtain ⟨m1,m2,m3,m4,m5,m6,m7⟩:=hm
    have same:∀ e∈l.take i,e.1.toNat=x.1.toNat→e.2.1.toNat=x.2.1.toNat→e.1=x.1∧e.2.1=x.2.1:=fun e he k1 k2=>by
     have:=h2.1 e he
     unfold May at this
     omega
    have d1:decide (x.1.toNat<65)=true:=decT (by omega)
    have d2:decide (x.2.1.toNat<65)=true:=decT (by omega)
    by_cases hmet:M x.1.toNat x.2.1.toNat=true
    ·simp only [decT g1,hw,Int.toNat_natCast,hx,Option.getD_some,hmet,decT hi,d1,d2,decT (show (0:Int)≤(i:Int) by omega),decT (show (0:Int)≤x.1 by omega),decT (show (0:Int)≤x.2.1 by omega),Bool.not_false,Bool.not_true,cond_true,cond_false,Bool.and_true,Bool.and_self,Bool.and_false]
     refine ⟨trivial,fun h=>(by cases h),fun _=>.inr ⟨by trivial,by trivial,fun hh=> ?_⟩⟩
     obtain ⟨e,he,k1,k2⟩:=(h3 _ _).1 hmet
     exact (hst.1 (allMay_take _ hh)).2.2 e he (same e he k1 k2)
    ·have hmet':=Bool.eq_false_iff.2 hmet
     simp only [decT g1,hw,Int.toNat_natCast,hx,Option.getD_some,hmet',decT hi,d1,d2,decT (show (0:Int)≤(i:Int) by omega),decT (show (0:Int)≤x.1 by omega),decT (show (0:Int)≤x.2.1 by omega),Bool.not_false,Bool.not_true,cond_true,cond_false,Bool.and_true,Bool.and_self,Bool.and_false]
     refine ⟨trivial,fun _=>⟨⟨i+1,_,rfl,by omega,hst.2 ⟨h2,⟨m1,m2,m3,m4,m5,m6,m7⟩,fun e he hh=>hmet ((h3 _ _).2 ⟨e,he,by rw [hh.1],by rw [hh.2]⟩)⟩,fun a b=> ?_⟩,by
      show l.length - (((i+1:Nat):Int)).toNat<l.length - ((i:Int)).toNat
      omega⟩,fun h=>by cases h⟩
     rw [tk]
     have e1:∀ a b,(bif Nat.beq a x.1.toNat then (fun j=>bif Nat.beq j x.2.1.toNat then true else M x.1.toNat j) else M a) b=true↔(a=x.1.toNat∧b=x.2.1.toNat)∨M a b=true:=fun a b=>by
      by_cases ha:a=x.1.toNat
      ·subst ha
       have:Nat.beq x.1.toNat x.1.toNat=true:=Nat.beq_refl _
       simp only [this,cond_true]
       by_cases hb:b=x.2.1.toNat
       ·subst hb
        have:Nat.beq x.2.1.toNat x.2.1.toNat=true:=Nat.beq_refl _
        simp [this]
       ·have:Nat.beq b x.2.1.toNat=false:=Bool.eq_false_iff.2 fun hh=>hb (Nat.eq_of_beq_eq_true hh)
        simp [this,hb]
      ·have:Nat.beq a x.1.toNat=false:=Bool.eq_false_iff.2 fun hh=>ha (Nat.eq_of_beq_eq_true hh)
       simp [this,ha]
     refine (e1 a b).trans ?_
     rw [h3]
     constructor
     ·rintro (⟨rfl,rfl⟩ | ⟨e,he,hh⟩)
      ·exact ⟨x,List.mem_append_right _ (.head _),rfl,rfl⟩
      ·exact ⟨e,List.mem_append_left _ he,hh⟩
     ·rintro ⟨e,he,hh⟩
      rcases List.mem_append.1 he with h | h
      ·exact .inr ⟨e,h,hh⟩
      ·rw [List.mem_singleton.1 h] at hh
       exact .inl ⟨hh.1.symm,hh.2.symm⟩
   ·have g1:¬ (i:Int)<(l.length:Int):=by omega
    simp only [decF g1,cond_false,Bool.false_and,Bool.not_false,Bool.not_true]
    rw [List.take_of_length_le (by omega)] at h2
    exact ⟨trivial,fun h=>(by cases h),fun _=>.inl ⟨by trivial,h2⟩⟩)
 exact ⟨_,Prod.ext key.1 rfl,key.2⟩
theorem none_in (i:Nat):((([false,false,false,false,false,false,false,false,false,false,false,false,false,false,false,false,false,false,false,false,false,false,false,false,false,false,false,false,false,false,false,false,false,false,false,false,false,false,false,false,false,false,false,false,false,false,false,false,false,false,false,false,false,false,false,false,false,false,false,false,false,false,false,false,false]:List Bool)[i]?).getD false)=false:=by
 show ((List.replicate 65 false)[i]?).getD false=false
 rw [List.getElem?_replicate]
 split<;>rfl
theorem none_in2 (c:Nat→Bool) (hc:∀ i,c i=false) (i j:Nat):((([c,c,c,c,c,c,c,c,c,c,c,c,c,c,c,c,c,c,c,c,c,c,c,c,c,c,c,c,c,c,c,c,c,c,c,c,c,c,c,c,c,c,c,c,c,c,c,c,c,c,c,c,c,c,c,c,c,c,c,c,c,c,c,c,c]:List (Nat→Bool))[i]?).getD (fun _=>false)) j=false:=by
 show ((List.replicate 65 c)[i]?).getD (fun _=>false) j=false
 rw [List.getElem?_replicate]
 split
 ·exact hc j
 ·rfl
theorem refCheck_r (l:List Ed) (hbig:l.length≤1152921504606846976):withyref05_Check_r l=(true,chk l):=by
 obtain ⟨⟨r0,r1,r2,_⟩,e0,h0⟩:=ref_l0 l hbig
 unfold withyref05_Check_r
 simp only [loopD_eq,e0]
 rcases h0 with ⟨h0,hall⟩ | ⟨h0,h1,hall⟩
 ·have h0:r2=true:=h0
  subst h0
  obtain ⟨⟨q0,q1,q2,q3,q4,_⟩,e1,h1⟩:=ref_l1 l hall hbig _ (fun a b=>none_in2 _ (fun i=>none_in i) a b)
  simp only [e1,cond_true,Bool.and_true]
  unfold chk
  rcases h1 with ⟨h1,h2⟩ | ⟨h1,h2,h3⟩
  ·have h1:q3=true:=h1
   subst h1
   rw [if_pos h2,cond_true]
   by_cases h512:(l.length:Int)>512
   ·rw [decT h512,if_pos (by omega)]; rfl
   ·rw [decF h512,if_neg (by omega)]; rfl
  ·have h1:q3=false:=h1
   have h2:q1=1:=h2
   subst h1; subst h2
   rw [if_neg h3,cond_false]
 ·have h0:r2=false:=h0
  have h1:r1=1:=h1
  subst h0; subst h1
  simp only [cond_false,Bool.and_true]
  unfold chk
  rw [if_neg (fun hh=>hall hh.1)]
end Go.Proofs.Ytfeepbajipdfaaa.T
namespace Go.Proofs.Ytfeepbajipdfaaa.T
open Go.Vm Go.Tm
set_option linter.unusedVariables false
set_option linter.unusedSimpArgs false
theorem chk_perm {l m:List Ed} (h:m.Perm l):chk m=chk l:=by
 unfold chk
 have hA:AllMay m↔AllMay l:=by
  unfold AllMay
  have hs:∀ a b:Ed,Apart a b→Apart b a:=fun a b hab hh=>hab ⟨hh.1.symm,hh.2.symm⟩
  rw [h.pairwise_iff (fun {a b} hab=>hs a b hab)]
  exact and_congr_left fun _=>⟨fun k e he=>k e (h.symm.subset he),fun k e he=>k e (h.subset he)⟩
 rw [h.length_eq]
 by_cases hl:AllMay l
 ·rw [if_pos hl,if_pos (hA.2 hl)]
 ·rw [if_neg hl,if_neg (fun hh=>hl (hA.1 hh))]
theorem chk_zero {l:List Ed} (h:chk l=0):AllMay l∧l.length≤512:=by
 unfold chk at h
 by_cases hl:AllMay l
 ·rw [if_pos hl] at h
  by_cases hn:l.length>512
  ·rw [if_pos hn] at h; cases h
  ·exact ⟨hl,by omega⟩
 ·rw [if_neg hl] at h; cases h
theorem edgeSort_r (l:List Ed) (hbig:l.length≤1000000000000):∃ m,edge_Sort_r l=(true,(chk l,m))∧(chk l=0→m.Perm l∧Sorted m)∧(chk l≠0→m= []):=by
 obtain ⟨m,e,h1,h2⟩:=sortFunc_r l (by omega)
 unfold edge_Sort_r
 simp only [checkAll_r l (by omega),slices_Clone_api_Edge_r,e,decT (show l.length*24≤140737488355328 by omega),Bool.and_self,Bool.cond_self]
 by_cases hc:chk l=0
 ·rw [hc]
  exact ⟨m,rfl,fun _=>⟨h1,h2⟩,fun h=>absurd rfl h⟩
 ·have hn:(chk l !=0)=true:=bneI hc
  simp only [hn,Bool.not_true,cond_false]
  exact ⟨[],rfl,fun h=>absurd h hc,fun _=>rfl⟩
theorem same_r (a b:List Ed) (hbig:a.length≤1152921504606846976):withyref05_Same_r a b=(true,decide (a=b)):=by
 unfold withyref05_Same_r
 by_cases hl:a.length=b.length
 ·have key:=loop_all (d:=HL.dflt [.bool,.bool,.bool]) (step:=withyref05_Same_l0 a b) a.length (fun i=>decide ((a[i]?).getD (0,0,0)=(b[i]?).getD (0,0,0))) (true,false,false,()) (false,false,true,())
   (fun i hi=>by
    have g1:(i:Int)<(a.length:Int):=by omega
    have hw:IntKind.i64.wrap ((i:Int)+1)=((i+1:Nat):Int):=by rw [wrap_i64 (by omega) (by omega)]; omega
    have hx:a[i]? =some a[i]:=List.getElem?_eq_getElem hi
    have hy:b[i]? =some (b[i]'(by omega)):=List.getElem?_eq_getElem (by omega)
    generalize a[i]=x at hx
    generalize b[i]'(by omega)=y at hy
    have hb:((x.1==y.1) && ((x.2.1==y.2.1) && (x.2.2==y.2.2)))=decide (x=y):=by
     have:=beq_ed x y
     change (((x.1==y.1) && ((x.2.1==y.2.1) && (x.2.2==y.2.2)))=true↔x=y) at this
     by_cases hh:x=y
     ·rw [decT hh]; exact this.2 hh
     ·rw [decF hh]; exact Bool.eq_false_iff.2 fun k=>hh (this.1 k)
    unfold withyref05_Same_l0
    simp only [decT g1,hw,Int.toNat_natCast,hx,hy,Option.getD_some,hb,decT hi,decT (show i<b.length by omega),decT (show (0:Int)≤(i:Int) by omega),cond_true,Bool.and_true,Bool.and_self,Bool.true_and,Bool.not_not,Bool.not_true]
    exact ⟨trivial,trivial,fun _=>trivial,fun h=>by rw [h]; rfl⟩)
   (by
    have g1:¬ (a.length:Int)<(a.length:Int):=by omega
    unfold withyref05_Same_l0
    simp only [decF g1,cond_false,Bool.false_and,Bool.not_false]
    exact ⟨trivial,trivial,trivial⟩)
  have hne:((a.length:Int) !=(b.length:Int))=false:=by rw [hl]; simp
  have hall:(List.range a.length).all (fun i=>decide ((a[i]?).getD (0,0,0)=(b[i]?).getD (0,0,0)))=true↔a=b:=by
   rw [List.all_eq_true]
   constructor
   ·intro h
    apply List.ext_getElem hl
    intro i h1 h2
    have:=h i (List.mem_range.2 h1)
    rw [List.getElem?_eq_getElem h1,List.getElem?_eq_getElem h2] at this
    exact of_decide_eq_true this
   ·rintro rfl i _
    exact decide_eq_true rfl
  simp only [loopD_eq,key,hne,Bool.not_false,cond_true]
  by_cases hab:a=b
  ·rw [if_pos (hall.2 hab),decT hab]; rfl
  ·rw [if_neg (fun h=>hab (hall.1 h)),decF hab]; rfl
 ·have hne:((a.length:Int) !=(b.length:Int))=true:=bneI (by omega)
  have hab:¬ a=b:=fun h=>hl (by rw [h])
  simp only [hne,Bool.not_true,cond_false,decF hab]
theorem ahead {m:List Ed} (h1:Sorted m) (h2:m.Pairwise Apart) (i j:Nat) (hi:i<j) (hj:j<m.length):lt (m[i]'(by omega)) m[j]:=by
 have a1:=List.pairwise_iff_getElem.1 h1 i j (by omega) hj hi
 have a2:=List.pairwise_iff_getElem.1 h2 i j (by omega) hj hi
 have c1:=edgeCmp_cases (m[i]'(by omega)) m[j]
 have c2:=edgeCmp_cases m[j] (m[i]'(by omega))
 generalize m[i]'(by omega)=x at*
 generalize m[j]=y at*
 obtain ⟨x1,x2,x3⟩:=x
 obtain ⟨y1,y2,y3⟩:=y
 unfold Apart at a2
 simp only [lt,Prod.mk.injEq] at*
 omega
end Go.Proofs.Ytfeepbajipdfaaa.T
namespace Go.Proofs.Ytfeepbajipdfaaa.T
open Go.Vm Go.Tm
set_option linter.unusedVariables false
set_option linter.unusedSimpArgs false
theorem refLess_r (a b:Ed):withyref05_Less_r a b=(true,decide (lt a b)):=by
 unfold withyref05_Less_r
 have h:=edgeCmp_cases a b
 obtain ⟨x,y,w⟩:=a
 obtain ⟨x',y',w'⟩:=b
 simp only [Prod.mk.injEq] at h
 by_cases h1:w=w'
 ·subst h1
  by_cases h2:x<x'
  ·have hl:lt (x,y,w) (x',y',w):=by unfold lt; omega
   simp [h2,hl]
  ·by_cases h3:x=x'
   ·subst h3
    by_cases h4:y<y'
    ·have hl:lt (x,y,w) (x,y',w):=by unfold lt; omega
     simp [h4,hl]
    ·have hl:¬ lt (x,y,w) (x,y',w):=by unfold lt; omega
     simp [h4,hl]
   ·have hl:¬ lt (x,y,w) (x',y',w):=by unfold lt; omega
    simp [h2,h3,hl]
 ·by_cases h2:w<w'
  ·have hl:lt (x,y,w) (x',y',w'):=by unfold lt; omega
   simp [h1,h2,hl]
  ·have hl:¬ lt (x,y,w) (x',y',w'):=by unfold lt; omega
   simp [h1,h2,hl]
end Go.Proofs.Ytfeepbajipdfaaa.T
namespace Go.Proofs.Ytfeepbajipdfaaa.T
open Go.Vm Go.Tm
set_option linter.unusedVariables false
set_option linter.unusedSimpArgs false
theorem rins_l1 (L l:List Ed) (i:Nat) (hi:i<l.length) (hbig:l.length≤4611686018427387904) (h:InOrder lt 0 i l):
  (loopR (HL.dflt [.bool,(.fl (.row (.prod (.int .i64) (.prod (.int .i64) (.int .i64)))))]) (withyref05_Sort_l1 L) ((i:Int),l,())).1=true∧
  (fun r:Bool × List Ed × Unit=>RP 0 (i+1) l r.2.1∧InOrder lt 0 (i+1) r.2.1) (loopR (HL.dflt [.bool,(.fl (.row (.prod (.int .i64) (.prod (.int .i64) (.int .i64)))))]) (withyref05_Sort_l1 L) ((i:Int),l,())).2:=by
 refine loopR_by (d:=HL.dflt [.bool,(.fl (.row (.prod (.int .i64) (.prod (.int .i64) (.int .i64)))))]) (step:=withyref05_Sort_l1 L) (fun s:Int × List Ed × Unit=>∃ (j:Nat) (m:List Ed),s=((j:Int),m,())∧j≤i∧RP 0 (i+1) l m∧InsAt lt 0 (i+1) j m) (fun s=>s.1.toNat) (fun r:Bool × List Ed × Unit=>RP 0 (i+1) l r.2.1∧InOrder lt 0 (i+1) r.2.1) ((i:Int),l,()) ⟨i,l,rfl,Nat.le_refl _,RP.refl _ _ _,InsAt.start h⟩ ?_
 rintro _ ⟨j,m,rfl,h2,h3,h4⟩
 have hlen:=h3.len
 cases j with
 | zero=>
  have g1:¬ (((0:Nat):Int)>0):=by omega
  unfold withyref05_Sort_l1
  simp only [decF g1,cond_false,Bool.and_true,Bool.not_false]
  exact ⟨trivial,fun h=>(by cases h),fun _=>⟨h3,h4.stop le_trans' (by omega) (.inl rfl)⟩⟩
 | succ k=>
  have hw:IntKind.i64.wrap (((k+1:Nat):Int) - 1)=(k:Int):=by rw [wrap_i64 (by omega) (by omega)]; omega
  have hx:m[k]? =some (m[k]'(by omega)):=List.getElem?_eq_getElem (by omega)
  have hy:m[k+1]? =some (m[k+1]'(by omega)):=List.getElem?_eq_getElem (by omega)
  generalize m[k]'(by omega)=x at hx
  generalize m[k+1]'(by omega)=y at hy
  have g1:(((k+1:Nat):Int)>0):=by omega
  unfold withyref05_Sort_l1
  simp only [hw,Int.toNat_natCast,hx,hy,Option.getD_some,refLess_r,decT g1,decT (show k+1<m.length by omega),decT (show (0:Int)≤((k+1:Nat):Int) by omega),decT (show k<m.length by omega),decT (show (0:Int)≤(k:Int) by omega),cond_true,Bool.and_true,Bool.true_and,Bool.and_self,List.length_set]
  by_cases hlt:lt y x
  ·simp only [decT hlt,cond_true,Bool.and_true,Bool.cond_self]
   refine ⟨trivial,fun _=>⟨⟨k,_,rfl,by omega,h3.trans (RP.swap' hy hx (by omega) (by omega) (by omega) (by omega)),h4.step lt_asym (by omega) (by omega) hx hy hlt⟩,?_⟩,fun h=>by cases h⟩
   show ((k:Int)).toNat<(((k+1:Nat):Int)).toNat
   omega
  ·simp only [decF hlt,cond_false,Bool.and_true]
   exact ⟨trivial,fun h=>(by cases h),fun _=>⟨h3,h4.stop le_trans' (by omega) (.inr ⟨x,y,by omega,hx,hy,hlt⟩)⟩⟩
theorem refSort_r (l:List Ed) (hbig:l.length≤1000000000000):∃ m,withyref05_Sort_r l=(true,m)∧m.Perm l∧Sorted m:=by
 have key:=loopR_by (d:=HL.dflt [.bool,(.fl (.row (.prod (.int .i64) (.prod (.int .i64) (.int .i64)))))]) (step:=withyref05_Sort_l0 l)
  (fun s:Int × List Ed × Unit=>∃ (i:Nat) (m:List Ed),s=((i:Int),m,())∧i≤l.length∧RP 0 l.length l m∧InOrder lt 0 i m) (fun s=>l.length - s.1.toNat) (fun r:Bool × List Ed × Unit=>RP 0 l.length l r.2.1∧InOrder lt 0 l.length r.2.1)
  ((0:Int),l,()) ⟨0,l,rfl,by omega,RP.refl _ _ _,fun p q x y h1 h2 h3=>by omega⟩ (by
   rintro _ ⟨i,m,rfl,h2,h3,h4⟩
   have hlen:=h3.len
   unfold withyref05_Sort_l0
   by_cases hi:i<l.length
   ·have g1:((i:Int)<(m.length:Int)):=by omega
    have hw:IntKind.i64.wrap ((i:Int)+1)=((i+1:Nat):Int):=by rw [wrap_i64 (by omega) (by omega)]; omega
    obtain ⟨k1,k2,k3⟩:=rins_l1 l m i (by omega) (by omega) h4
    simp only [decT g1,cond_true,hw,loopD_eq]
    exact ⟨k1,fun _=>⟨⟨i+1,_,rfl,by omega,h3.trans (k2.mono (Nat.le_refl _) (by omega)),k3⟩,by show l.length - (((i+1:Nat):Int)).toNat<l.length - ((i:Int)).toNat; omega⟩,fun h=>by cases h⟩
   ·have g1:¬ ((i:Int)<(m.length:Int)):=by omega
    simp only [decF g1,cond_false]
    have:i=l.length:=by omega
    subst this
    exact ⟨trivial,fun h=>(by cases h),fun _=>⟨h3,h4⟩⟩)
 unfold withyref05_Sort_r
 simp only [loopD_eq,List.nil_append,List.length_nil,Nat.zero_add,decT (show l.length*24≤140737488355328 by omega),Bool.true_and]
 refine ⟨_,Prod.ext key.1 rfl,key.2.1.perm,?_⟩
 have:=InOrder_pair key.2.2
 rw [List.drop_zero,← key.2.1.len,List.take_length] at this
 exact this
end Go.Proofs.Ytfeepbajipdfaaa.T
namespace Go.Proofs.Ytfeepbajipdfaaa.T
open Go.Vm Go.Tm
set_option linter.unusedVariables false
set_option linter.unusedSimpArgs false
theorem has_r (a sets:Int) (up size least:List Int) (hl:up.length=65):join_Join__has_r a sets up size least=(true,decide (1≤a∧a<65)):=by
 unfold join_Join__has_r
 rw [hl]
 by_cases h1:1≤a<;>simp [h1]
theorem top_r {up:List Int} {R ρ:Nat→Nat} {B:Nat} (h:UF up R ρ B) (a:Nat) (ha:a<65) (sets:Int) (size least:List Int):
  ∃ up',join_Join__top_r (a:Int) sets up size least=(true,((R a:Int),up'))∧UF up' R ρ B:=by
 have key:=loopR_by (d:=HL.dflt [.bool,.int .i64,(.fl (.int .i64))]) (step:=join_Join__top_l0 (a:Int) sets up size least)
  (fun s:Int × List Int × Unit=>∃ (i:Nat) (m:List Int),s=((i:Int),m,())∧i<65∧R i=R a∧UF m R ρ B) (fun s=>B - ρ s.1.toNat) (fun r:Bool × Int × List Int × Unit=>∃ m,r=(true,(R a:Int),m,())∧UF m R ρ B) ((a:Int),up,()) ⟨a,up,rfl,ha,rfl,h⟩ (by
   rintro _ ⟨i,m,rfl,h1,h2,h3⟩
   obtain ⟨p,k1,k2,k3,k4,k5,k6⟩:=h3.at' i h1
   have hlen:=h3.len
   unfold join_Join__top_l0
   by_cases hp:p=i
   ·subst hp
    have hb:((p:Int) !=(p:Int))=false:=by simp
    simp only [Int.toNat_natCast,k2,Option.getD_some,hb,decT (show (0:Int)≤(p:Int) by omega),decT (show p<m.length by omega),cond_false,Bool.and_true,Bool.not_false]
    refine ⟨trivial,fun h=>(by cases h),fun _=>⟨m,?_,h3⟩⟩
    rw [← h2,k4.1 rfl]
   ·obtain ⟨q,m1,m2,_⟩:=h3.at' p k1
    obtain ⟨n1,n2,n3⟩:=h3.half h1 k1 m1 k2 m2 hp
    have hb:((p:Int) !=(i:Int))=true:=bneI (by omega)
    have hq:(m.set i (q:Int))[i]? =some (q:Int):=List.getElem?_set_self (by omega)
    simp only [Int.toNat_natCast,k2,m2,hq,Option.getD_some,hb,decT (show (0:Int)≤(i:Int) by omega),decT (show i<m.length by omega),decT (show (0:Int)≤(p:Int) by omega),decT (show p<m.length by omega),List.length_set,cond_true,Bool.and_true,Bool.not_true]
    refine ⟨trivial,fun _=>⟨⟨q,_,rfl,m1,n2.trans h2,n1⟩,?_⟩,fun h=>by cases h⟩
    obtain ⟨_,_,_,_,_,_,q6⟩:=h3.at' q m1
    show B - ρ q<B - ρ i
    omega)
 obtain ⟨h1,m,h2,h3⟩:=key
 have hz:=Prod.ext (y:=(true,(true,(R a:Int),m,()))) h1 h2
 unfold join_Join__top_r
 simp only [loopD_eq,hz]
 exact ⟨m,rfl,h3⟩
theorem unite_r (l:List Ed) (e:Ed) (he:May e) (sets:Int) (up size least:List Int) (h:Sets l up size least):
  ∃ (u:Bool) (sets':Int) (up' size' least':List Int),join_Join__Unite_r e.1 e.2.1 sets up size least=(true,(u,sets',up',size',least'))∧(u=true↔¬ Conn l e.1 e.2.1)∧Sets (l++ [e]) up' size' least':=by
 obtain ⟨hs,hl,R,ρ,B,hu,hc⟩:=h
 obtain ⟨m1,m2,m3,m4,m5,m6,m7⟩:=he
 obtain ⟨a,ea⟩:∃ a:Nat,e.1=(a:Int):=⟨e.1.toNat,by omega⟩
 obtain ⟨b,eb⟩:∃ b:Nat,e.2.1=(b:Int):=⟨e.2.1.toNat,by omega⟩
 have ha:a<65:=by omega
 have hb:b<65:=by omega
 obtain ⟨up1,e1,u1⟩:=top_r hu a ha sets size least
 obtain ⟨up2,e2,u2⟩:=top_r u1 b hb sets size least
 have h1:=has_r e.1 sets up size least hu.len
 have h2:=has_r e.2.1 sets up size least hu.len
 have d1:decide (1≤e.1∧e.1<65)=true:=decT (by omega)
 have d2:decide (1≤e.2.1∧e.2.1<65)=true:=decT (by omega)
 rw [d1] at h1
 rw [d2] at h2
 have hra:=hu.rt a ha
 have hrb:=hu.rt b hb
 have hab:=hc a b ha hb
 rw [← ea,← eb] at hab
 unfold join_Join__Unite_r
 rw [ea] at h1
 rw [eb] at h2
 rw [ea,eb]
 by_cases hR:R a=R b
 ·have hbq:((R a:Int)==(R b:Int))=true:=by rw [hR]; simp
  have hcn:Conn l e.1 e.2.1:=hab.1 hR
  simp only [h1,h2,e1,e2,hbq,Bool.not_true,Bool.not_false,cond_true,cond_false,Bool.and_true,Bool.and_self]
  refine ⟨false,sets,up2,size,least,rfl,⟨fun h=>(by cases h),fun h=>absurd (by rw [← ea,← eb]; exact hcn) h⟩,?_⟩
  exact Sets.congr (l:=l) ⟨hs,hl,R,ρ,B,u2,hc⟩ (fun x y=>(conn_skip hcn).symm)
 ·have hbq:((R a:Int)==(R b:Int))=false:=beqI (by omega)
  have hl2:=u2.len
  simp only [h1,h2,e1,e2,hbq,Bool.not_true,Bool.not_false,cond_true,cond_false,Bool.and_true,Bool.and_self,Bool.true_and,Int.toNat_natCast,decT (show (0:Int)≤(R a:Int) by omega),decT (show (0:Int)≤(R b:Int) by omega),decT (show R a<size.length by omega),decT (show R b<size.length by omega)]
  generalize hcc:decide ((size[R a]?).getD 0<(size[R b]?).getD 0)=c
  obtain ⟨x,y,hx,hy,hxy⟩:∃ x y:Nat,cond c (R b:Int) (R a:Int)=(x:Int)∧cond c (R a:Int) (R b:Int)=(y:Int)∧((x=R a∧y=R b)∨(x=R b∧y=R a)):=by
   cases c
   ·exact ⟨R a,R b,rfl,rfl,.inl ⟨rfl,rfl⟩⟩
   ·exact ⟨R b,R a,rfl,rfl,.inr ⟨rfl,rfl⟩⟩
  have hx65:x<65:=by rcases hxy with ⟨h,_⟩ | ⟨h,_⟩<;>omega
  have hy65:y<65:=by rcases hxy with ⟨_,h⟩ | ⟨_,h⟩<;>omega
  have hRx:R x=x:=by rcases hxy with ⟨h,_⟩ | ⟨h,_⟩<;>(subst h; first | exact hra.2 | exact hrb.2)
  have hRy:R y=y:=by rcases hxy with ⟨_,h⟩ | ⟨_,h⟩<;>(subst h; first | exact hra.2 | exact hrb.2)
  have hne:x≠y:=by rcases hxy with ⟨h,h'⟩ | ⟨h,h'⟩<;>omega
  obtain ⟨ρ',B',u3⟩:=u2.join hx65 hy65 hRx hRy hne
  simp only [hx,hy,Int.toNat_natCast,decT (show (0:Int)≤(x:Int) by omega),decT (show (0:Int)≤(y:Int) by omega),decT (show x<size.length by omega),decT (show y<size.length by omega),decT (show x<least.length by omega),decT (show y<least.length by omega),decT (show y<up2.length by omega),Bool.and_self,Bool.and_true]
  refine ⟨true,_,_,_,_,rfl,⟨fun _ hcn=>hR (hab.2 (by rw [ea,eb]; exact hcn)),fun _=>rfl⟩,by simpa using hs,by simpa using hl,_,ρ',B',u3,fun i j hi hj=> ?_⟩
  rw [conn_snoc,← hc i j hi hj,ea,eb,← hc i a hi ha,← hc b j hb hj,← hc i b hi hb,← hc a j ha hj]
  show ((if R i=y then x else R i)=if R j=y then x else R j)↔_
  rcases hxy with ⟨rfl,rfl⟩ | ⟨rfl,rfl⟩<;>(split<;>split<;>omega)
theorem conn_nil {a b:Int} :Conn [] a b↔a=b:=by
 constructor
 ·intro h
  induction h with
  | refl=>rfl
  | fwd he=>cases he
  | bwd he=>cases he
 ·rintro rfl; exact .refl
theorem sets_r:∃ (sets:Int) (up size least:List Int),span_sets_r=(true,(sets,up,size,least))∧Sets [] up size least:=by
 have key:=loopR_by (d:=HL.dflt [.bool,.int .i64,(.fl (.int .i64)),(.fl (.int .i64)),(.fl (.int .i64))]) (step:=join_New_l0 (64:Int))
  (fun s:Int × Int × List Int × List Int × List Int × Unit=>∃ (i:Nat) (n:Int) (up size least:List Int),s=((i:Int),n,up,size,least,())∧i≤65∧up=(List.range i).map (fun k:Nat=>(k:Int))∧size.length=i∧least.length=i) (fun s=>65 - s.1.toNat)
  (fun r:Bool × Int × List Int × List Int × List Int × Unit=>r.2.2.1=(List.range 65).map (fun k:Nat=>(k:Int))∧r.2.2.2.1.length=65∧r.2.2.2.2.1.length=65) ((0:Int),(64:Int),[],[],[],()) ⟨0,64,[],[],[],rfl,by omega,rfl,rfl,rfl⟩ (by
   rintro _ ⟨i,n,up,size,least,rfl,h1,h2,h3,h4⟩
   have hlen:up.length=i:=by rw [h2]; simp
   unfold join_New_l0
   have hw64:IntKind.i64.wrap ((64:Int)+1)=65:=wrap_i64 (by omega) (by omega)
   by_cases hi:i<65
   ·have g1:(i:Int)<65:=by omega
    have hw:IntKind.i64.wrap ((i:Int)+1)=((i+1:Nat):Int):=by rw [wrap_i64 (by omega) (by omega)]; omega
    simp only [hw64,decT g1,hw,cond_true,List.length_cons,List.length_nil,hlen,h3,h4,decT (show (i+(0+1))*8≤140737488355328 by omega),Bool.and_self]
    refine ⟨trivial,fun _=>⟨⟨i+1,_,_,_,_,rfl,by omega,?_,by simp [h3],by simp [h4]⟩,by
     show 65 - (((i+1:Nat):Int)).toNat<65 - ((i:Int)).toNat
     omega⟩,fun h=>by cases h⟩
    rw [List.range_succ,List.map_append,h2]; rfl
   ·have g1:¬ (i:Int)<65:=by omega
    have:i=65:=by omega
    subst this
    simp only [hw64,decF g1,cond_false,Bool.not_false]
    exact ⟨trivial,fun h=>(by cases h),fun _=>⟨h2,h3,h4⟩⟩)
 obtain ⟨k1,k2,k3,k4⟩:=key
 unfold span_sets_r join_New_r
 simp only [loopD_eq,k1,decF (show ¬ (64:Int)<0 by omega),decF (show ¬ (64:Int)>4096 by omega),Bool.not_false,cond_true,cond_false,Bool.and_self]
 refine ⟨_,_,_,_,rfl,k3,k4,fun i=>i,fun _=>0,0,⟨by rw [k2]; simp,fun i hi=>⟨hi,rfl⟩,fun i hi=>⟨i,hi,by rw [k2,List.getElem?_map,List.getElem?_range hi]; rfl,rfl,by simp,fun h=>absurd rfl h,Nat.le_refl _⟩⟩,fun i j hi hj=> ?_⟩
 rw [conn_nil]
 show i=j↔(i:Int)=(j:Int)
 omega
theorem greedy_all {l:List Ed} :∀ n,n≤l.length→(∀ k e,k<n→l[k]? =some e→¬ Conn (l.take k) e.1 e.2.1)→greedy [] (l.take n)=l.take n
 | 0,_,_=>by rw [List.take_zero]; rfl
 | n+1,hn,h=>by
  have hx:l[n]? =some l[n]:=List.getElem?_eq_getElem (by omega)
  rw [greedy_take (by omega),if_neg (h n l[n] (by omega) hx),greedy_all n (by omega) (fun k e hk=>h k e (by omega)),List.take_add_one,hx]
  rfl
end Go.Proofs.Ytfeepbajipdfaaa.T
namespace Go.Proofs.Ytfeepbajipdfaaa.T
open Go.Vm Go.Tm
set_option linter.unusedVariables false
set_option linter.unusedSimpArgs false
def NoneTo (l:List Ed) (n:Nat):Prop:=∀ k e,k<n→l[k]? =some e→¬ Conn (l.take k) e.1 e.2.1
theorem least1_r (l:List Ed) (e:Ed) (he:May e) (sets:Int) (up size least:List Int) (h:Sets l up size least):
  ∃ (u:Bool) (sets':Int) (up' size' least':List Int),span_Least_1_r e sets up size least=(true,(u,sets',up',size',least'))∧(u=true↔Conn l e.1 e.2.1)∧Sets (l++ [e]) up' size' least':=by
 obtain ⟨u,sets',up',size',least',e1,h1,h2⟩:=unite_r l e he sets up size least h
 unfold span_Least_1_r
 simp only [e1]
 refine ⟨!u,sets',up',size',least',rfl,?_,h2⟩
 cases u
 ·simp at h1 ⊢; exact h1
 ·simp at h1 ⊢; exact h1
theorem index_r (l:List Ed) (hall:∀ e∈l,May e) (hbig:l.length≤1152921504606846976) (sets:Int) (up size least:List Int) (h:Sets [] up size least):
  ∃ (idx sets':Int) (up' size' least':List Int),slices_IndexFunc_api_Edge_r () l sets up size least=(true,(idx,sets',up',size',least'))∧
   ((idx= -1∧NoneTo l l.length∧Sets l up' size' least')∨∃ (i:Nat) (e:Ed),l[i]? =some e∧idx=(i:Int)∧NoneTo l i∧Conn (l.take i) e.1 e.2.1∧Sets (l.take (i+1)) up' size' least'):=by
 have key:=loopR_by (d:=HL.dflt [.bool,.int .i64,.int .i64,(.fl (.int .i64)),(.fl (.int .i64)),(.fl (.int .i64)),.bool,.int .i64,(.fl (.int .i64)),(.fl (.int .i64)),(.fl (.int .i64))]) (step:=slices_IndexFunc_api_Edge_l0 () l sets up size least)
  (fun s:Int × Int × List Int × List Int × List Int × Unit=>∃ (i:Nat) (n:Int) (a b c:List Int),s=((i:Int),n,a,b,c,())∧i≤l.length∧NoneTo l i∧Sets (l.take i) a b c) (fun s=>l.length - s.1.toNat)
  (fun r:Bool × Int × Int × List Int × List Int × List Int × Bool × Int × List Int × List Int × List Int × Unit=>
   (r.2.2.2.2.2.2.1=true∧NoneTo l l.length∧Sets l r.2.2.2.2.2.2.2.2.1 r.2.2.2.2.2.2.2.2.2.1 r.2.2.2.2.2.2.2.2.2.2.1)∨
   (r.2.2.2.2.2.2.1=false∧∃ (i:Nat) (e:Ed),l[i]? =some e∧r.2.1=(i:Int)∧NoneTo l i∧Conn (l.take i) e.1 e.2.1∧Sets (l.take (i+1)) r.2.2.2.1 r.2.2.2.2.1 r.2.2.2.2.2.1))
  ((0:Int),sets,up,size,least,()) ⟨0,sets,up,size,least,rfl,Nat.zero_le _,fun k e hk=>by omega,by rw [List.take_zero]; exact h⟩ (by
   rintro _ ⟨i,n,a,b,c,rfl,h1,h2,h3⟩
   unfold slices_IndexFunc_api_Edge_l0
   by_cases hi:i<l.length
   ·have g1:(i:Int)<(l.length:Int):=by omega
    have hw:IntKind.i64.wrap ((i:Int)+1)=((i+1:Nat):Int):=by rw [wrap_i64 (by omega) (by omega)]; omega
    have hx:l[i]? =some l[i]:=List.getElem?_eq_getElem hi
    have hm:May l[i]:=hall _ (List.getElem_mem hi)
    generalize l[i]=x at hx hm
    have tk:l.take (i+1)=l.take i++ [x]:=by rw [List.take_add_one,hx]; rfl
    obtain ⟨u,n',a',b',c',e1,e2,e3⟩:=least1_r (l.take i) x hm n a b c h3
    rw [← tk] at e3
    cases u with
    | true=>
     simp only [Int.toNat_natCast,decT g1,hw,hx,Option.getD_some,e1,decT hi,decT (show (0:Int)≤(i:Int) by omega),cond_true,Bool.and_true,Bool.not_true,Bool.and_false]
     exact ⟨trivial,fun h=>(by cases h),fun _=>.inr ⟨by trivial,i,x,hx,rfl,h2,e2.1 rfl,e3⟩⟩
    | false=>
     simp only [Int.toNat_natCast,decT g1,hw,hx,Option.getD_some,e1,decT hi,decT (show (0:Int)≤(i:Int) by omega),cond_true,Bool.and_true,Bool.not_false]
     refine ⟨trivial,fun _=>⟨⟨i+1,n',a',b',c',rfl,by omega,fun k e hk hke=> ?_,e3⟩,by
      show l.length - (((i+1:Nat):Int)).toNat<l.length - ((i:Int)).toNat
      omega⟩,fun h=>by cases h⟩
     by_cases hki:k=i
     ·subst hki
      rw [hx] at hke; injection hke with hke; subst hke
      exact fun hc=>by have:=e2.2 hc; cases this
     ·exact h2 k e (by omega) hke
   ·have g1:¬ (i:Int)<(l.length:Int):=by omega
    have hil:i=l.length:=by omega
    subst hil
    rw [List.take_length] at h3
    simp only [decF g1,cond_false,Bool.false_and,Bool.not_false]
    exact ⟨trivial,fun h=>(by cases h),fun _=>.inl ⟨by trivial,h2,h3⟩⟩)
 obtain ⟨k1,k2⟩:=key
 unfold slices_IndexFunc_api_Edge_r
 generalize hz:loopR (HL.dflt [.bool,.int .i64,.int .i64,(.fl (.int .i64)),(.fl (.int .i64)),(.fl (.int .i64)),.bool,.int .i64,(.fl (.int .i64)),(.fl (.int .i64)),(.fl (.int .i64))]) (slices_IndexFunc_api_Edge_l0 () l sets up size least) ((0:Int),sets,up,size,least,())=z at k1 k2
 obtain ⟨z1,z2,z3,z4,z5,z6,z7,z8,z9,za,zb,zc,zd⟩:=z
 simp only at k1 k2
 subst k1
 simp only [loopD_eq,hz]
 rcases k2 with ⟨q1,q2,q3⟩ | ⟨q1,i,e,q2,q3,q4,q5,q6⟩
 ·subst q1
  exact ⟨-1,z9,za,zb,zc,rfl,.inl ⟨rfl,q2,q3⟩⟩
 ·subst q1
  exact ⟨z3,z4,z5,z6,z7,rfl,.inr ⟨i,e,q2,q3,q4,q5,q6⟩⟩
theorem delete_r (l:List Ed) (hall:∀ e∈l,May e) (hbig:l.length≤1000000000) (sets:Int) (up size least:List Int) (h:Sets [] up size least):
  ∃ (lo n:Nat) (m:List Ed) (sets':Int) (up' size' least':List Int),slices_DeleteFunc_api_Edge_r () l sets up size least=(true,(lo,n,m,sets',up',size',least'))∧(m.drop lo).take n=greedy [] l∧n=(greedy [] l).length:=by
 obtain ⟨idx,sets1,up1,size1,least1,e1,hcase⟩:=index_r l hall (by omega) sets up size least h
 unfold slices_DeleteFunc_api_Edge_r
 rcases hcase with ⟨rfl,hn,hS⟩ | ⟨i,e,he,rfl,hn,hc,hS⟩
 ·have hg:greedy [] l=l:=by
   have:=greedy_all l.length (Nat.le_refl _) hn
   rwa [List.take_length] at this
  simp only [e1,show ((-1:Int)== -1)=true from rfl,Bool.not_true,cond_false,Bool.and_true]
  exact ⟨0,l.length,l,_,_,_,_,rfl,by rw [List.drop_zero,List.take_length,hg],by rw [hg]⟩
 ·have hil:i<l.length:=(List.getElem?_eq_some_iff.1 he).1
  have hlt:l[i]=e:=(List.getElem?_eq_some_iff.1 he).2
  have hb:((i:Int)== -1)=false:=beqI (by omega)
  have hw:IntKind.i64.wrap ((i:Int)+1)=((i+1:Nat):Int):=by rw [wrap_i64 (by omega) (by omega)]; omega
  have hg0:greedy [] (l.take (i+1))=l.take i:=by
   rw [greedy_take hil,hlt,if_pos hc,greedy_all i (by omega) hn]
  have key:=loopR_by (d:=HL.dflt [.bool,.int .i64,(.fl (.row (.prod (.int .i64) (.prod (.int .i64) (.int .i64))))),.int .i64,(.fl (.int .i64)),(.fl (.int .i64)),(.fl (.int .i64))]) (step:=slices_DeleteFunc_api_Edge_l0 () l sets up size least)
   (fun s:Int × Int × List Ed × Int × List Int × List Int × List Int × Unit=>∃ (j w:Nat) (m:List Ed) (n:Int) (a b c:List Int),s=((j:Int),(w:Int),m,n,a,b,c,())∧j≤l.length∧w<j∧m.length=l.length∧(∀ k,j≤k→m[k]? =l[k]?)∧m.take w=greedy [] (l.take j)∧Sets (l.take j) a b c) (fun s=>l.length - s.1.toNat)
   (fun r:Bool × Int × List Ed × Int × List Int × List Int × List Int × Unit=>∃ (w:Nat) (m:List Ed) (n:Int) (a b c:List Int),r=(true,(w:Int),m,n,a,b,c,())∧w≤m.length∧m.take w=greedy [] l)
   (((i+1:Nat):Int),(i:Int),l,sets1,up1,size1,least1,()) ⟨i+1,i,l,sets1,up1,size1,least1,rfl,by omega,by omega,rfl,fun _ _=>rfl,hg0.symm,hS⟩ (by
    rintro _ ⟨j,w,m,n,a,b,c,rfl,h1,h2,h3,h4,h5,h6⟩
    unfold slices_DeleteFunc_api_Edge_l0
    by_cases hj:j<l.length
    ·have g1:(j:Int)<(m.length:Int):=by omega
     have hw:IntKind.i64.wrap ((j:Int)+1)=((j+1:Nat):Int):=by rw [wrap_i64 (by omega) (by omega)]; omega
     have hw2:IntKind.i64.wrap ((w:Int)+1)=((w+1:Nat):Int):=by rw [wrap_i64 (by omega) (by omega)]; omega
     have hx:l[j]? =some l[j]:=List.getElem?_eq_getElem hj
     have hm:May l[j]:=hall _ (List.getElem_mem hj)
     have hgt:=greedy_take hj
     generalize l[j]=x at hx hm hgt
     have hmx:m[j]? =some x:=by rw [h4 j (Nat.le_refl _)]; exact hx
     have tk:l.take (j+1)=l.take j++ [x]:=by rw [List.take_add_one,hx]; rfl
     obtain ⟨u,n',a',b',c',q1,q2,q3⟩:=least1_r (l.take j) x hm n a b c h6
     rw [← tk] at q3
     cases u with
     | true=>
      rw [if_pos (q2.1 rfl)] at hgt
      simp only [Int.toNat_natCast,decT g1,hw,hmx,Option.getD_some,q1,decT (show j<m.length by omega),decT (show (0:Int)≤(j:Int) by omega),cond_true,cond_false,Bool.and_true,Bool.not_true]
      exact ⟨trivial,fun _=>⟨⟨j+1,w,m,n',a',b',c',rfl,by omega,by omega,h3,fun k hk=>h4 k (by omega),by rw [h5,hgt],q3⟩,by
       show l.length - (((j+1:Nat):Int)).toNat<l.length - ((j:Int)).toNat
       omega⟩,fun h=>by cases h⟩
     | false=>
      rw [if_neg (fun hc=>by have:=q2.2 hc; cases this)] at hgt
      simp only [Int.toNat_natCast,decT g1,hw,hw2,hmx,Option.getD_some,q1,decT (show j<m.length by omega),decT (show w<m.length by omega),decT (show (0:Int)≤(j:Int) by omega),decT (show (0:Int)≤(w:Int) by omega),cond_true,cond_false,Bool.and_true,Bool.not_false,Bool.and_self]
      refine ⟨trivial,fun _=>⟨⟨j+1,w+1,_,n',a',b',c',rfl,by omega,by omega,by simpa using h3,fun k hk=>by rw [List.getElem?_set_ne (by omega)]; exact h4 k (by omega),?_,q3⟩,by
       show l.length - (((j+1:Nat):Int)).toNat<l.length - ((j:Int)).toNat
       omega⟩,fun h=>by cases h⟩
      rw [hgt,← h5,List.take_add_one,List.getElem?_set_self (by omega),List.take_set_of_le (Nat.le_refl w)]
      rfl
    ·have g1:¬ (j:Int)<(m.length:Int):=by omega
     have hjl:j=l.length:=by omega
     subst hjl
     rw [List.take_length] at h5
     simp only [decF g1,cond_false,Bool.not_false]
     exact ⟨trivial,fun h=>(by cases h),fun _=>⟨w,m,n,a,b,c,rfl,by omega,h5⟩⟩)
  obtain ⟨k1,w,m,n,a,b,c,k2,k3,k4⟩:=key
  have hz:=Prod.ext (y:=(true,(true,(w:Int),m,n,a,b,c,()))) k1 k2
  simp only [loopD_eq,e1,hb,hw,hz,Bool.not_false,cond_true,Int.toNat_natCast,decT (show (0:Int)≤(w:Int) by omega),decT k3,Bool.true_and]
  have hL:(m.take w++((List.replicate (m.length - w) ((0:Int),((0:Int),(0:Int))))++m.drop (w+(List.replicate (m.length - w) ((0:Int),((0:Int),(0:Int)))).length))).take w=m.take w:=by
   rw [List.take_append_of_le_length (by simp; omega),List.take_take,Nat.min_self]
  refine ⟨0,w,_,n,a,b,c,?_,by rw [List.drop_zero,hL,k4],by rw [← k4,List.length_take]; omega⟩
  rw [decT (by simp; omega)]
theorem least_r (l:List Ed) (hbig:l.length≤1000000000):∃ (lo n:Nat) (m:List Ed),span_Least_r l=(true,(lo,n,chk l,m))∧(chk l=0→∃ s,s.Perm l∧Sorted s∧(m.drop lo).take n=greedy [] s∧n=(greedy [] s).length)∧(chk l≠0→n=0):=by
 obtain ⟨s,e1,h1,h2⟩:=edgeSort_r l (by omega)
 obtain ⟨sets,up,size,least,e2,hS⟩:=sets_r
 unfold span_Least_r
 by_cases hk:chk l=0
 ·obtain ⟨p1,p2⟩:=h1 hk
  have hall:∀ e∈s,May e:=fun e he=>(chk_zero hk).1.1 e (p1.subset he)
  obtain ⟨lo,n,m,s',u',z',l',e3,h3,h4⟩:=delete_r s hall (by rw [p1.length_eq]; omega) sets up size least hS
  simp only [e1,hk,e2,e3,show ((0:Int) !=0)=false from rfl,Bool.not_false,cond_true,Bool.and_self]
  exact ⟨lo,n,m,rfl,fun _=>⟨s,p1,p2,h3,h4⟩,fun h=>absurd rfl h⟩
 ·simp only [e1,bneI hk,Bool.not_true,cond_false,Bool.and_self]
  exact ⟨0,0,[],rfl,fun h=>absurd h hk,fun _=>rfl⟩
end Go.Proofs.Ytfeepbajipdfaaa.T
namespace Go.Proofs.Ytfeepbajipdfaaa.T
open Go.Vm Go.Tm
set_option linter.unusedVariables false
set_option linter.unusedSimpArgs false
def cnt (m:Nat→Bool):Nat→Nat
 | 0=>0
 | n+1=>cnt m n+(if m n=true then 1 else 0)
theorem cnt_le (m:Nat→Bool):∀ n,cnt m n≤n
 | 0=>Nat.le_refl _
 | n+1=>by
  have:=cnt_le m n
  unfold cnt
  split<;>omega
theorem cnt_no0 (m:Nat→Bool) (h:m 0=false):∀ n,cnt m (n+1)≤n
 | 0=>by simp [cnt,h]
 | n+1=>by
  have:=cnt_no0 m h n
  show cnt m (n+1)+(if m (n+1)=true then 1 else 0)≤n+1
  split<;>omega
theorem cnt_mono {m m':Nat→Bool} (h:∀ j,m j=true→m' j=true):∀ n,cnt m n≤cnt m' n
 | 0=>Nat.le_refl _
 | n+1=>by
  have:=cnt_mono h n
  unfold cnt
  by_cases hm:m n=true
  ·rw [if_pos hm,if_pos (h n hm)]; omega
  ·rw [if_neg hm]; omega
theorem cnt_lt {m m':Nat→Bool} (h:∀ j,m j=true→m' j=true) {j:Nat} (h1:m j=false) (h2:m' j=true):∀ n,j<n→cnt m n<cnt m' n
 | 0,hj=>by omega
 | n+1,hj=>by
  have hm:=cnt_mono h n
  show cnt m n+(if m n=true then 1 else 0)<cnt m' n+(if m' n=true then 1 else 0)
  by_cases hjn:j=n
  ·subst hjn
   rw [if_neg (by rw [h1]; simp),if_pos h2]; omega
  ·have:=cnt_lt h h1 h2 n (by omega)
   by_cases hmn:m n=true
   ·rw [if_pos hmn,if_pos (h n hmn)]; omega
   ·rw [if_neg hmn]; omega
def Closed (l:List Ed) (m:Nat→Bool):Prop:=∀ e∈l,m e.1.toNat=m e.2.1.toNat
structure RSt (l:List Ed) (f:Int) (m:Nat→Bool):Prop where
 sound:∀ j:Nat,m j=true→Conn l f (j:Int)
 start:m f.toNat=true
 zero:m 0=false
theorem reach_l1 (l:List Ed) (hall:∀ e∈l,May e) (hbig:l.length≤1000000000) (f:Int) (m0:Nat→Bool) (h0:RSt l f m0):
  ∃ m:Nat→Bool,loopR (HL.dflt [.bool,(.arr 65 .bool)]) (withyref07_Reach_l1 l f) ((0:Int),m0,())=(true,(true,m,()))∧RSt l f m∧(Closed l m0→m=m0)∧(cnt m0 65<cnt m 65∨(m=m0∧Closed l m0)):=by
 have key:=loopR_by (d:=HL.dflt [.bool,(.arr 65 .bool)]) (step:=withyref07_Reach_l1 l f)
  (fun s:Int × (Nat→Bool) × Unit=>∃ (i:Nat) (m:Nat→Bool),s=((i:Int),m,())∧i≤l.length∧RSt l f m∧(∀ j,m0 j=true→m j=true)∧(Closed l m0→m=m0)∧(cnt m0 65<cnt m 65∨(m=m0∧Closed (l.take i) m0))) (fun s=>l.length - s.1.toNat)
  (fun r:Bool × (Nat→Bool) × Unit=>∃ m,r=(true,m,())∧RSt l f m∧(Closed l m0→m=m0)∧(cnt m0 65<cnt m 65∨(m=m0∧Closed l m0))) ((0:Int),m0,()) ⟨0,m0,rfl,Nat.zero_le _,h0,fun _ h=>h,fun _=>rfl,.inr ⟨rfl,fun e he=>by simp at he⟩⟩ (by
   rintro _ ⟨i,m,rfl,h1,h2,h3,h4,h5⟩
   unfold withyref07_Reach_l1
   by_cases hi:i<l.length
   ·have g1:(i:Int)<(l.length:Int):=by omega
    have hw:IntKind.i64.wrap ((i:Int)+1)=((i+1:Nat):Int):=by rw [wrap_i64 (by omega) (by omega)]; omega
    have hx:l[i]? =some l[i]:=List.getElem?_eq_getElem hi
    have hmem:l[i]∈l:=List.getElem_mem hi
    generalize l[i]=x at hx hmem
    obtain ⟨y1,y2,y3,y4,y5,y6,y7⟩:=hall x hmem
    obtain ⟨a,ea⟩:∃ a:Nat,x.1=(a:Int):=⟨x.1.toNat,by omega⟩
    obtain ⟨b,eb⟩:∃ b:Nat,x.2.1=(b:Int):=⟨x.2.1.toNat,by omega⟩
    have tk:l.take (i+1)=l.take i++ [x]:=by rw [List.take_add_one,hx]; rfl
    have hdone:∀ m':Nat→Bool,m'=(cond (cond (m a) true (m b)) (fun j=>bif Nat.beq j b then true else (fun j=>bif Nat.beq j a then true else m j) j) m)→(RSt l f m'∧(∀ j,m0 j=true→m' j=true)∧(Closed l m0→m'=m0)∧(cnt m0 65<cnt m' 65∨(m'=m0∧Closed (l.take (i+1)) m0))):=by
     intro m' hm'
     have hset:∀ j,(fun j=>bif Nat.beq j b then true else (fun j=>bif Nat.beq j a then true else m j) j) j=true↔j=b∨j=a∨m j=true:=fun j=>by
      show (bif Nat.beq j b then true else (bif Nat.beq j a then true else m j))=true↔_
      by_cases h1:j=b
      ·subst h1; simp [Nat.beq_refl]
      ·have e1:Nat.beq j b=false:=Bool.eq_false_iff.2 fun h=>h1 (Nat.eq_of_beq_eq_true h)
       by_cases h2:j=a
       ·subst h2; simp [e1,Nat.beq_refl]
       ·have e2:Nat.beq j a=false:=Bool.eq_false_iff.2 fun h=>h2 (Nat.eq_of_beq_eq_true h)
        simp [e1,e2,h1,h2]
     have hcl:m0 a=m0 b→m=m0→Closed (l.take i) m0→Closed (l.take (i+1)) m0:=fun hab _ hc e he=>by
      rw [tk] at he
      rcases List.mem_append.1 he with he | he
      ·exact hc e he
      ·rw [List.mem_singleton.1 he,ea,eb]; exact hab
     by_cases hc:(cond (m a) true (m b))=true
     ·rw [hc,cond_true] at hm'
      have hc':m a=true∨m b=true:=by cases h:m a<;>simp_all
      by_cases hboth:m a=true∧m b=true
      ·have hsame:m'=m:=by
        funext j
        rw [hm']
        apply Bool.eq_iff_iff.2
        rw [hset]
        constructor
        ·rintro (rfl | rfl | h)
         ·exact hboth.2
         ·exact hboth.1
         ·exact h
        ·exact fun h=>.inr (.inr h)
       rw [hsame]
       refine ⟨h2,h3,h4,?_⟩
       rcases h5 with h5 | ⟨h5,h6⟩
       ·exact .inl h5
       ·exact .inr ⟨h5,hcl (by rw [← h5,hboth.1,hboth.2]) h5 h6⟩
      ·have hsub:∀ j,m j=true→m' j=true:=fun j hj=>by rw [hm']; exact (hset j).2 (.inr (.inr hj))
       have hnew:cnt m 65<cnt m' 65:=by
        rcases hc' with h | h
        ·have hb:m b=false:=Bool.eq_false_iff.2 fun hh=>hboth ⟨h,hh⟩
         exact cnt_lt hsub hb (by rw [hm']; exact (hset b).2 (.inl rfl)) 65 (by omega)
        ·have hb:m a=false:=Bool.eq_false_iff.2 fun hh=>hboth ⟨hh,h⟩
         exact cnt_lt hsub hb (by rw [hm']; exact (hset a).2 (.inr (.inl rfl))) 65 (by omega)
       have hle:=cnt_mono h3 65
       refine ⟨⟨fun j hj=> ?_,hsub _ h2.start,Bool.eq_false_iff.2 fun hh=> ?_⟩,fun j hj=>hsub j (h3 j hj),fun hcl0=> ?_,.inl (by omega)⟩
       ·rw [hm',hset] at hj
        have hAB:Conn l f x.1∨Conn l f x.2.1:=by
         rcases hc' with h | h
         ·left; rw [ea]; exact h2.sound a h
         ·right; rw [eb]; exact h2.sound b h
        rcases hj with rfl | rfl | hj
        ·rw [← eb]
         rcases hAB with h | h
         ·exact .fwd hmem h
         ·exact h
        ·rw [← ea]
         rcases hAB with h | h
         ·exact h
         ·exact .bwd hmem h
        ·exact h2.sound j hj
       ·rw [hm',hset] at hh
        rcases hh with h | h | h
        ·omega
        ·omega
        ·rw [h2.zero] at h; cases h
       ·have hmm:=h4 hcl0
        exfalso
        have:=hcl0 x hmem
        rw [ea,eb] at this
        simp only [Int.toNat_natCast] at this
        rw [← hmm] at this
        rcases hc' with h | h
        ·exact hboth ⟨h,by rw [← this]; exact h⟩
        ·exact hboth ⟨by rw [this]; exact h,h⟩
     ·have hcf:=Bool.eq_false_iff.2 hc
      rw [hcf,cond_false] at hm'
      have h00:m a=false∧m b=false:=by cases h:m a<;>simp_all
      rw [hm']
      refine ⟨h2,h3,h4,?_⟩
      rcases h5 with h5 | ⟨h5,h6⟩
      ·exact .inl h5
      ·exact .inr ⟨h5,hcl (by rw [← h5,h00.1,h00.2]) h5 h6⟩
    obtain ⟨k1,k2,k3,k4⟩:=hdone _ rfl
    refine ⟨?_,fun _=>⟨⟨i+1,_,?_,by omega,k1,k2,k3,k4⟩,by
     simp only [hw,Int.toNat_natCast]; omega⟩,fun h=> ?_⟩
    ·simp only [Int.toNat_natCast,decT g1,hx,Option.getD_some,ea,eb,decT hi,decT (show (0:Int)≤(i:Int) by omega),decT (show (0:Int)≤(a:Int) by omega),decT (show (0:Int)≤(b:Int) by omega),decT (show a<65 by omega),decT (show b<65 by omega),cond_true,Bool.and_true,Bool.and_self,Bool.cond_self]
     cases m a<;>simp
    ·simp only [hw,Int.toNat_natCast,hx,Option.getD_some,ea,eb]
    ·simp only [decT g1] at h; cases h
   ·have g1:¬ (i:Int)<(l.length:Int):=by omega
    have hil:i=l.length:=by omega
    subst hil
    rw [List.take_length] at h5
    simp only [decF g1,cond_false,Bool.not_false]
    exact ⟨trivial,fun h=>(by cases h),fun _=>⟨m,rfl,h2,h4,h5⟩⟩)
 obtain ⟨k1,m,k2,k3⟩:=key
 exact ⟨m,Prod.ext k1 k2,k3⟩
theorem reach_r (l:List Ed) (hall:∀ e∈l,May e) (hbig:l.length≤1000000000) (f:Int) (hf:1≤f∧f≤64):∃ m:Nat→Bool,withyref07_Reach_r l f=(true,m)∧∀ j:Nat,m j=true↔Conn l f (j:Int):=by
 obtain ⟨a,rfl⟩:∃ a:Nat,f=(a:Int):=⟨f.toNat,by omega⟩
 have hone:∀ z:Nat→Bool,(∀ j,z j=false)→RSt l (a:Int) (fun j=>bif Nat.beq j a then true else z j):=fun z hz=>by
  have hj:∀ j,(bif Nat.beq j a then true else z j)=true↔j=a:=fun j=>by
   by_cases h:j=a
   ·subst h; simp [Nat.beq_refl]
   ·have:Nat.beq j a=false:=Bool.eq_false_iff.2 fun hh=>h (Nat.eq_of_beq_eq_true hh)
    simp [this,hz,h]
  exact ⟨fun j h=>by rw [(hj j).1 h]; exact .refl,(hj _).2 (by simp),Bool.eq_false_iff.2 fun h=>by have:=(hj 0).1 h; omega⟩
 have key:∀ z:Nat→Bool,(∀ j,z j=false)→(loopR (HL.dflt [.bool,(.arr 65 .bool)]) (withyref07_Reach_l0 l (a:Int)) ((0:Int),(fun j=>bif Nat.beq j a then true else z j),())).1=true∧(fun r:Bool × (Nat→Bool) × Unit=>∃ m,r=(true,m,())∧RSt l (a:Int) m∧Closed l m) (loopR (HL.dflt [.bool,(.arr 65 .bool)]) (withyref07_Reach_l0 l (a:Int)) ((0:Int),(fun j=>bif Nat.beq j a then true else z j),())).2:=fun z hz=>by
  refine loopR_by (d:=HL.dflt [.bool,(.arr 65 .bool)]) (step:=withyref07_Reach_l0 l (a:Int))
   (fun s:Int × (Nat→Bool) × Unit=>∃ (k:Nat) (m:Nat→Bool),s=((k:Int),m,())∧k≤64∧RSt l (a:Int) m∧(Closed l m∨k<cnt m 65)) (fun s=>64 - s.1.toNat)
   (fun r:Bool × (Nat→Bool) × Unit=>∃ m,r=(true,m,())∧RSt l (a:Int) m∧Closed l m) ((0:Int),(fun j=>bif Nat.beq j a then true else z j),()) ⟨0,_,rfl,by omega,hone z hz,.inr ?_⟩ ?_
  ·have:cnt (fun _=>false) 65<cnt (fun j=>bif Nat.beq j a then true else z j) 65:=cnt_lt (fun j h=>by cases h) (j:=a) rfl (by simp [Nat.beq_refl]) 65 (by omega)
   omega
  ·rintro _ ⟨k,m,rfl,h1,h2,h3⟩
   unfold withyref07_Reach_l0
   obtain ⟨m',e1,q1,q2,q3⟩:=reach_l1 l hall hbig (a:Int) m h2
   by_cases hk:k<64
   ·have g1:(k:Int)<64:=by omega
    have hw:IntKind.i64.wrap ((k:Int)+1)=((k+1:Nat):Int):=by rw [wrap_i64 (by omega) (by omega)]; omega
    simp only [loopD_eq,e1,decT g1,hw,cond_true]
    refine ⟨trivial,fun _=>⟨⟨k+1,m',rfl,by omega,q1,?_⟩,by
     show 64 - (((k+1:Nat):Int)).toNat<64 - ((k:Int)).toNat
     omega⟩,fun h=>by cases h⟩
    rcases q3 with q3 | ⟨q3,q4⟩
    ·rcases h3 with h3 | h3
     ·exact .inl (by rw [q2 h3]; exact h3)
     ·exact .inr (by omega)
    ·exact .inl (by rw [q3]; exact q4)
   ·have g1:¬ (k:Int)<64:=by omega
    simp only [decF g1,cond_false,Bool.not_false]
    refine ⟨trivial,fun h=>(by cases h),fun _=>⟨m,rfl,h2,?_⟩⟩
    rcases h3 with h3 | h3
    ·exact h3
    ·have:cnt m 65≤64:=cnt_no0 m h2.zero 64
     omega
 obtain ⟨k1,m,k2,k3,k4⟩:=key _ (fun j=>none_in j)
 unfold withyref07_Reach_r
 simp only [loopD_eq,refNode_r,Int.toNat_natCast,decT hf,Bool.not_true,Bool.not_false,cond_true,decT (show (0:Int)≤(a:Int) by omega),decT (show a<65 by omega),Bool.true_and]
 refine ⟨m,Prod.ext k1 (congrArg (fun r:Bool × (Nat→Bool) × Unit=>r.2.1) k2),fun j=>⟨k3.sound j,fun h=> ?_⟩⟩
 have hgo:∀ b,Conn l (a:Int) b→m b.toNat=true:=fun b hb=>by
  induction hb with
  | refl=>exact k3.start
  | fwd he _ ih=>rw [← k4 _ he]; exact ih
  | bwd he _ ih=>rw [k4 _ he]; exact ih
 have:=hgo _ h
 simpa using this
open Classical in
theorem refLinked_r (l:List Ed) (hall:∀ e∈l,May e) (hbig:l.length≤1000000000) (a b:Int) (ha:1≤a∧a≤64) (hb:1≤b∧b≤64):withyref07_Linked_r l a b=(true,decide (Conn l a b)):=by
 obtain ⟨m,e1,h1⟩:=reach_r l hall hbig a ha
 unfold withyref07_Linked_r
 simp only [refNode_r,decT ha,decT hb,e1,cond_true,Bool.and_self,Bool.and_true,Bool.true_and,decT (show (0:Int)≤b by omega),decT (show b.toNat<65 by omega)]
 have h2:=h1 b.toNat
 rw [show ((b.toNat:Nat):Int)=b by omega] at h2
 congr 1
 by_cases hc:Conn l a b
 ·rw [decT hc]; exact h2.2 hc
 ·rw [decF hc]; exact Bool.eq_false_iff.2 fun hh=>hc (h2.1 hh)
end Go.Proofs.Ytfeepbajipdfaaa.T
namespace Go.Proofs.Ytfeepbajipdfaaa.T
open Go.Vm Go.Tm
set_option linter.unusedVariables false
set_option linter.unusedSimpArgs false
theorem forest1_r (l:List Ed) (e:Ed) (he:May e) (sets:Int) (up size least:List Int) (h:Sets l up size least):
  ∃ (u:Bool) (sets':Int) (up' size' least':List Int),span_Forest_1_r e sets up size least=(true,(u,sets',up',size',least'))∧(u=true↔Conn l e.1 e.2.1)∧Sets (l++ [e]) up' size' least':=by
 obtain ⟨u,sets',up',size',least',e1,h1,h2⟩:=unite_r l e he sets up size least h
 unfold span_Forest_1_r
 simp only [e1]
 refine ⟨!u,sets',up',size',least',rfl,?_,h2⟩
 cases u
 ·simp at h1 ⊢; exact h1
 ·simp at h1 ⊢; exact h1
theorem index2_r (l:List Ed) (hall:∀ e∈l,May e) (hbig:l.length≤1152921504606846976) (sets:Int) (up size least:List Int) (h:Sets [] up size least):
  ∃ (idx sets':Int) (up' size' least':List Int),slices_IndexFunc_api_Edge_2_r l () sets up size least=(true,(idx,sets',up',size',least'))∧
   ((idx= -1∧NoneTo l l.length∧Sets l up' size' least')∨∃ (i:Nat) (e:Ed),l[i]? =some e∧idx=(i:Int)∧NoneTo l i∧Conn (l.take i) e.1 e.2.1∧Sets (l.take (i+1)) up' size' least'):=by
 have key:=loopR_by (d:=HL.dflt [.bool,.int .i64,.int .i64,(.fl (.int .i64)),(.fl (.int .i64)),(.fl (.int .i64)),.bool,.int .i64,(.fl (.int .i64)),(.fl (.int .i64)),(.fl (.int .i64))]) (step:=slices_IndexFunc_api_Edge_2_l0 l () sets up size least)
  (fun s:Int × Int × List Int × List Int × List Int × Unit=>∃ (i:Nat) (n:Int) (a b c:List Int),s=((i:Int),n,a,b,c,())∧i≤l.length∧NoneTo l i∧Sets (l.take i) a b c) (fun s=>l.length - s.1.toNat)
  (fun r:Bool × Int × Int × List Int × List Int × List Int × Bool × Int × List Int × List Int × List Int × Unit=>
   (r.2.2.2.2.2.2.1=true∧NoneTo l l.length∧Sets l r.2.2.2.2.2.2.2.2.1 r.2.2.2.2.2.2.2.2.2.1 r.2.2.2.2.2.2.2.2.2.2.1)∨
   (r.2.2.2.2.2.2.1=false∧∃ (i:Nat) (e:Ed),l[i]? =some e∧r.2.1=(i:Int)∧NoneTo l i∧Conn (l.take i) e.1 e.2.1∧Sets (l.take (i+1)) r.2.2.2.1 r.2.2.2.2.1 r.2.2.2.2.2.1))
  ((0:Int),sets,up,size,least,()) ⟨0,sets,up,size,least,rfl,Nat.zero_le _,fun k e hk=>by omega,by rw [List.take_zero]; exact h⟩ (by
   rintro _ ⟨i,n,a,b,c,rfl,h1,h2,h3⟩
   unfold slices_IndexFunc_api_Edge_2_l0
   by_cases hi:i<l.length
   ·have g1:(i:Int)<(l.length:Int):=by omega
    have hw:IntKind.i64.wrap ((i:Int)+1)=((i+1:Nat):Int):=by rw [wrap_i64 (by omega) (by omega)]; omega
    have hx:l[i]? =some l[i]:=List.getElem?_eq_getElem hi
    have hm:May l[i]:=hall _ (List.getElem_mem hi)
    generalize l[i]=x at hx hm
    have tk:l.take (i+1)=l.take i++ [x]:=by rw [List.take_add_one,hx]; rfl
    obtain ⟨u,n',a',b',c',e1,e2,e3⟩:=forest1_r (l.take i) x hm n a b c h3
    rw [← tk] at e3
    cases u with
    | true=>
     simp only [Int.toNat_natCast,decT g1,hw,hx,Option.getD_some,e1,decT hi,decT (show (0:Int)≤(i:Int) by omega),cond_true,Bool.and_true,Bool.not_true,Bool.and_false]
     exact ⟨trivial,fun h=>(by cases h),fun _=>.inr ⟨by trivial,i,x,hx,rfl,h2,e2.1 rfl,e3⟩⟩
    | false=>
     simp only [Int.toNat_natCast,decT g1,hw,hx,Option.getD_some,e1,decT hi,decT (show (0:Int)≤(i:Int) by omega),cond_true,Bool.and_true,Bool.not_false]
     refine ⟨trivial,fun _=>⟨⟨i+1,n',a',b',c',rfl,by omega,fun k e hk hke=> ?_,e3⟩,by
      show l.length - (((i+1:Nat):Int)).toNat<l.length - ((i:Int)).toNat
      omega⟩,fun h=>by cases h⟩
     by_cases hki:k=i
     ·subst hki
      rw [hx] at hke; injection hke with hke; subst hke
      exact fun hc=>by have:=e2.2 hc; cases this
     ·exact h2 k e (by omega) hke
   ·have g1:¬ (i:Int)<(l.length:Int):=by omega
    have hil:i=l.length:=by omega
    subst hil
    rw [List.take_length] at h3
    simp only [decF g1,cond_false,Bool.false_and,Bool.not_false]
    exact ⟨trivial,fun h=>(by cases h),fun _=>.inl ⟨by trivial,h2,h3⟩⟩)
 obtain ⟨k1,k2⟩:=key
 unfold slices_IndexFunc_api_Edge_2_r
 generalize hz:loopR (HL.dflt [.bool,.int .i64,.int .i64,(.fl (.int .i64)),(.fl (.int .i64)),(.fl (.int .i64)),.bool,.int .i64,(.fl (.int .i64)),(.fl (.int .i64)),(.fl (.int .i64))]) (slices_IndexFunc_api_Edge_2_l0 l () sets up size least) ((0:Int),sets,up,size,least,())=z at k1 k2
 obtain ⟨z1,z2,z3,z4,z5,z6,z7,z8,z9,za,zb,zc,zd⟩:=z
 simp only at k1 k2
 subst k1
 simp only [loopD_eq,hz]
 rcases k2 with ⟨q1,q2,q3⟩ | ⟨q1,i,e,q2,q3,q4,q5,q6⟩
 ·subst q1
  exact ⟨-1,z9,za,zb,zc,rfl,.inl ⟨rfl,q2,q3⟩⟩
 ·subst q1
  exact ⟨z3,z4,z5,z6,z7,rfl,.inr ⟨i,e,q2,q3,q4,q5,q6⟩⟩
open Classical in
theorem forest_r (l:List Ed) (hbig:l.length≤1000000000):span_Forest_r l=(true,decide (chk l=0∧NoneTo l l.length)):=by
 obtain ⟨sets,up,size,least,e2,hS⟩:=sets_r
 unfold span_Forest_r
 by_cases hk:chk l=0
 ·have hall:∀ e∈l,May e:=(chk_zero hk).1.1
  obtain ⟨idx,s',u',z',l',e3,hc⟩:=index2_r l hall (by omega) sets up size least hS
  unfold slices_ContainsFunc_api_Edge_r
  simp only [e2,e3,checkAll_r l (by omega),hk,show ((0:Int)==0)=true from rfl,cond_true,Bool.and_self,Bool.true_and]
  congr 1
  rcases hc with ⟨rfl,h1,_⟩ | ⟨i,e,h1,rfl,h2,h3,_⟩
  ·rw [decF (show ¬ (-1:Int)≥0 by omega),decT ⟨trivial,h1⟩]; rfl
  ·rw [decT (show (i:Int)≥0 by omega),decF (fun h=>h.2 i e (List.getElem?_eq_some_iff.1 h1).1 h1 h3)]; rfl
 ·simp only [e2,checkAll_r l (by omega),beqI hk,cond_false,Bool.and_self,Bool.and_true,Bool.true_and,decF (fun h:chk l=0∧NoneTo l l.length=>hk h.1)]
end Go.Proofs.Ytfeepbajipdfaaa.T
namespace Go.Proofs.Ytfeepbajipdfaaa.T
open Go.Vm Go.Tm
set_option linter.unusedVariables false
set_option linter.unusedSimpArgs false
theorem united_r (l:List Ed) (hall:∀ e∈l,May e) (hbig:l.length≤1000000000):∃ (sets:Int) (up size least:List Int),span_united_r l=(true,(sets,up,size,least))∧Sets l up size least:=by
 obtain ⟨sets,up,size,least,e2,hS⟩:=sets_r
 have key:=loopR_by (d:=HL.dflt [.bool,.int .i64,(.fl (.int .i64)),(.fl (.int .i64)),(.fl (.int .i64))]) (step:=span_united_l0 l)
  (fun s:Int × Int × List Int × List Int × List Int × Unit=>∃ (i:Nat) (n:Int) (a b c:List Int),s=((i:Int),n,a,b,c,())∧i≤l.length∧Sets (l.take i) a b c) (fun s=>l.length - s.1.toNat)
  (fun r:Bool × Int × List Int × List Int × List Int × Unit=>Sets l r.2.2.1 r.2.2.2.1 r.2.2.2.2.1) ((0:Int),sets,up,size,least,()) ⟨0,sets,up,size,least,rfl,Nat.zero_le _,by rw [List.take_zero]; exact hS⟩ (by
   rintro _ ⟨i,n,a,b,c,rfl,h1,h3⟩
   unfold span_united_l0
   by_cases hi:i<l.length
   ·have g1:(i:Int)<(l.length:Int):=by omega
    have hw:IntKind.i64.wrap ((i:Int)+1)=((i+1:Nat):Int):=by rw [wrap_i64 (by omega) (by omega)]; omega
    have hx:l[i]? =some l[i]:=List.getElem?_eq_getElem hi
    have hm:May l[i]:=hall _ (List.getElem_mem hi)
    generalize l[i]=x at hx hm
    have tk:l.take (i+1)=l.take i++ [x]:=by rw [List.take_add_one,hx]; rfl
    obtain ⟨u,n',a',b',c',e1,e2,e3⟩:=unite_r (l.take i) x hm n a b c h3
    rw [← tk] at e3
    simp only [Int.toNat_natCast,decT g1,hw,hx,Option.getD_some,e1,decT hi,decT (show (0:Int)≤(i:Int) by omega),cond_true,Bool.and_self,Bool.and_true]
    exact ⟨trivial,fun _=>⟨⟨i+1,n',a',b',c',rfl,by omega,e3⟩,by
     show l.length - (((i+1:Nat):Int)).toNat<l.length - ((i:Int)).toNat
     omega⟩,fun h=>by cases h⟩
   ·have g1:¬ (i:Int)<(l.length:Int):=by omega
    have hil:i=l.length:=by omega
    subst hil
    rw [List.take_length] at h3
    simp only [decF g1,cond_false]
    exact ⟨trivial,fun h=>(by cases h),fun _=>h3⟩)
 unfold span_united_r
 simp only [loopD_eq,e2,key.1,Bool.and_self]
 exact ⟨_,_,_,_,rfl,key.2⟩
open Classical in
theorem joinSame_r (l:List Ed) (a b:Int) (ha:1≤a∧a≤64) (hb:1≤b∧b≤64) (sets:Int) (up size least:List Int) (h:Sets l up size least):∃ up',join_Join__Same_r a b sets up size least=(true,(decide (Conn l a b),up')):=by
 obtain ⟨hs,hl,R,ρ,B,hu,hc⟩:=h
 obtain ⟨x,rfl⟩:∃ x:Nat,a=(x:Int):=⟨a.toNat,by omega⟩
 obtain ⟨y,rfl⟩:∃ y:Nat,b=(y:Int):=⟨b.toNat,by omega⟩
 obtain ⟨up1,e1,u1⟩:=top_r hu x (by omega) sets size least
 obtain ⟨up2,e2,u2⟩:=top_r u1 y (by omega) sets size least
 have h1:=has_r (x:Int) sets up size least hu.len
 have h2:=has_r (y:Int) sets up size least hu.len
 rw [decT (show 1≤(x:Int)∧(x:Int)<65 by omega)] at h1
 rw [decT (show 1≤(y:Int)∧(y:Int)<65 by omega)] at h2
 have hab:=hc x y (by omega) (by omega)
 unfold join_Join__Same_r
 simp only [h1,h2,e1,e2,cond_true,Bool.and_self]
 refine ⟨up2,?_⟩
 by_cases hR:R x=R y
 ·rw [decT (hab.1 hR),hR]; simp
 ·rw [decF (fun h=>hR (hab.2 h)),beqI (show ¬ (R x:Int)=(R y:Int) by omega)]
open Classical in
theorem linked_r (l:List Ed) (hk:chk l=0) (a b:Int) (ha:1≤a∧a≤64) (hb:1≤b∧b≤64):span_Linked_r l a b=(true,decide (Conn l a b)):=by
 have h512:=(chk_zero hk).2
 obtain ⟨sets,up,size,least,e1,hS⟩:=united_r l (chk_zero hk).1.1 (by omega)
 obtain ⟨up',e2⟩:=joinSame_r l a b ha hb sets up size least hS
 unfold span_Linked_r
 simp only [checkAll_r l (by omega),hk,e1,e2,show ((0:Int)==0)=true from rfl,cond_true,Bool.and_self]
open Classical in
theorem awake7_r:withylaw07_awake_r=(true,true):=by
 have hk0:chk [(1,2,5),(2,3,1),(1,3,1)]=0:=by simp [chk,AllMay,May,Apart]
 have hk1:chk [(1,3,1),(2,3,1)]=0:=by simp [chk,AllMay,May,Apart]
 have n13:¬ Conn [] 1 3:=by rw [conn_nil]; omega
 have n23:¬ Conn [(1,3,1)] 2 3:=by
  have:= @conn_snoc [] (1,3,1) 2 3
  rw [List.nil_append] at this
  rw [this]
  simp only [conn_nil]
  simp
 have c12:Conn [(1,3,1),(2,3,1)] 1 2:=by
  have h1:Conn [(1,3,1),(2,3,1)] 1 3:=Conn.fwd (e:=(1,3,1)) (.head _) .refl
  exact Conn.bwd (e:=(2,3,1)) (.tail _ (.head _)) h1
 obtain ⟨lo,n,m,e1,h1,_⟩:=least_r [(1,2,5),(2,3,1),(1,3,1)] (by simp)
 obtain ⟨s,p1,p2,h2,h3⟩:=h1 hk0
 have hs:s= [(1,3,1),(2,3,1),(1,2,5)]:=by
  refine sorted_unique (l:= [(1,2,5),(2,3,1),(1,3,1)]) p1 ?_ p2 ?_
  ·have a1:List.Perm [((1:Int),(3:Int),(1:Int)),(2,3,1),(1,2,5)] ((1,2,5):: [(1,3,1),(2,3,1)]):=(List.perm_append_comm (l₁:= [(1,3,1),(2,3,1)]) (l₂:= [(1,2,5)]))
   exact a1.trans ((List.Perm.swap _ _ _).cons _)
  ·simp [Sorted,lt,edgeCmp,firstNz,cmpI]
 have hg:greedy [] s= [(1,3,1),(2,3,1)]:=by
  rw [hs]
  unfold greedy
  rw [if_neg n13]
  unfold greedy
  rw [List.nil_append,if_neg n23]
  unfold greedy
  rw [if_pos (show Conn ([(1,3,1)]++ [(2,3,1)]) ((1,2,5):Ed).1 ((1,2,5):Ed).2.1 from c12)]
  rfl
 rw [hg] at h2 h3
 have hf:=forest_r [(1,3,1),(2,3,1)] (by simp)
 rw [decT (show chk [(1,3,1),(2,3,1)]=0∧NoneTo [(1,3,1),(2,3,1)] [((1:Int),(3:Int),(1:Int)),(2,3,1)].length from ⟨hk1,fun k e hk he=>by
  match k,hk with
  | 0,_=>simp at he; subst he; exact n13
  | 1,_=>simp at he; subst he; exact n23⟩)] at hf
 have hl:=linked_r [(1,3,1),(2,3,1)] hk1 1 2 (by omega) (by omega)
 rw [decT c12] at hl
 unfold withylaw07_awake_r
 simp only [e1,hk0,show ((0:Int)==0)=true from rfl,cond_true,h2,same_r [(1,3,1),(2,3,1)] [(1,3,1),(2,3,1)] (by simp),decide_true,hf,hl,Bool.and_self]
end Go.Proofs.Ytfeepbajipdfaaa.T
namespace Go.Proofs.Ytfeepbajipdfaaa.T
open Go.Vm Go.Tm
set_option linter.unusedVariables false
set_option linter.unusedSimpArgs false
def Strict (l:List Ed):Prop:=l.Pairwise lt
theorem strict_of {s:List Ed} (h1:Sorted s) (h2:s.Pairwise Apart):Strict s:=by
 unfold Strict
 rw [List.pairwise_iff_getElem]
 intro i j hi hj hij
 exact ahead h1 h2 i j hij hj
theorem strict_eq:∀ {l m:List Ed},Strict l→Strict m→(∀ x,x∈l↔x∈m)→l=m
 | [],[],_,_,_=>rfl
 | [],b::m,_,_,h=>by have:=(h b).2 (.head _); cases this
 | a::l,[],_,_,h=>by have:=(h a).1 (.head _); cases this
 | a::l,b::m,hl,hm,h=>by
  unfold Strict at hl hm
  rw [List.pairwise_cons] at hl hm
  have hab:a=b:=by
   have h1:=(h a).1 (.head _)
   have h2:=(h b).2 (.head _)
   cases h1 with
   | head=>rfl
   | tail _ h1=>cases h2 with
    | head=>rfl
    | tail _ h2=>exact absurd (hl.1 b h2) (lt_asym _ _ (hm.1 a h1))
  subst hab
  rw [strict_eq (l:=l) (m:=m) hl.2 hm.2 (fun x=>⟨fun hx=>by
   have:=(h x).1 (.tail _ hx)
   cases this with
   | head=>exact absurd (hl.1 a hx) (lt_irr a)
   | tail _ k=>exact k,fun hx=>by
   have:=(h x).2 (.tail _ hx)
   cases this with
   | head=>exact absurd (hm.1 a hx) (lt_irr a)
   | tail _ k=>exact k⟩)]
theorem Strict.sub {l m:List Ed} (h:Strict m) (hs:l.Sublist m):Strict l:=List.Pairwise.sublist hs h
open Classical in
theorem greedy_append:∀ (l1 acc l2:List Ed),greedy acc (l1++l2)=greedy (greedy acc l1) l2
 | [],acc,l2=>rfl
 | e::l1,acc,l2=>by
  have h1:greedy acc (e::l1++l2)=if Conn acc e.1 e.2.1 then greedy acc (l1++l2) else greedy (acc++ [e]) (l1++l2):=rfl
  have h2:greedy acc (e::l1)=if Conn acc e.1 e.2.1 then greedy acc l1 else greedy (acc++ [e]) l1:=rfl
  rw [h1,h2]
  by_cases hc:Conn acc e.1 e.2.1
  ·rw [if_pos hc,if_pos hc]; exact greedy_append l1 acc l2
  ·rw [if_neg hc,if_neg hc]; exact greedy_append l1 (acc++ [e]) l2
theorem front {s:List Ed} (hs:Strict s) (x:Ed):∃ k,k≤s.length∧∀ y,y∈s.take k↔y∈s∧lt y x:=by
 induction s with
 | nil=>exact ⟨0,Nat.le_refl _,fun y=>by simp⟩
 | cons a s ih=>
  unfold Strict at hs
  rw [List.pairwise_cons] at hs
  by_cases ha:lt a x
  ·obtain ⟨k,h1,h2⟩:=ih hs.2
   refine ⟨k+1,by simp; omega,fun y=> ?_⟩
   rw [List.take_succ_cons,List.mem_cons,List.mem_cons,h2]
   constructor
   ·rintro (rfl | h)
    ·exact ⟨.inl rfl,ha⟩
    ·exact ⟨.inr h.1,h.2⟩
   ·rintro ⟨rfl | h,h'⟩
    ·exact .inl rfl
    ·exact .inr ⟨h,h'⟩
  ·refine ⟨0,Nat.zero_le _,fun y=>⟨fun h=>by simp at h,fun ⟨h,h'⟩=> ?_⟩⟩
   exfalso
   rcases List.mem_cons.1 h with rfl | h
   ·exact ha h'
   ·exact le_trans' x a y ha (lt_asym _ _ (hs.1 y h)) h'
theorem front_conn {s:List Ed} (hs:Strict s) (x:Ed) (a b:Int):Conn (s.filter (fun y=>decide (lt y x))) a b↔Conn ((greedy [] s).filter (fun y=>decide (lt y x))) a b:=by
 obtain ⟨k,h1,h2⟩:=front hs x
 constructor
 ·intro h
  have h3:Conn (s.take k) a b:=h.mono fun y hy=>by
   obtain ⟨m1,m2⟩:=List.mem_filter.1 hy
   exact (h2 y).2 ⟨m1,of_decide_eq_true m2⟩
  refine ((greedy_conn k s h1 a b).2 h3).mono fun y hy=>List.mem_filter.2 ⟨?_,decide_eq_true ((h2 y).1 ((greedy_sublist _).subset hy)).2⟩
  obtain ⟨m,e1,_⟩:=greedy_acc (s.drop k) (greedy [] (s.take k))
  have e2:=greedy_append (s.take k) [] (s.drop k)
  rw [List.take_append_drop,e1] at e2
  rw [e2]; exact List.mem_append_left _ hy
 ·intro h
  exact h.mono fun y hy=>by
   obtain ⟨m1,m2⟩:=List.mem_filter.1 hy
   exact List.mem_filter.2 ⟨(greedy_sublist s).subset m1,m2⟩
open Classical in
theorem mem_greedy {s:List Ed} (hs:Strict s) (x:Ed):x∈greedy [] s↔x∈s∧¬ Conn (s.filter (fun y=>decide (lt y x))) x.1 x.2.1:=by
 constructor
 ·intro hx
  have hxs:=(greedy_sublist s).subset hx
  refine ⟨hxs,fun hc=> ?_⟩
  rw [front_conn hs] at hc
  obtain ⟨i,hi⟩:=List.mem_iff_getElem?.1 hx
  refine greedy_acyc' s i x hi (hc.mono fun y hy=> ?_)
  obtain ⟨m1,m2⟩:=List.mem_filter.1 hy
  obtain ⟨j,hj⟩:=List.mem_iff_getElem?.1 m1
  have hlt:lt y x:=of_decide_eq_true m2
  have hg:Strict (greedy [] s):=hs.sub (greedy_sublist s)
  obtain ⟨hil,hix⟩:=List.getElem?_eq_some_iff.1 hi
  obtain ⟨hjl,hjy⟩:=List.getElem?_eq_some_iff.1 hj
  refine List.mem_iff_getElem?.2 ⟨j,?_⟩
  rw [List.getElem?_take]
  rw [if_pos]
  ·exact hj
  ·rcases Nat.lt_trichotomy j i with h | h | h
   ·exact h
   ·subst h; rw [hi] at hj; injection hj with hj; subst hj; exact absurd hlt (lt_irr _)
   ·have:=List.pairwise_iff_getElem.1 hg i j hil hjl h
    rw [hix,hjy] at this
    exact absurd hlt (lt_asym _ _ this)
 ·rintro ⟨hxs,hc⟩
  obtain ⟨k,hk⟩:=List.mem_iff_getElem?.1 hxs
  obtain ⟨hkl,hkx⟩:=List.getElem?_eq_some_iff.1 hk
  have hgt:=greedy_take (l:=s) (n:=k) hkl
  rw [hkx,if_neg] at hgt
  ·obtain ⟨m,e1,_⟩:=greedy_acc (s.drop (k+1)) (greedy [] (s.take (k+1)))
   have e2:=greedy_append (s.take (k+1)) [] (s.drop (k+1))
   rw [List.take_append_drop,e1,hgt] at e2
   rw [e2]; simp
  ·intro h
   refine hc (h.mono fun y hy=>List.mem_filter.2 ⟨List.mem_of_mem_take hy,decide_eq_true ?_⟩)
   obtain ⟨j,hj⟩:=List.mem_iff_getElem?.1 hy
   rw [List.getElem?_take] at hj
   split at hj
   ·rename_i hjk
    obtain ⟨hjl,hjy⟩:=List.getElem?_eq_some_iff.1 hj
    have:=List.pairwise_iff_getElem.1 hs j k hjl hkl hjk
    rw [hkx,hjy] at this
    exact this
   ·cases hj
theorem conn_mem {l m:List Ed} (h:∀ x,x∈l↔x∈m) (a b:Int):Conn l a b↔Conn m a b:=⟨fun hc=>hc.mono fun x hx=>(h x).1 hx,fun hc=>hc.mono fun x hx=>(h x).2 hx⟩
theorem grows {l s t u:List Ed} {e:Ed} (hs:Strict s) (ht:Strict t) (hu:Strict u) (ms:∀ x,x∈s↔x∈l) (mt:∀ x,x∈t↔x∈l∨x=e) (mu:∀ x,x∈u↔x∈greedy [] s∨x=e) (hel:e ∉ l):greedy [] t=greedy [] u:=by
 have hsub:=(greedy_sublist s).subset
 have key:∀ x a b,Conn (t.filter (fun y=>decide (lt y x))) a b↔Conn (u.filter (fun y=>decide (lt y x))) a b:=fun x a b=>by
  constructor
  ·intro h
   refine conn_sub (fun y hy=> ?_) h
   obtain ⟨m1,m2⟩:=List.mem_filter.1 hy
   rcases (mt y).1 m1 with m1 | m1
   ·have hc:Conn (s.filter (fun y=>decide (lt y x))) y.1 y.2.1:=.fwd (List.mem_filter.2 ⟨(ms y).2 m1,m2⟩) .refl
    rw [front_conn hs] at hc
    exact hc.mono fun z hz=>by
     obtain ⟨k1,k2⟩:=List.mem_filter.1 hz
     exact List.mem_filter.2 ⟨(mu z).2 (.inl k1),k2⟩
   ·exact .fwd (List.mem_filter.2 ⟨(mu y).2 (.inr m1),m2⟩) .refl
  ·intro h
   exact h.mono fun y hy=>by
    obtain ⟨m1,m2⟩:=List.mem_filter.1 hy
    refine List.mem_filter.2 ⟨(mt y).2 ?_,m2⟩
    rcases (mu y).1 m1 with k | k
    ·exact .inl ((ms y).1 (hsub k))
    ·exact .inr k
 refine strict_eq (ht.sub (greedy_sublist t)) (hu.sub (greedy_sublist u)) fun x=> ?_
 rw [mem_greedy ht,mem_greedy hu,key]
 refine and_congr_left fun hc=> ?_
 rw [mt,mu]
 constructor
 ·rintro (h | h)
  ·refine .inl ((mem_greedy hs x).2 ⟨(ms x).2 h,fun hcs=>hc ?_⟩)
   rw [← key]
   exact hcs.mono fun y hy=>by
    obtain ⟨m1,m2⟩:=List.mem_filter.1 hy
    exact List.mem_filter.2 ⟨(mt y).2 (.inl ((ms y).1 m1)),m2⟩
  ·exact .inr h
 ·rintro (h | h)
  ·exact .inl ((ms x).1 (hsub h))
  ·exact .inr h
theorem goes {s t:List Ed} {y:Ed} (hs:Strict s) (ht:Strict t) (mt:∀ x,x∈t↔x∈s∧x≠y) (hy:y ∉ greedy [] s):greedy [] t=greedy [] s:=by
 have hsub:=(greedy_sublist s).subset
 have key:∀ x a b,Conn (t.filter (fun y=>decide (lt y x))) a b↔Conn (s.filter (fun y=>decide (lt y x))) a b:=fun x a b=>by
  constructor
  ·intro h
   exact h.mono fun z hz=>by
    obtain ⟨m1,m2⟩:=List.mem_filter.1 hz
    exact List.mem_filter.2 ⟨((mt z).1 m1).1,m2⟩
  ·intro h
   rw [front_conn hs] at h
   exact h.mono fun z hz=>by
    obtain ⟨m1,m2⟩:=List.mem_filter.1 hz
    exact List.mem_filter.2 ⟨(mt z).2 ⟨hsub m1,fun hzy=>hy (hzy ▸ m1)⟩,m2⟩
 refine strict_eq (ht.sub (greedy_sublist t)) (hs.sub (greedy_sublist s)) fun x=> ?_
 rw [mem_greedy ht,key,mt,mem_greedy hs]
 constructor
 ·rintro ⟨⟨h1,_⟩,h2⟩; exact ⟨h1,h2⟩
 ·rintro ⟨h1,h2⟩
  exact ⟨⟨h1,fun hxy=>hy (hxy ▸ (mem_greedy hs x).2 ⟨h1,h2⟩)⟩,h2⟩
end Go.Proofs.Ytfeepbajipdfaaa.T
namespace Go.Proofs.Ytfeepbajipdfaaa.T
open Go.Vm Go.Tm
set_option linter.unusedVariables false
set_option linter.unusedSimpArgs false
theorem loses {s t K:List Ed} {cut:Ed} (hs:Strict s) (ht:Strict t) (hcut:cut∈greedy [] s) (mt:∀ x,x∈t↔x∈s∧x≠cut) (mk:∀ x,x∈K↔x∈greedy [] s∧x≠cut) (b:Option Ed)
  (hn:b=none→∀ x∈t,Conn K x.1 x.2.1) (hb:∀ y,b=some y→y∈t∧¬ Conn K y.1 y.2.1∧∀ x∈t,¬ Conn K x.1 x.2.1→¬ lt x y) (x:Ed):x∈greedy [] t↔x∈K∨b=some x:=by
 have hK:∀ x,x∈K→x∈greedy [] t:=fun x hx=>by
  obtain ⟨h1,h2⟩:=(mk x).1 hx
  obtain ⟨h3,h4⟩:=(mem_greedy hs x).1 h1
  refine (mem_greedy ht x).2 ⟨(mt x).2 ⟨h3,h2⟩,fun hc=>h4 (hc.mono fun y hy=> ?_)⟩
  obtain ⟨m1,m2⟩:=List.mem_filter.1 hy
  exact List.mem_filter.2 ⟨((mt y).1 m1).1,m2⟩
 have hB:∀ y,b=some y→y∈greedy [] t:=fun y hy=>by
  obtain ⟨h1,h2,h3⟩:=hb y hy
  refine (mem_greedy ht y).2 ⟨h1,fun hc=>h2 (conn_sub (fun z hz=> ?_) hc)⟩
  obtain ⟨m1,m2⟩:=List.mem_filter.1 hz
  refine Classical.byContradiction fun hz'=> ?_
  exact h3 z m1 hz' (of_decide_eq_true m2)
 constructor
 ·intro hx
  refine Classical.byContradiction fun hno=> ?_
  rw [not_or] at hno
  obtain ⟨l1,l2,hl⟩:=List.append_of_mem hx
  have hap:=(greedy_acyc' t).apart hl
  have hin:∀ y,y∈greedy [] t→y≠x→y∈l1++l2:=fun y hy hne=>by
   rw [hl] at hy
   rcases List.mem_append.1 hy with h | h
   ·exact List.mem_append_left _ h
   ·cases h with
    | head=>exact absurd rfl hne
    | tail _ h=>exact List.mem_append_right _ h
  have hKin:∀ y∈K,y∈l1++l2:=fun y hy=>hin y (hK y hy) (fun he=>hno.1 (he ▸ hy))
  have hxt:x∈t:=(greedy_sublist t).subset hx
  have hnx:¬ Conn K x.1 x.2.1:=fun h=>hap (h.mono hKin)
  cases hbb:b with
  | none=>exact hnx (hn hbb x hxt)
  | some y=>
   obtain ⟨h1,h2,h3⟩:=hb y hbb
   have hall:∀ z,z∈s→Conn (K++ [cut]) z.1 z.2.1:=fun z hz=>by
    have hc:Conn (greedy [] s) z.1 z.2.1:=(greedy_conn' s _ _).2 (.fwd hz .refl)
    refine hc.mono fun w hw=> ?_
    by_cases hwc:w=cut
    ·subst hwc; simp
    ·exact List.mem_append_left _ ((mk w).2 ⟨hw,hwc⟩)
   have hcy:Conn (K++ [y]) cut.1 cut.2.1:=cross_conn h2 (hall y ((mt y).1 h1).1) (fun z hz=>List.mem_append_left _ hz) (by simp)
   have hxy:Conn (K++ [y]) x.1 x.2.1:=conn_sub (fun z hz=>by
    rcases List.mem_append.1 hz with h | h
    ·exact .fwd (List.mem_append_left _ h) .refl
    ·rw [List.mem_singleton.1 h]; exact hcy) (hall x ((mt x).1 hxt).1)
   refine hap (hxy.mono fun z hz=> ?_)
   rcases List.mem_append.1 hz with h | h
   ·exact hKin z h
   ·rw [List.mem_singleton.1 h]
    exact hin y (hB y hbb) (fun he=>hno.2 (by rw [hbb,he]))
 ·rintro (h | h)
  ·exact hK x h
  ·exact hB x h
end Go.Proofs.Ytfeepbajipdfaaa.T
namespace Go.Proofs.Ytfeepbajipdfaaa.T
open Go.Vm Go.Tm
set_option linter.unusedVariables false
set_option linter.unusedSimpArgs false
theorem ed_beq (y x:Ed):((y.1==x.1) && ((y.2.1==x.2.1) && (y.2.2==x.2.2)))=decide (y=x):=by
 have:=beq_ed y x
 change (((y.1==x.1) && ((y.2.1==x.2.1) && (y.2.2==x.2.2)))=true↔y=x) at this
 by_cases hh:y=x
 ·rw [decT hh]; exact this.2 hh
 ·rw [decF hh]; exact Bool.eq_false_iff.2 fun kk=>hh (this.1 kk)
theorem loses_l0 (l:List Ed) (at':Int) (lo n c:Nat) (m f:List Ed) (cut:Ed) (e1:span_Least_r l=(true,(lo,n,chk l,m))) (hf:(m.drop lo).take n=f) (hfn:n=f.length) (hbig:n≤1000) (hat:Int.tmod (IntKind.i64.wrap at') (n:Int)=(c:Int)) (hc:f[c]? =some cut):
  loopR (HL.dflt [.bool,(.fl (.row (.prod (.int .i64) (.prod (.int .i64) (.int .i64)))))]) (withylaw07_SpanLoses_l0 l at') ((0:Int),[],())=(true,(true,f.filter (fun y=>decide (y≠cut)),())):=by
 have hmc:m[c+lo]? =some cut:=by
  rw [← hf,List.getElem?_take] at hc
  split at hc
  ·rw [List.getElem?_drop] at hc
   rw [show c+lo=lo+c by omega]; exact hc
  ·cases hc
 have key:=loopR_by (d:=HL.dflt [.bool,(.fl (.row (.prod (.int .i64) (.prod (.int .i64) (.int .i64)))))]) (step:=withylaw07_SpanLoses_l0 l at') (fun s:Int × List Ed × Unit=>∃ k:Nat,s=((k:Int),(f.take k).filter (fun y=>decide (y≠cut)),())∧k≤n) (fun s=>n - s.1.toNat)
  (fun r:Bool × List Ed × Unit=>r=(true,f.filter (fun y=>decide (y≠cut)),())) ((0:Int),[],()) ⟨0,by simp,Nat.zero_le _⟩ (by
  rintro _ ⟨k,rfl,h1⟩
  unfold withylaw07_SpanLoses_l0
  by_cases hk:k<n
  ·have g1:(k:Int)<(n:Int):=by omega
   have hwr:IntKind.i64.wrap ((k:Int)+1)=((k+1:Nat):Int):=by rw [wrap_i64 (by omega) (by omega)]; omega
   have hy:f[k]? =some (f[k]'(by omega)):=List.getElem?_eq_getElem (by omega)
   generalize f[k]'(by omega)=y at hy
   have hmy:m[k+lo]? =some y:=by
    rw [← hf,List.getElem?_take,if_pos hk,List.getElem?_drop] at hy
    rw [show k+lo=lo+k by omega]; exact hy
   have hkl:k+lo<m.length:=(List.getElem?_eq_some_iff.1 hmy).1
   have tk:f.take (k+1)=f.take k++ [y]:=by rw [List.take_add_one,hy]; rfl
   have hfl:((f.take k).filter (fun y=>decide (y≠cut))).length≤n:=by
    have:=List.length_filter_le (fun y=>decide (y≠cut)) (f.take k)
    rw [List.length_take] at this; omega
   by_cases hyc:y=cut
   ·have hb:decide (y=cut)=true:=decT hyc
    simp only [e1,hat,Int.toNat_natCast,decT g1,hwr,hmy,hmc,Option.getD_some,ed_beq,hb,decT hk,decT hkl,decT (show (0:Int)≤(k:Int) by omega),cond_true,cond_false,Bool.and_self,Bool.and_true,Bool.true_and,Bool.not_true]
    exact ⟨trivial,fun _=>⟨⟨k+1,by rw [tk,List.filter_append]; simp [hyc],by omega⟩,by
     show n - (((k+1:Nat):Int)).toNat<n - ((k:Int)).toNat
     omega⟩,fun h=>by cases h⟩
   ·have hb:decide (y=cut)=false:=decF hyc
    simp only [e1,hat,Int.toNat_natCast,decT g1,hwr,hmy,hmc,Option.getD_some,ed_beq,hb,decT hk,decT hkl,decT (show (0:Int)≤(k:Int) by omega),cond_true,cond_false,Bool.and_self,Bool.and_true,Bool.true_and,Bool.not_false,List.length_cons,List.length_nil]
    exact ⟨decT (by omega),fun _=>⟨⟨k+1,by rw [tk,List.filter_append]; simp [hyc],by omega⟩,by
     show n - (((k+1:Nat):Int)).toNat<n - ((k:Int)).toNat
     omega⟩,fun h=>by cases h⟩
  ·have g1:¬ (k:Int)<(n:Int):=by omega
   have hkn:k=f.length:=by omega
   subst hkn
   simp only [e1,decF g1,cond_false,Bool.not_false]
   exact ⟨trivial,fun h=>(by cases h),fun _=>by rw [List.take_length]⟩)
 exact Prod.ext key.1 key.2
def BestAt (l K:List Ed) (cut:Ed) (i:Nat) (best:Int):Prop:=
 (best= -1∧∀ x∈l.take i,x≠cut→Conn K x.1 x.2.1)∨∃ (j:Nat) (y:Ed),best=(j:Int)∧j<i∧l[j]? =some y∧y≠cut∧¬ Conn K y.1 y.2.1∧∀ x∈l.take i,x≠cut→¬ Conn K x.1 x.2.1→¬ lt x y
open Classical in
theorem loses_l1 (l:List Ed) (hall:∀ e∈l,May e) (hl:l.length≤40) (at':Int) (lo n c:Nat) (m f K:List Ed) (cut:Ed) (e1:span_Least_r l=(true,(lo,n,chk l,m))) (hat:Int.tmod (IntKind.i64.wrap at') (n:Int)=(c:Int)) (hmc:m[c+lo]? =some cut) (hK:∀ e∈K,May e) (hKl:K.length≤40):
  ∃ best:Int,loopR (HL.dflt [.bool,.int .i64,(.fl (.row (.prod (.int .i64) (.prod (.int .i64) (.int .i64))))),(.fl (.row (.prod (.int .i64) (.prod (.int .i64) (.int .i64)))))]) (withylaw07_SpanLoses_l1 l at') ((0:Int),(-1:Int),K,[],())=(true,(true,best,K,l.filter (fun y=>decide (y≠cut)),()))∧BestAt l K cut l.length best:=by
 have key:=loopR_by (d:=HL.dflt [.bool,.int .i64,(.fl (.row (.prod (.int .i64) (.prod (.int .i64) (.int .i64))))),(.fl (.row (.prod (.int .i64) (.prod (.int .i64) (.int .i64)))))]) (step:=withylaw07_SpanLoses_l1 l at') (fun s:Int × Int × List Ed × List Ed × Unit=>∃ (i:Nat) (best:Int),s=((i:Int),best,K,(l.take i).filter (fun y=>decide (y≠cut)),())∧i≤l.length∧BestAt l K cut i best) (fun s=>l.length - s.1.toNat)
  (fun r:Bool × Int × List Ed × List Ed × Unit=>∃ best:Int,r=(true,best,K,l.filter (fun y=>decide (y≠cut)),())∧BestAt l K cut l.length best) ((0:Int),(-1:Int),K,[],()) ⟨0,-1,by simp,Nat.zero_le _,.inl ⟨rfl,fun x hx=>by simp at hx⟩⟩ (by
  rintro _ ⟨i,best,rfl,h1,h2⟩
  unfold withylaw07_SpanLoses_l1
  by_cases hi:i<l.length
  ·have g1:(i:Int)<(l.length:Int):=by omega
   have hwr:IntKind.i64.wrap ((i:Int)+1)=((i+1:Nat):Int):=by rw [wrap_i64 (by omega) (by omega)]; omega
   have hx:l[i]? =some l[i]:=List.getElem?_eq_getElem hi
   have hmem:l[i]∈l:=List.getElem_mem hi
   generalize l[i]=x at hx hmem
   have hm:=hall x hmem
   have hlk:=refLinked_r K hK (by omega) x.1 x.2.1 ⟨hm.1,hm.2.1⟩ ⟨hm.2.2.1,hm.2.2.2.1⟩
   have tk:l.take (i+1)=l.take i++ [x]:=by rw [List.take_add_one,hx]; rfl
   have hfl:((l.take i).filter (fun y=>decide (y≠cut))).length≤40:=by
    have:=List.length_filter_le (fun y=>decide (y≠cut)) (l.take i)
    rw [List.length_take] at this; omega
   by_cases hxc:x=cut
   ·have hb:decide (x=cut)=true:=decT hxc
    simp only [e1,hat,Int.toNat_natCast,decT g1,hwr,hx,hmc,Option.getD_some,ed_beq,hb,decT hi,decT (show (0:Int)≤(i:Int) by omega),cond_true,cond_false,Bool.and_self,Bool.and_true,Bool.true_and,Bool.not_true]
    refine ⟨trivial,fun _=>⟨⟨i+1,best,by rw [tk,List.filter_append]; simp [hxc],by omega,?_⟩,by
     show l.length - (((i+1:Nat):Int)).toNat<l.length - ((i:Int)).toNat
     omega⟩,fun h=>by cases h⟩
    have hold:∀ z∈l.take (i+1),z≠cut→z∈l.take i:=fun z hz hne=>by
     rw [tk] at hz
     rcases List.mem_append.1 hz with h | h
     ·exact h
     ·exact absurd ((List.mem_singleton.1 h).trans hxc) hne
    rcases h2 with ⟨h2,h3⟩ | ⟨j,y,h2,h3,h4,h5,h6,h7⟩
    ·exact .inl ⟨h2,fun z hz hne=>h3 z (hold z hz hne) hne⟩
    ·exact .inr ⟨j,y,h2,by omega,h4,h5,h6,fun z hz hne=>h7 z (hold z hz hne) hne⟩
   ·have hb:decide (x=cut)=false:=decF hxc
    have hT1:∀ z:Bool,cond z z true=true:=fun z=>by cases z<;>rfl
    by_cases hc:Conn K x.1 x.2.1
    ·rw [decT hc] at hlk
     simp only [e1,hat,Int.toNat_natCast,decT g1,hwr,hx,hmc,Option.getD_some,ed_beq,hb,hlk,decT hi,decT (show (0:Int)≤(i:Int) by omega),cond_true,cond_false,Bool.and_self,Bool.and_true,Bool.true_and,Bool.not_true,Bool.not_false,Bool.false_and,List.length_cons,List.length_nil]
     refine ⟨decT (by omega),fun _=>⟨⟨i+1,best,by rw [tk,List.filter_append]; simp [hxc],by omega,?_⟩,by
      show l.length - (((i+1:Nat):Int)).toNat<l.length - ((i:Int)).toNat
      omega⟩,fun h=>by cases h⟩
     rcases h2 with ⟨h2,h3⟩ | ⟨j,y,h2,h3,h4,h5,h6,h7⟩
     ·refine .inl ⟨h2,fun z hz hne=> ?_⟩
      rw [tk] at hz
      rcases List.mem_append.1 hz with h | h
      ·exact h3 z h hne
      ·rw [List.mem_singleton.1 h]; exact hc
     ·refine .inr ⟨j,y,h2,by omega,h4,h5,h6,fun z hz hne hz'=> ?_⟩
      rw [tk] at hz
      rcases List.mem_append.1 hz with h | h
      ·exact h7 z h hne hz'
      ·rw [List.mem_singleton.1 h] at hz'; exact absurd hc hz'
    ·rw [decF hc] at hlk
     rcases h2 with ⟨h2,h3⟩ | ⟨j,y,h2,h3,h4,h5,h6,h7⟩
     ·subst h2
      simp only [e1,hat,Int.toNat_natCast,decT g1,hwr,hx,hmc,Option.getD_some,ed_beq,hb,hlk,decT hi,decT (show (0:Int)≤(i:Int) by omega),decT (show (-1:Int)<0 by omega),cond_true,cond_false,Bool.and_self,Bool.and_true,Bool.true_and,Bool.not_true,Bool.not_false,Bool.false_and,Bool.and_false,List.length_cons,List.length_nil]
      refine ⟨decT (by omega),fun _=>⟨⟨i+1,i,by rw [tk,List.filter_append]; simp [hxc],by omega,.inr ⟨i,x,rfl,by omega,hx,hxc,hc,fun z hz hne hz'=> ?_⟩⟩,by
       show l.length - (((i+1:Nat):Int)).toNat<l.length - ((i:Int)).toNat
       omega⟩,fun h=>by cases h⟩
      rw [tk] at hz
      rcases List.mem_append.1 hz with h | h
      ·exact absurd (h3 z h hne) hz'
      ·rw [List.mem_singleton.1 h]; exact lt_irr x
     ·subst h2
      have hjl:j<l.length:=(List.getElem?_eq_some_iff.1 h4).1
      by_cases hlt:lt x y
      ·simp only [e1,hat,Int.toNat_natCast,decT g1,hwr,hx,h4,hmc,Option.getD_some,ed_beq,hb,hlk,refLess_r,decT hlt,decT hi,decT hjl,decT (show (0:Int)≤(i:Int) by omega),decT (show (0:Int)≤(j:Int) by omega),decF (show ¬ (j:Int)<0 by omega),cond_true,cond_false,Bool.and_self,Bool.and_true,Bool.true_and,Bool.not_true,Bool.not_false,List.length_cons,List.length_nil]
       refine ⟨decT (by omega),fun _=>⟨⟨i+1,i,by rw [tk,List.filter_append]; simp [hxc],by omega,.inr ⟨i,x,rfl,by omega,hx,hxc,hc,fun z hz hne hz'=> ?_⟩⟩,by
        show l.length - (((i+1:Nat):Int)).toNat<l.length - ((i:Int)).toNat
        omega⟩,fun h=>by cases h⟩
       rw [tk] at hz
       rcases List.mem_append.1 hz with h | h
       ·exact le_trans' x y z (lt_asym _ _ hlt) (h7 z h hne hz')
       ·rw [List.mem_singleton.1 h]; exact lt_irr x
      ·simp only [e1,hat,Int.toNat_natCast,decT g1,hwr,hx,h4,hmc,Option.getD_some,ed_beq,hb,hlk,refLess_r,decF hlt,decT hi,decT hjl,decT (show (0:Int)≤(i:Int) by omega),decT (show (0:Int)≤(j:Int) by omega),decF (show ¬ (j:Int)<0 by omega),cond_true,cond_false,Bool.and_self,Bool.and_true,Bool.true_and,Bool.not_true,Bool.not_false,List.length_cons,List.length_nil]
       refine ⟨decT (by omega),fun _=>⟨⟨i+1,j,by rw [tk,List.filter_append]; simp [hxc],by omega,.inr ⟨j,y,rfl,by omega,h4,h5,h6,fun z hz hne hz'=> ?_⟩⟩,by
        show l.length - (((i+1:Nat):Int)).toNat<l.length - ((i:Int)).toNat
        omega⟩,fun h=>by cases h⟩
       rw [tk] at hz
       rcases List.mem_append.1 hz with h | h
       ·exact h7 z h hne hz'
       ·rw [List.mem_singleton.1 h]; exact hlt
  ·have g1:¬ (i:Int)<(l.length:Int):=by omega
   have hil:i=l.length:=by omega
   subst hil
   simp only [e1,decF g1,cond_false,Bool.not_false]
   exact ⟨trivial,fun h=>(by cases h),fun _=>⟨best,by rw [List.take_length],h2⟩⟩)
 obtain ⟨k1,best,k2,k3⟩:=key
 exact ⟨best,Prod.ext k1 k2,k3⟩
end Go.Proofs.Ytfeepbajipdfaaa.T
namespace Go.Proofs.Ytfeepbajipdfaaa.T
open Go.Vm Go.Tm
set_option linter.unusedVariables false
set_option linter.unusedSimpArgs false
theorem same2_r (a b:List Ed) (hbig:a.length≤1152921504606846976):withyref05_Same_2_r a b=(true,decide (a=b)):=by
 unfold withyref05_Same_2_r
 by_cases hl:a.length=b.length
 ·have key:=loop_all (d:=HL.dflt [.bool,.bool,.bool]) (step:=withyref05_Same_2_l0 a b) a.length (fun i=>decide ((a[i]?).getD (0,0,0)=(b[i]?).getD (0,0,0))) (true,false,false,()) (false,false,true,())
   (fun i hi=>by
    have g1:(i:Int)<(a.length:Int):=by omega
    have hw:IntKind.i64.wrap ((i:Int)+1)=((i+1:Nat):Int):=by rw [wrap_i64 (by omega) (by omega)]; omega
    have hx:a[i]? =some a[i]:=List.getElem?_eq_getElem hi
    have hy:b[i]? =some (b[i]'(by omega)):=List.getElem?_eq_getElem (by omega)
    generalize a[i]=x at hx
    generalize b[i]'(by omega)=y at hy
    have hb:((x.1==y.1) && ((x.2.1==y.2.1) && (x.2.2==y.2.2)))=decide (x=y):=by
     have:=beq_ed x y
     change (((x.1==y.1) && ((x.2.1==y.2.1) && (x.2.2==y.2.2)))=true↔x=y) at this
     by_cases hh:x=y
     ·rw [decT hh]; exact this.2 hh
     ·rw [decF hh]; exact Bool.eq_false_iff.2 fun k=>hh (this.1 k)
    unfold withyref05_Same_2_l0
    simp only [decT g1,hw,Int.toNat_natCast,hx,hy,Option.getD_some,hb,decT hi,decT (show i<b.length by omega),decT (show (0:Int)≤(i:Int) by omega),cond_true,Bool.and_true,Bool.and_self,Bool.true_and,Bool.not_not,Bool.not_true]
    exact ⟨trivial,trivial,fun _=>trivial,fun h=>by rw [h]; rfl⟩)
   (by
    have g1:¬ (a.length:Int)<(a.length:Int):=by omega
    unfold withyref05_Same_2_l0
    simp only [decF g1,cond_false,Bool.false_and,Bool.not_false]
    exact ⟨trivial,trivial,trivial⟩)
  have hne:((a.length:Int) !=(b.length:Int))=false:=by rw [hl]; simp
  have hall:(List.range a.length).all (fun i=>decide ((a[i]?).getD (0,0,0)=(b[i]?).getD (0,0,0)))=true↔a=b:=by
   rw [List.all_eq_true]
   constructor
   ·intro h
    apply List.ext_getElem hl
    intro i h1 h2
    have:=h i (List.mem_range.2 h1)
    rw [List.getElem?_eq_getElem h1,List.getElem?_eq_getElem h2] at this
    exact of_decide_eq_true this
   ·rintro rfl i _
    exact decide_eq_true rfl
  simp only [loopD_eq,key,hne,Bool.not_false,cond_true]
  by_cases hab:a=b
  ·rw [if_pos (hall.2 hab),decT hab]; rfl
  ·rw [if_neg (fun h=>hab (hall.1 h)),decF hab]; rfl
 ·have hne:((a.length:Int) !=(b.length:Int))=true:=bneI (by omega)
  have hab:¬ a=b:=fun h=>hl (by rw [h])
  simp only [hne,Bool.not_true,cond_false,decF hab]
end Go.Proofs.Ytfeepbajipdfaaa.T
namespace Go.Proofs.Ytfeepbajipdfaaa.T
open Go.Vm Go.Tm
set_option linter.unusedVariables false
set_option linter.unusedSimpArgs false
theorem apart_symm (a b:Ed) (h:Apart a b):Apart b a:=fun hh=>h ⟨hh.1.symm,hh.2.symm⟩
theorem allMay_perm {l m:List Ed} (h:m.Perm l) (hl:AllMay l):AllMay m:=
 ⟨fun e he=>hl.1 e (h.subset he),(h.pairwise_iff (fun {a b} hab=>apart_symm a b hab)).2 hl.2⟩
theorem allMay_sub {l m:List Ed} (h:m.Sublist l) (hl:AllMay l):AllMay m:=⟨fun e he=>hl.1 e (h.subset he),hl.2.sublist h⟩
theorem chk_of {l:List Ed} (h:AllMay l) (hn:l.length≤512):chk l=0:=by
 unfold chk; rw [if_pos h,if_neg (by omega)]
theorem without_mem {l:List Ed} (h:AllMay l) {i:Nat} {x:Ed} (hx:l[i]? =some x) (y:Ed):y∈l.take i++l.drop (i+1)↔y∈l∧y≠x:=by
 obtain ⟨hil,hix⟩:=List.getElem?_eq_some_iff.1 hx
 have hl:l=l.take i++x::l.drop (i+1):=by
  rw [← hix,List.getElem_cons_drop,List.take_append_drop]
 have hp:=h.2
 rw [hl,List.pairwise_append] at hp
 obtain ⟨_,p2,p3⟩:=hp
 rw [List.pairwise_cons] at p2
 constructor
 ·intro hy
  rcases List.mem_append.1 hy with hy | hy
  ·exact ⟨List.mem_of_mem_take hy,fun he=>p3 y hy x (.head _) (he ▸ ⟨rfl,rfl⟩)⟩
  ·exact ⟨List.mem_of_mem_drop hy,fun he=>p2.1 y hy (he ▸ ⟨rfl,rfl⟩)⟩
 ·rintro ⟨hy,hne⟩
  rw [hl] at hy
  rcases List.mem_append.1 hy with hy | hy
  ·exact List.mem_append_left _ hy
  ·cases hy with
   | head=>exact absurd rfl hne
   | tail _ hy=>exact List.mem_append_right _ hy
theorem apart_of {l:List Ed} (h:l.Pairwise Apart) {a b:Ed} (ha:a∈l) (hb:b∈l) (hne:a≠b):Apart a b:=by
 obtain ⟨i,hi⟩:=List.mem_iff_getElem?.1 ha
 obtain ⟨j,hj⟩:=List.mem_iff_getElem?.1 hb
 obtain ⟨hil,hix⟩:=List.getElem?_eq_some_iff.1 hi
 obtain ⟨hjl,hjx⟩:=List.getElem?_eq_some_iff.1 hj
 rcases Nat.lt_trichotomy i j with hlt | heq | hgt
 ·have:=List.pairwise_iff_getElem.1 h i j hil hjl hlt
  rw [hix,hjx] at this; exact this
 ·subst heq; rw [hi] at hj; injection hj with hj; exact absurd hj hne
 ·have:=List.pairwise_iff_getElem.1 h j i hjl hil hgt
  rw [hix,hjx] at this; exact fun hh=>this ⟨hh.1.symm,hh.2.symm⟩
end Go.Proofs.Ytfeepbajipdfaaa.T
namespace Go.Proofs.Ytfeepbajipdfaaa.T
open Go.Vm Go.Tm
set_option linter.unusedVariables false
set_option linter.unusedSimpArgs false
def without (l:List Ed) (cut:Ed):List Ed:=l.filter (fun y=>decide (y≠cut))
theorem mem_without (l:List Ed) (cut x:Ed):x∈without l cut↔x∈l∧x≠cut:=by unfold without; rw [List.mem_filter]; simp
theorem without_sub (l:List Ed) (cut:Ed):(without l cut).Sublist l:=List.filter_sublist
theorem loses_all {l s t K sK:List Ed} {cut:Ed} {best:Int} (hA:AllMay l) (hp:s.Perm l) (hs:Sorted s) (tp:t.Perm (without l cut)) (hts:Sorted t) (hcut:cut∈greedy [] s) (hK:K=without (greedy [] s) cut)
  (hb:BestAt l K cut l.length best) (sp:sK.Perm (cond (decide (best≥0)) (K++ [(l[best.toNat]?).getD ((0:Int),((0:Int),(0:Int)))]) K)) (hsK:Sorted sK):greedy [] t=sK:=by
 have hAs:=allMay_perm hp hA
 have hAt:AllMay t:=allMay_perm tp (allMay_sub (without_sub l cut) hA)
 have hS:Strict s:=strict_of hs hAs.2
 have hT:Strict t:=strict_of hts hAt.2
 have mt:∀ x,x∈t↔x∈s∧x≠cut:=fun x=>by rw [tp.mem_iff,mem_without,hp.mem_iff]
 have mk:∀ x,x∈K↔x∈greedy [] s∧x≠cut:=fun x=>by rw [hK,mem_without]
 have hAK:AllMay K:=by rw [hK]; exact allMay_sub (List.Sublist.trans (without_sub _ _) (greedy_sublist s)) hAs
 rcases hb with ⟨rfl,h2⟩ | ⟨j,y,rfl,h3,h4,h5,h6,h7⟩
 ·have sp:sK.Perm K:=sp
  refine strict_eq (hT.sub (greedy_sublist t)) (strict_of hsK (allMay_perm sp hAK).2) fun x=> ?_
  rw [loses hS hT hcut mt mk none (fun _ x hx=> ?_) (fun y hy=>by cases hy) x,sp.mem_iff]
  ·simp
  ·obtain ⟨m1,m2⟩:=(mt x).1 hx
   exact h2 x (by rw [List.take_length]; exact hp.subset m1) m2
 ·have hd:decide ((j:Int)≥0)=true:=decT (by omega)
  rw [hd,cond_true,Int.toNat_natCast,h4,Option.getD_some] at sp
  have hyl:y∈l:=List.mem_of_getElem? h4
  have hAKy:(K++ [y]).Pairwise Apart:=by
   refine List.pairwise_append.2 ⟨hAK.2,List.pairwise_singleton _ _,fun a ha b hb=> ?_⟩
   rw [List.mem_singleton.1 hb]
   refine apart_of hA.2 (hp.subset ((greedy_sublist s).subset ((mk a).1 ha).1)) hyl fun he=>h6 ?_
   rw [← he]
   exact .fwd ha .refl
  have hq:sK.Pairwise Apart:=(sp.pairwise_iff (fun {a b} hab=>apart_symm a b hab)).2 hAKy
  refine strict_eq (hT.sub (greedy_sublist t)) (strict_of hsK hq) fun x=> ?_
  rw [loses hS hT hcut mt mk (some y) (fun h=>by cases h) (fun z hz=> ?_) x,sp.mem_iff]
  ·rw [List.mem_append,List.mem_singleton]
   constructor
   ·rintro (h | h)
    ·exact .inl h
    ·injection h with h; exact .inr h.symm
   ·rintro (h | h)
    ·exact .inl h
    ·exact .inr (by rw [h])
  ·injection hz with hz
   subst hz
   refine ⟨(mt _).2 ⟨hp.symm.subset hyl,h5⟩,h6,fun x hx hc=> ?_⟩
   obtain ⟨m1,m2⟩:=(mt x).1 hx
   exact h7 x (by rw [List.take_length]; exact hp.subset m1) m2 hc
theorem spanLoses_pure (l:List Ed) (at':Int) (_:wfD (.fl (.row (.prod (.int .i64) (.prod (.int .i64) (.int .i64))))) l) (hat:wfD (.int .u8) at'):withylaw07_SpanLoses_r l at'=(true,true):=by
 unfold withylaw07_SpanLoses_r
 simp only [awake7_r,loopD_eq]
 by_cases h40:(l.length:Int)>40
 ·simp only [decT h40,Bool.not_true,cond_true,cond_false,Bool.and_self]
 ·have hc:=refCheck_r l (by omega)
  by_cases hk:chk l=0
  ·have hA:=(chk_zero hk).1
   obtain ⟨lo,n,m,e1,h1,_⟩:=least_r l (by omega)
   obtain ⟨s,p1,p2,q1,q2⟩:=h1 hk
   have hgl:=(greedy_sublist s).length_le
   rw [p1.length_eq] at hgl
   by_cases hn:n=0
   ·have hz:((n:Int)==0)=true:=by rw [hn]; rfl
    simp only [decF h40,hc,hk,e1,hz,show ((0:Int) !=0)=false from rfl,show ((0:Int)==0)=true from rfl,Bool.not_true,Bool.not_false,cond_true,cond_false,Bool.and_self,Bool.and_true,Bool.true_and]
   ·have hz:((n:Int)==0)=false:=beqI (by omega)
    have hu:0≤at'∧at'≤255:=by
     have:=hat
     simp [wfD,Lit.wf,IntKind.wrap,IntKind.bits,IntKind.signed,IntKind.min,IntKind.max] at this
     omega
    have hw:Int.tmod (IntKind.i64.wrap at') (n:Int)=((at'.toNat % n:Nat):Int):=by
     rw [wrap_i64 (by omega) (by omega)]
     obtain ⟨a,rfl⟩:∃ a:Nat,at'=(a:Int):=⟨at'.toNat,by omega⟩
     rw [Int.toNat_natCast]
     exact (Int.ofNat_tmod a n).symm
    have hcn:at'.toNat % n<n:=Nat.mod_lt _ (by omega)
    generalize at'.toNat % n=c at hw hcn
    generalize hf:greedy [] s=f at*
    have hcf:f[c]? =some (f[c]'(by omega)):=List.getElem?_eq_getElem (by omega)
    generalize f[c]'(by omega)=cut at hcf
    have hmc:m[c+lo]? =some cut:=by
     rw [← q1,List.getElem?_take,if_pos hcn,List.getElem?_drop] at hcf
     rw [show c+lo=lo+c by omega]; exact hcf
    have hml:c+lo<m.length:=(List.getElem?_eq_some_iff.1 hmc).1
    have hcutf:cut∈f:=List.mem_of_getElem? hcf
    have l0:loopR (HL.dflt [.bool,(.fl (.row (.prod (.int .i64) (.prod (.int .i64) (.int .i64)))))]) (withylaw07_SpanLoses_l0 l at') ((0:Int),[],())=(true,(true,without f cut,())):=loses_l0 l at' lo n c m f cut e1 q1 q2 (by omega) hw hcf
    generalize hKd:without f cut=K at l0
    have hKs:K.Sublist s:=by rw [← hKd,← hf]; exact List.Sublist.trans (without_sub _ _) (greedy_sublist s)
    have hKl:K.length≤40:=by
     have:=hKs.length_le
     rw [p1.length_eq] at this
     omega
    obtain ⟨best,l1,hb⟩:∃ best:Int,loopR (HL.dflt [.bool,.int .i64,(.fl (.row (.prod (.int .i64) (.prod (.int .i64) (.int .i64))))),(.fl (.row (.prod (.int .i64) (.prod (.int .i64) (.int .i64)))))]) (withylaw07_SpanLoses_l1 l at') ((0:Int),(-1:Int),K,[],())=(true,(true,best,K,without l cut,()))∧BestAt l K cut l.length best:=loses_l1 l hA.1 (by omega) at' lo n c m f K cut e1 hw hmc (fun e he=>hA.1 e (p1.subset (hKs.subset he))) hKl
    have hsub:=without_sub l cut
    have hrl:=hsub.length_le
    have hkr:chk (without l cut)=0:=chk_of (allMay_sub hsub hA) (by omega)
    obtain ⟨lo2,n2,m2,e2,h2,_⟩:=least_r (without l cut) (by omega)
    obtain ⟨t,t1,t2,t3,t4⟩:=h2 hkr
    have hbl:cond (decide (best≥0)) (((decide ((0:Int)≤best) && decide (best.toNat<l.length)) && decide (best.toNat<l.length)) && decide ((K.length+ [(l[best.toNat]?).getD ((0:Int),((0:Int),(0:Int)))].length)*24≤140737488355328)) true=true:=by
     rcases hb with ⟨rfl,_⟩ | ⟨j,y,rfl,h3,_⟩
     ·rfl
     ·rw [decT (show (j:Int)≥0 by omega),cond_true,Int.toNat_natCast,decT h3,decT (show (K.length+ [(l[j]?).getD ((0:Int),((0:Int),(0:Int)))].length)*24≤140737488355328 by rw [List.length_singleton]; omega)]
      rfl
    generalize hKK:cond (decide (best≥0)) (K++ [(l[best.toNat]?).getD ((0:Int),((0:Int),(0:Int)))]) K=KK
    have hKKl:KK.length≤41:=by
     rw [← hKK]
     cases decide (best≥0)
     ·exact Nat.le_succ_of_le hKl
     ·rw [cond_true,List.length_append,List.length_singleton]; omega
    obtain ⟨sK,e3,sp,hsK⟩:=refSort_r KK (by omega)
    have hfin:greedy [] t=sK:=loses_all hA p1 p2 t1 t2 (hf.symm ▸ hcutf) (by rw [hf]; exact hKd.symm) hb (by rw [hKK]; exact sp) hsK
    have hgt:=(greedy_sublist t).length_le
    rw [t1.length_eq] at hgt
    have hsame:=same2_r (greedy [] t) sK (by omega)
    rw [decT hfin] at hsame
    simp only [decF h40,hc,hk,e1,hz,hw,Int.toNat_natCast,l0,l1,hkr,e2,t3,hbl,hKK,e3,hsame,bneI (show ¬ ((n:Int)=0) by omega),decT hcn,decT hml,decT (show (0:Int)≤(c:Int) by omega),show ((0:Int) !=0)=false from rfl,show ((0:Int)==0)=true from rfl,Bool.not_true,Bool.not_false,cond_true,cond_false,Bool.and_self,Bool.and_true,Bool.true_and]
  ·simp only [decF h40,hc,bneI hk,Bool.not_true,Bool.not_false,cond_true,cond_false,Bool.and_self]
end Go.Proofs.Ytfeepbajipdfaaa.T
