/- The small machine forgets: slots that are read no more, things that nothing leads to; what is left gets numbers anew. It states nothing of any program. -/
import Derived.Test.YtjeeofakogoboaaVmO
namespace Go.Vm
set_option linter.unusedVariables false
set_option linter.unusedSimpArgs false

/-- A number, anew: the first m stay; of the others those of 'order', in its order. -/
def ren (m : Nat) (order : List Nat) (id : Nat) : Option Nat := if id < m then some id else (idx order id).map (m + ·)

mutual
def renC (m : Nat) (order : List Nat) : C → C
  | .ar id ver off n => match ren m order id with | some k => .ar k ver off n | none => .dead
  | .ptr id ver off => match ren m order id with | some k => .ptr k ver off | none => .dead
  | .fn f caps => .fn f (renL m order caps)
  | c => c
def renL (m : Nat) (order : List Nat) : List C → List C
  | [] => []
  | c :: cs => renC m order c :: renL m order cs
end

def renV (m : Nat) (order : List Nat) : V → V
  | .one c => .one (renC m order c)
  | .agg cs => .agg (renL m order cs)
def renVs (m : Nat) (order : List Nat) : List V → List V
  | [] => []
  | x :: xs => renV m order x :: renVs m order xs
def renD (m : Nat) (order : List Nat) : D → D
  | .v x => .v (renV m order x)
  | .tup xs => .tup (renVs m order xs)
  | .dead => .dead
def renOb (m : Nat) (order : List Nat) : Ob → Ob
  | .cells sz ver cs fz => .cells sz ver (if ver = 0 then renL m order cs else cs) fz
  | .gone => .gone

def renObs (m : Nat) (order : List Nat) : List Ob → List Ob
  | [] => []
  | o :: os => renOb m order o :: renObs m order os

def takeObs (hp : List Ob) : List Nat → List Ob
  | [] => []
  | id :: ids => (match hp[id]? with | some ob => ob | none => .gone) :: takeObs hp ids

/-- What is kept: the first m, and those of 'order'. -/
def gcH (m : Nat) (order : List Nat) (hp : List Ob) : List Ob := renObs m order (hp.take m ++ takeObs hp order)

/-- The slots that are read later, the others dead; each with numbers anew. -/
def gcS (m : Nat) (live order : List Nat) : Nat → List D → List D
  | _, [] => []
  | i, d :: ds => (match live.contains i with | true => renD m order d | false => .dead) :: gcS m live order (i + 1) ds

theorem renL_eq (m : Nat) (order : List Nat) : ∀ cs : List C, renL m order cs = cs.map (renC m order)
  | [] => rfl
  | c :: cs => by simp [renL, renL_eq m order cs]
theorem renObs_eq (m : Nat) (order : List Nat) : ∀ cs : List Ob, renObs m order cs = cs.map (renOb m order)
  | [] => rfl
  | c :: cs => by simp [renObs, renObs_eq m order cs]
theorem takeObs_eq (hp : List Ob) : ∀ l : List Nat, takeObs hp l = l.map fun id => (hp[id]?).getD .gone
  | [] => rfl
  | id :: ids => by
    simp only [takeObs, takeObs_eq hp ids, List.map_cons, List.cons.injEq, and_true]
    cases hp[id]? <;> rfl

section
variable {Wr : Nat → Prop} {m : Nat} {hp : List Ob} {β : Nat → Option (Nat × Nat)} {S : Nat → Nat → Prop} {w : World}

/-- β behind it. -/
def gcB (β : Nat → Option (Nat × Nat)) (m : Nat) (order : List Nat) (i : Nat) : Option (Nat × Nat) := if i < m then β i else (order[i - m]?).bind β

theorem ren_some {order : List Nat} {id k : Nat} (h : ren m order id = some k) : (id < m ∧ k = id) ∨ (m ≤ id ∧ m ≤ k ∧ order[k - m]? = some id) := by
  unfold ren at h
  split at h
  · rename_i hlt; simp only [Option.some.injEq] at h; exact .inl ⟨hlt, h.symm⟩
  · obtain ⟨j, h1, rfl⟩ := Option.map_eq_some_iff.1 h
    refine .inr ⟨by omega, by omega, ?_⟩
    rw [show m + j - m = j by omega]
    exact idx_some h1

theorem gcH_get {order : List Nat} (hm : m ≤ hp.length) (i : Nat) : (gcH m order hp)[i]? = if i < m then (hp[i]?).map (renOb m order) else ((order[i - m]?).map fun id => renOb m order ((hp[id]?).getD .gone)) := by
  unfold gcH
  rw [renObs_eq, List.getElem?_map]
  by_cases hi : i < m
  · rw [if_pos hi, List.getElem?_append_left (by simp; omega), List.getElem?_take, if_pos hi]
  · rw [if_neg hi, List.getElem?_append_right (by simp; omega), takeObs_eq, List.getElem?_map]
    simp only [List.length_take, Nat.min_eq_left hm]
    cases order[i - m]? <;> simp

theorem gcH_src {order : List Nat} (hm : m ≤ hp.length) {i sz ver : Nat} {cs : List C} {fz : Bool} (h : (gcH m order hp)[i]? = some (.cells sz ver cs fz)) :
    ∃ id cs0, hp[id]? = some (.cells sz ver cs0 fz) ∧ cs = (if ver = 0 then renL m order cs0 else cs0) ∧ gcB β m order i = β id ∧ ((i < m ∧ id = i) ∨ (m ≤ i ∧ order[i - m]? = some id)) := by
  rw [gcH_get hm] at h
  split at h
  · rename_i hi
    obtain ⟨ob, h1, h2⟩ := Option.map_eq_some_iff.1 h
    cases ob with
    | gone => simp [renOb] at h2
    | cells sz0 ver0 cs0 fz0 =>
      simp only [renOb, Ob.cells.injEq] at h2
      obtain ⟨rfl, rfl, rfl, rfl⟩ := h2
      exact ⟨i, cs0, h1, rfl, by simp [gcB, hi], .inl ⟨hi, rfl⟩⟩
  · rename_i hi
    obtain ⟨id, h1, h2⟩ := Option.map_eq_some_iff.1 h
    cases hob : hp[id]? with
    | none => rw [hob] at h2; simp [renOb] at h2
    | some ob =>
      rw [hob] at h2
      cases ob with
      | gone => simp [renOb] at h2
      | cells sz0 ver0 cs0 fz0 =>
        simp only [Option.getD_some, renOb, Ob.cells.injEq] at h2
        obtain ⟨rfl, rfl, rfl, rfl⟩ := h2
        exact ⟨id, cs0, hob, rfl, by simp [gcB, hi, h1], .inr ⟨by omega, h1⟩⟩

theorem gcH_len {order : List Nat} (hm : m ≤ hp.length) : (gcH m order hp).length = m + order.length := by
  unfold gcH; rw [renObs_eq, takeObs_eq]; simp; omega

mutual
theorem renC_sound {order : List Nat} (hm : m ≤ hp.length) : ∀ (c : C) (u : Value), RelC β hp S w c u → RelC (gcB β m order) (gcH m order hp) S w (renC m order c) u
  | .sc v, u, hr => by simp only [renC, RelC] at hr ⊢; exact hr
  | .dead, u, hr => by simp only [renC, RelC] at hr ⊢; exact hr
  | .sl n cs, u, hr => by simp only [renC, RelC] at hr ⊢; exact hr
  | .loc cs off, u, hr => by simp only [renC, RelC] at hr ⊢; exact hr
  | .fn f caps, u, hr => by
    simp only [renC, RelC] at hr ⊢
    obtain ⟨us, h1, h2⟩ := hr
    exact ⟨us, h1, renL_sound hm caps us.toList h2⟩
  | .ar id ver off n, u, hr => by
    have hone := hr.one
    simp only [renC]
    split
    · rename_i k hk
      simp only [RelC] at hr ⊢
      obtain ⟨hu, hid, hs⟩ := hr
      refine ⟨hu, ?_, fun sz ver' cs fz hc => ?_⟩
      · rw [gcH_len hm]
        rcases ren_some hk with ⟨h1, h2⟩ | ⟨h1, h2, h3⟩
        · omega
        · have := (List.getElem?_eq_some_iff.1 h3).1; omega
      · obtain ⟨id2, cs0, g1, g2, g3, g4⟩ := gcH_src (β := β) hm hc
        have e : id2 = id := by
          rcases ren_some hk with ⟨h1, h2⟩ | ⟨h1, h2, h3⟩
          · rcases g4 with ⟨g4, g5⟩ | ⟨g4, g5⟩ <;> omega
          · rcases g4 with ⟨g4, g5⟩ | ⟨g4, g5⟩
            · omega
            · rw [h3] at g5; injection g5 with g5; exact g5.symm
        subst e
        obtain ⟨q1, q2⟩ := hs sz ver' cs0 fz g1
        refine ⟨q1, fun e => ?_⟩
        obtain ⟨q3, q4⟩ := q2 e
        have hlen : cs.length = cs0.length := by rw [g2]; split <;> simp [renL_eq]
        refine ⟨by rw [hlen]; exact q3, ?_⟩
        rw [g3]
        exact q4
    · simp only [RelC, RelP]; exact hone
  | .ptr id ver off, u, hr => by
    have hone := hr.one
    simp only [renC]
    split
    · rename_i k hk
      simp only [RelC] at hr ⊢
      obtain ⟨hu, hid, hs⟩ := hr
      refine ⟨hu, ?_, fun sz ver' cs fz hc => ?_⟩
      · rw [gcH_len hm]
        rcases ren_some hk with ⟨h1, h2⟩ | ⟨h1, h2, h3⟩
        · omega
        · have := (List.getElem?_eq_some_iff.1 h3).1; omega
      · obtain ⟨id2, cs0, g1, g2, g3, g4⟩ := gcH_src (β := β) hm hc
        have e : id2 = id := by
          rcases ren_some hk with ⟨h1, h2⟩ | ⟨h1, h2, h3⟩
          · rcases g4 with ⟨g4, g5⟩ | ⟨g4, g5⟩ <;> omega
          · rcases g4 with ⟨g4, g5⟩ | ⟨g4, g5⟩
            · omega
            · rw [h3] at g5; injection g5 with g5; exact g5.symm
        subst e
        obtain ⟨q1, q2⟩ := hs sz ver' cs0 fz g1
        refine ⟨q1, fun e => ?_⟩
        rw [g3]
        exact q2 e
    · simp only [RelC, RelP]; exact hone
theorem renL_sound {order : List Nat} (hm : m ≤ hp.length) : ∀ (cs : List C) (us : List Value), RelL β hp S w cs us → RelL (gcB β m order) (gcH m order hp) S w (renL m order cs) us
  | [], us, hr => by simp only [renL, RelL] at hr ⊢; exact hr
  | c :: cs, us, hr => by
    simp only [renL, RelL] at hr ⊢
    obtain ⟨u, us', e1, e2, e3⟩ := hr
    exact ⟨u, us', e1, renC_sound hm c u e2, renL_sound hm cs us' e3⟩
end

theorem renV_sound {order : List Nat} (hm : m ≤ hp.length) (x : V) (u : Value) (hr : RelV β hp S w x u) : RelV (gcB β m order) (gcH m order hp) S w (renV m order x) u := by
  cases x with
  | one c => exact renC_sound hm c u hr
  | agg cs => obtain ⟨us, h1, h2⟩ := hr; exact ⟨us, h1, renL_sound hm cs _ h2⟩

theorem renVs_sound {order : List Nat} (hm : m ≤ hp.length) : ∀ (xs : List V) (us : List Value), RelVs β hp S w xs us → RelVs (gcB β m order) (gcH m order hp) S w (renVs m order xs) us
  | [], us, hr => hr
  | x :: xs, us, ⟨u, us', e1, e2, e3⟩ => ⟨u, us', e1, renV_sound hm x u e2, renVs_sound hm xs us' e3⟩

theorem renD_sound {order : List Nat} (hm : m ≤ hp.length) (x : D) (u : Value) (hr : RelD β hp S w x u) : RelD (gcB β m order) (gcH m order hp) S w (renD m order x) u := by
  cases x with
  | v x => exact renV_sound hm x u hr
  | tup xs => obtain ⟨us, h1, h2⟩ := hr; exact ⟨us, h1, renVs_sound hm xs _ h2⟩
  | dead => trivial

theorem gcS_sound {order live : List Nat} (hm : m ≤ hp.length) : ∀ (i : Nat) (sl : List D) (us : List Value), RelDs β hp S w sl us → RelDs (gcB β m order) (gcH m order hp) S w (gcS m live order i sl) us
  | _, [], us, hr => hr
  | i, d :: ds, us, ⟨u, us', e1, e2, e3⟩ => by
    refine ⟨u, us', e1, ?_, gcS_sound hm (i + 1) ds us' e3⟩
    split
    · exact renD_sound hm d u e2
    · trivial

theorem HRel.gc (h : HRel β hp S w Wr) {order : List Nat} (hm : m ≤ hp.length) (hn : order.Nodup) (ho : ∀ id ∈ order, m ≤ id) : HRel (gcB β m order) (gcH m order hp) S w Wr := by
  refine ⟨fun i sz ver cs fz hi => ?_, fun i i' sz ver cs fz sz' ver' cs' fz' b o o' h1 h2 h3 h4 => ?_, h.imm⟩
  · obtain ⟨id, cs0, g1, g2, g3, g4⟩ := gcH_src (β := β) hm hi
    obtain ⟨⟨hsz, hpl⟩, h'⟩ := h.cells id sz ver cs0 fz g1
    have hlen : cs.length = cs0.length := by rw [g2]; split <;> simp [renL_eq]
    refine ⟨⟨hsz, fun hv => by rw [g2, if_neg hv]; exact hpl hv⟩, ?_⟩
    rw [g3]
    rcases h' with h' | ⟨b, o, arr, e, k1, k2, k3, k4, k5, k6⟩
    · exact .inl ⟨h'.1, List.eq_nil_of_length_eq_zero (by rw [hlen, h'.2]; rfl)⟩
    · refine .inr ⟨b, o, arr, e, k1, k2, k3, by omega, fun j c hc => ?_, fun k hs => by rw [hlen]; exact k6 k hs⟩
      rw [g2] at hc
      split at hc
      · rw [renL_eq, List.getElem?_map] at hc
        obtain ⟨c0, e1, rfl⟩ := Option.map_eq_some_iff.1 hc
        obtain ⟨u, m1, m2⟩ := k5 j c0 e1
        exact ⟨u, m1, renC_sound hm c0 u m2⟩
      · rename_i hv
        obtain ⟨u, m1, m2⟩ := (show Lies β hp S w cs0 b o from k5).plain (hpl hv) j c hc
        exact ⟨u, m1, RelP.rel c u m2⟩
  · obtain ⟨id, cs0, g1, g2, g3, g4⟩ := gcH_src (β := β) hm h1
    obtain ⟨id', cs0', g1', g2', g3', g4'⟩ := gcH_src (β := β) hm h2
    rw [g3] at h3
    rw [g3'] at h4
    have e := h.inj id id' _ _ _ _ _ _ _ _ b o o' g1 g1' h3 h4
    subst e
    rcases g4 with ⟨a1, a2⟩ | ⟨a1, a2⟩
    · rcases g4' with ⟨b1, b2⟩ | ⟨b1, b2⟩
      · omega
      · have := ho id (List.mem_of_getElem? b2); omega
    · rcases g4' with ⟨b1, b2⟩ | ⟨b1, b2⟩
      · have := ho id (List.mem_of_getElem? a2); omega
      · have e1 := idx_get hn a2
        have e2 := idx_get hn b2
        rw [e1] at e2; injection e2; omega

theorem gone_gc {order : List Nat} (hm : m ≤ hp.length) : Gone Wr m hp β S w (gcH m order hp) (gcB β m order) S w :=
  ⟨⟨by rw [gcH_len hm]; omega, fun id sz ver cs' fz' hid hc => by
    obtain ⟨id2, cs0, g1, g2, g3, g4⟩ := gcH_src (β := β) hm hc
    have e : id2 = id := by rcases g4 with ⟨a1, a2⟩ | ⟨a1, a2⟩ <;> omega
    subst e
    have hlen : cs'.length = cs0.length := by rw [g2]; split <;> simp [renL_eq]
    exact ⟨ver, cs0, fz', g1, Nat.le_refl _, fun _ => ⟨by omega, g3⟩⟩, fun _ _ hh => hh⟩, Evo.refl _ _ _, fun _ _ hh => .inl hh⟩

end

/-- A nil list in a slot gets an array of its own, without room. -/
def nilS : List (Nat × Nat) → List D → List Ob → List D × List Ob
  | [], sl, hp => (sl, hp)
  | (i, sz) :: l, sl, hp => match sl[i]?, sz with
    | some (.v (.one (.sc (.slice none 0 0)))), sz + 1 => nilS l (sl.set i (one (.ar hp.length 1 0 0))) (hp ++ [.cells (sz + 1) 1 [] false])
    | _, _ => nilS l sl hp

/-- The same state, said anew. -/
def Weak (m : Nat) (sl : List D) (hp : List Ob) (sl' : List D) (hp' : List Ob) : Prop :=
  ∀ (Wr : Nat → Prop) (β : Nat → Option (Nat × Nat)) (S : Nat → Nat → Prop) (a : Act) (w : World), SR Wr m sl hp β S a w → ∃ β', SR Wr m sl' hp' β' S a w ∧ Gone Wr m hp β S w hp' β' S w

theorem Weak.trans {m : Nat} {sl sl' sl'' : List D} {hp hp' hp'' : List Ob} (h : Weak m sl hp sl' hp') (k : Weak m sl' hp' sl'' hp'') : Weak m sl hp sl'' hp'' :=
  fun Wr β S a w hs => by
    obtain ⟨β1, h1, h2⟩ := h Wr β S a w hs
    obtain ⟨β2, h3, h4⟩ := k Wr β1 S a w h1
    exact ⟨β2, h3, h2.trans h4⟩

theorem Weak.refl (m : Nat) (sl : List D) (hp : List Ob) : Weak m sl hp sl hp := fun Wr β S a w hs => ⟨β, hs, Gone.refl hs.base⟩

theorem Weak.gc {m : Nat} {sl : List D} {hp : List Ob} {live order : List Nat} (hn : order.Nodup) (ho : ∀ id ∈ order, m ≤ id) : Weak m sl hp (gcS m live order 0 sl) (gcH m order hp) :=
  fun Wr β S a w hs => ⟨gcB β m order, ⟨gcS_sound hs.base 0 sl _ hs.slots, hs.heap.gc hs.base hn ho, hs.fresh, by rw [gcH_len hs.base]; omega, hs.defers⟩, gone_gc hs.base⟩

theorem Weak.nils {m : Nat} : ∀ (l : List (Nat × Nat)) (sl : List D) (hp : List Ob), Weak m sl hp (nilS l sl hp).1 (nilS l sl hp).2
  | [], sl, hp => Weak.refl m sl hp
  | (i, sz) :: l, sl, hp => by
    unfold nilS
    split
    · rename_i sz' hi
      refine Weak.trans (fun Wr β S a w hs => ?_) (Weak.nils l _ _)
      have hx := ext_push β hp S (.cells (sz' + 1) 1 [] false) none
      refine ⟨_, ⟨?_, hs.heap.allocNil (sz' + 1) 1 false (by omega), hs.fresh, by have := hs.base; simp; omega, hs.defers⟩, ⟨hx.toB hs.base, Evo.refl _ _ _, fun _ _ hh => .inl hh⟩⟩
      have hr := RelDs.step hx (Evo.refl Wr S w) _ _ hs.slots
      have hg := hs.slots.get i
      rw [hi] at hg
      simp only [Option.getD_some] at hg
      have hv := rel_sc hg
      have hilt := (List.getElem?_eq_some_iff.1 hi).1
      have hlen : a.tmps.toList.length = sl.length := RelDs.length hs.slots
      have hset : a.tmps.toList.set i (.slice none 0 0) = a.tmps.toList := by
        apply List.ext_getElem?
        intro k
        rw [List.getElem?_set]
        split
        · rename_i e
          subst e
          rw [if_pos (by omega)]
          have hlt : i < a.tmps.toList.length := by omega
          rw [List.getElem?_eq_getElem hlt] at hv ⊢
          simp only [Option.getD_some] at hv
          rw [hv]
        · rfl
      have h2 := RelDs.set (d := one (.ar hp.length 1 0 0)) (v := .slice none 0 0) (relAr_nil (β := β) (hp := hp) (S := S) (sz := sz' + 1) (ver := 1) (fz := false) (w1 := w) none) hr i
      rw [hset] at h2
      exact h2
    · exact Weak.nils l sl hp

theorem Sim.weakL {P : Program} {m : Nat} {c : Code} {sl sl1 sl2 : List D} {hp hp1 hp2 : List Ob} {e : Ex} (h : Weak m sl hp sl1 hp1) (k : Sim P m c sl1 hp1 e sl2 hp2) : Sim P m c sl hp e sl2 hp2 :=
  fun Wr β S a w Q hs hq => by
    obtain ⟨β1, h1, h2⟩ := h Wr β S a w hs
    exact k Wr β1 S a w Q h1 fun β' S' a' w' hs' hg => hq β' S' a' w' hs' (h2.trans hg)

theorem SimL.weakL {P : Program} {m : Nat} {c : Code} {sl sl1 sl2 : List D} {hp hp1 hp2 : List Ob} {e : Ex} (h : Weak m sl hp sl1 hp1) (k : SimL P m c sl1 hp1 e sl2 hp2) : SimL P m c sl hp e sl2 hp2 :=
  fun Wr β S a w Q hs hq => by
    obtain ⟨β1, h1, h2⟩ := h Wr β S a w hs
    exact k Wr β1 S a w Q h1 fun β' S' a' w' hs' hg => hq β' S' a' w' hs' (h2.trans hg)

theorem Sim.weakR {P : Program} {m : Nat} {c : Code} {sl sl1 sl2 : List D} {hp hp1 hp2 : List Ob} {e : Ex} (k : Sim P m c sl hp e sl1 hp1) (h : Weak m sl1 hp1 sl2 hp2) : Sim P m c sl hp e sl2 hp2 :=
  fun Wr β S a w Q hs hq => k Wr β S a w Q hs fun β' S' a' w' hs' hg => by
    obtain ⟨β1, h1, h2⟩ := h Wr β' S' a' w' hs'
    exact hq β1 S' a' w' h1 (hg.trans h2)

end Go.Vm
