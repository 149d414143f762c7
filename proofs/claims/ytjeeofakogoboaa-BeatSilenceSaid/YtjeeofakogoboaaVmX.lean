/- The small machine forgets how often a list has grown: versions begin anew. It states nothing of any program. -/
import Derived.Test.YtjeeofakogoboaaVmP
namespace Go.Vm
set_option linter.unusedVariables false
set_option linter.unusedSimpArgs false

def newver : Nat → Nat
  | 0 => 0
  | _ + 1 => 1

/-- The version that is now, said anew; an older one: nothing. -/
def rstV (m : Nat) (hp : List Ob) (id ver : Nat) : Option Nat :=
  match Nat.ble m id with
  | false => some ver
  | true => match hp[id]? with
    | some (.cells _ ver' _ _) => match Nat.beq ver ver' with
      | true => some (newver ver)
      | false => none
    | _ => some ver

mutual
def rstC (m : Nat) (hp : List Ob) : C → C
  | .ar id ver off n => match rstV m hp id ver with | some v => .ar id v off n | none => .dead
  | .ptr id ver off => match rstV m hp id ver with | some v => .ptr id v off | none => .dead
  | .fn f caps => .fn f (rstL m hp caps)
  | c => c
def rstL (m : Nat) (hp : List Ob) : List C → List C
  | [] => []
  | c :: cs => rstC m hp c :: rstL m hp cs
end
def rstVal (m : Nat) (hp : List Ob) : V → V
  | .one c => .one (rstC m hp c)
  | .agg cs => .agg (rstL m hp cs)
def rstVs (m : Nat) (hp : List Ob) : List V → List V
  | [] => []
  | x :: xs => rstVal m hp x :: rstVs m hp xs
def rstD (m : Nat) (hp : List Ob) : D → D
  | .v x => .v (rstVal m hp x)
  | .tup xs => .tup (rstVs m hp xs)
  | .dead => .dead
def rstS (m : Nat) (hp : List Ob) : List D → List D
  | [] => []
  | d :: ds => rstD m hp d :: rstS m hp ds
def rstOb (m : Nat) (hp : List Ob) (id : Nat) : Ob → Ob
  | .cells sz ver cs fz => .cells sz (match Nat.ble m id with | false => ver | true => newver ver) (match ver with | 0 => rstL m hp cs | _ + 1 => cs) fz
  | .gone => .gone
def rstG (m : Nat) (hp : List Ob) : Nat → List Ob → List Ob
  | _, [] => []
  | i, o :: os => rstOb m hp i o :: rstG m hp (i + 1) os
def rstH (m : Nat) (hp : List Ob) : List Ob := rstG m hp 0 hp

theorem rstL_eq (m : Nat) (hp : List Ob) : ∀ cs : List C, rstL m hp cs = cs.map (rstC m hp)
  | [] => rfl
  | c :: cs => by simp [rstL, rstL_eq m hp cs]

theorem rstG_get (m : Nat) (hp : List Ob) : ∀ (os : List Ob) (i t : Nat), (rstG m hp i os)[t]? = (os[t]?).map (rstOb m hp (i + t))
  | [], i, t => by simp [rstG]
  | o :: os, i, 0 => by simp [rstG]
  | o :: os, i, t + 1 => by simp only [rstG, List.getElem?_cons_succ]; rw [rstG_get m hp os (i + 1) t, show i + 1 + t = i + (t + 1) by omega]

theorem rstG_length (m : Nat) (hp : List Ob) : ∀ (os : List Ob) (i : Nat), (rstG m hp i os).length = os.length
  | [], i => rfl
  | o :: os, i => by simp [rstG, rstG_length m hp os]

theorem rstH_get (m : Nat) (hp : List Ob) (t : Nat) : (rstH m hp)[t]? = (hp[t]?).map (rstOb m hp t) := by
  unfold rstH; rw [rstG_get]; simp

section
variable {Wr : Nat → Prop} {m : Nat} {hp : List Ob} {β : Nat → Option (Nat × Nat)} {S : Nat → Nat → Prop} {w : World}

theorem rstH_src {id sz ver : Nat} {cs : List C} {fz : Bool} (h : (rstH m hp)[id]? = some (.cells sz ver cs fz)) :
    ∃ ver0 cs0, hp[id]? = some (.cells sz ver0 cs0 fz) ∧ ver = (if id < m then ver0 else newver ver0) ∧ cs = (match ver0 with | 0 => rstL m hp cs0 | _ + 1 => cs0) := by
  rw [rstH_get] at h
  obtain ⟨ob, h1, h2⟩ := Option.map_eq_some_iff.1 h
  cases ob with
  | gone => simp [rstOb] at h2
  | cells sz0 ver0 cs0 fz0 =>
    simp only [rstOb, Ob.cells.injEq] at h2
    obtain ⟨rfl, rfl, rfl, rfl⟩ := h2
    refine ⟨ver0, cs0, h1, ?_, rfl⟩
    by_cases hlt : id < m
    · have : Nat.ble m id = false := by cases hb : Nat.ble m id with | false => rfl | true => have := Nat.le_of_ble_eq_true hb; omega
      rw [this, if_pos hlt]
    · have : Nat.ble m id = true := Nat.ble_eq_true_of_le (by omega)
      rw [this, if_neg hlt]

theorem newver_zero {v : Nat} : newver v = 0 ↔ v = 0 := by cases v <;> simp [newver]

theorem rstH_zero {id ver0 : Nat} : ((if id < m then ver0 else newver ver0) = 0) ↔ ver0 = 0 := by
  split
  · rfl
  · exact newver_zero

theorem src_len {ver0 : Nat} {cs0 cs : List C} (h : cs = (match ver0 with | 0 => rstL m hp cs0 | _ + 1 => cs0)) : cs.length = cs0.length := by
  cases ver0 with
  | zero => rw [h]; simp [rstL_eq]
  | succ n => rw [h]

/-- A version that was said anew, against the one that is kept. -/
theorem rstV_spec {id ver v ver0 : Nat} {sz : Nat} {cs0 : List C} {fz : Bool} (h : rstV m hp id ver = some v) (hid : hp[id]? = some (.cells sz ver0 cs0 fz)) (hle : ver ≤ ver0) :
    v ≤ (if id < m then ver0 else newver ver0) ∧ (v = (if id < m then ver0 else newver ver0) → ver = ver0) := by
  unfold rstV at h
  by_cases hlt : id < m
  · have hb : Nat.ble m id = false := by cases hb : Nat.ble m id with | false => rfl | true => have := Nat.le_of_ble_eq_true hb; omega
    rw [hb] at h
    simp only [Option.some.injEq] at h
    subst h
    rw [if_pos hlt]
    exact ⟨hle, fun e => e⟩
  · have hb : Nat.ble m id = true := Nat.ble_eq_true_of_le (by omega)
    rw [hb, hid] at h
    simp only at h
    split at h
    · rename_i he
      simp only [Option.some.injEq] at h
      have he' := Nat.eq_of_beq_eq_true he
      subst he'
      rw [if_neg hlt, ← h]
      exact ⟨Nat.le_refl _, fun _ => rfl⟩
    · cases h

mutual
theorem rstC_sound : ∀ (c : C) (u : Value), RelC β hp S w c u → RelC β (rstH m hp) S w (rstC m hp c) u
  | .sc v, u, hr => by simp only [rstC, RelC] at hr ⊢; exact hr
  | .dead, u, hr => by simp only [rstC, RelC] at hr ⊢; exact hr
  | .sl n cs, u, hr => by simp only [rstC, RelC] at hr ⊢; exact hr
  | .loc cs off, u, hr => by simp only [rstC, RelC] at hr ⊢; exact hr
  | .fn f caps, u, hr => by
    simp only [rstC, RelC] at hr ⊢
    obtain ⟨us, h1, h2⟩ := hr
    exact ⟨us, h1, rstL_sound caps us.toList h2⟩
  | .ar id ver off n, u, hr => by
    have hone := hr.one
    simp only [rstC]
    split
    · rename_i v hv
      simp only [RelC] at hr ⊢
      obtain ⟨hu, hid, hs⟩ := hr
      refine ⟨hu, by unfold rstH; rw [rstG_length]; exact hid, fun sz ver' cs fz hc => ?_⟩
      obtain ⟨ver0, cs0, g1, g2, g3⟩ := rstH_src hc
      obtain ⟨q1, q2⟩ := hs sz ver0 cs0 fz g1
      obtain ⟨p1, p2⟩ := rstV_spec hv g1 q1
      refine ⟨by rw [g2]; exact p1, fun e => ?_⟩
      obtain ⟨q3, q4⟩ := q2 (p2 (by rw [← g2]; exact e))
      exact ⟨by rw [src_len g3]; exact q3, q4⟩
    · simp only [RelC, RelP]; exact hone
  | .ptr id ver off, u, hr => by
    have hone := hr.one
    simp only [rstC]
    split
    · rename_i v hv
      simp only [RelC] at hr ⊢
      obtain ⟨hu, hid, hs⟩ := hr
      refine ⟨hu, by unfold rstH; rw [rstG_length]; exact hid, fun sz ver' cs fz hc => ?_⟩
      obtain ⟨ver0, cs0, g1, g2, g3⟩ := rstH_src hc
      obtain ⟨q1, q2⟩ := hs sz ver0 cs0 fz g1
      obtain ⟨p1, p2⟩ := rstV_spec hv g1 q1
      exact ⟨by rw [g2]; exact p1, fun e => q2 (p2 (by rw [← g2]; exact e))⟩
    · simp only [RelC, RelP]; exact hone
theorem rstL_sound : ∀ (cs : List C) (us : List Value), RelL β hp S w cs us → RelL β (rstH m hp) S w (rstL m hp cs) us
  | [], us, hr => by simp only [rstL, RelL] at hr ⊢; exact hr
  | c :: cs, us, hr => by
    simp only [rstL, RelL] at hr ⊢
    obtain ⟨u, us', e1, e2, e3⟩ := hr
    exact ⟨u, us', e1, rstC_sound c u e2, rstL_sound cs us' e3⟩
end

theorem rstVal_sound (x : V) (u : Value) (hr : RelV β hp S w x u) : RelV β (rstH m hp) S w (rstVal m hp x) u := by
  cases x with
  | one c => exact rstC_sound c u hr
  | agg cs => obtain ⟨us, h1, h2⟩ := hr; exact ⟨us, h1, rstL_sound cs _ h2⟩

theorem rstVs_sound : ∀ (xs : List V) (us : List Value), RelVs β hp S w xs us → RelVs β (rstH m hp) S w (rstVs m hp xs) us
  | [], us, hr => hr
  | x :: xs, us, ⟨u, us', e1, e2, e3⟩ => ⟨u, us', e1, rstVal_sound x u e2, rstVs_sound xs us' e3⟩

theorem rstD_sound (x : D) (u : Value) (hr : RelD β hp S w x u) : RelD β (rstH m hp) S w (rstD m hp x) u := by
  cases x with
  | v x => exact rstVal_sound x u hr
  | tup xs => obtain ⟨us, h1, h2⟩ := hr; exact ⟨us, h1, rstVs_sound xs _ h2⟩
  | dead => trivial

theorem rstS_sound : ∀ (sl : List D) (us : List Value), RelDs β hp S w sl us → RelDs β (rstH m hp) S w (rstS m hp sl) us
  | [], us, hr => hr
  | d :: ds, us, ⟨u, us', e1, e2, e3⟩ => ⟨u, us', e1, rstD_sound d u e2, rstS_sound ds us' e3⟩

theorem HRel.rst (h : HRel β hp S w Wr) : HRel β (rstH m hp) S w Wr := by
  refine ⟨fun id sz ver cs fz hi => ?_, fun id id' sz ver cs fz sz' ver' cs' fz' b o o' h1 h2 h3 h4 => ?_, h.imm⟩
  · obtain ⟨ver0, cs0, g1, g2, g3⟩ := rstH_src hi
    obtain ⟨⟨hsz, hpl⟩, h'⟩ := h.cells id sz ver0 cs0 fz g1
    have hlen := src_len g3
    have hz : ver = 0 ↔ ver0 = 0 := by rw [g2]; exact rstH_zero
    refine ⟨⟨hsz, fun hv c hc => ?_⟩, ?_⟩
    · have hv0 : ver0 ≠ 0 := fun e => hv (hz.2 e)
      cases ver0 with
      | zero => exact absurd rfl hv0
      | succ n => simp only at g3; subst g3; exact hpl hv0 c hc
    · rcases h' with h' | ⟨b, o, arr, e, k1, k2, k3, k4, k5, k6⟩
      · exact .inl ⟨h'.1, List.eq_nil_of_length_eq_zero (by rw [hlen, h'.2]; rfl)⟩
      · refine .inr ⟨b, o, arr, e, k1, k2, k3, by omega, fun j c hc => ?_, fun k hs => by rw [hlen]; exact k6 k hs⟩
        cases ver0 with
        | zero =>
          simp only at g3
          rw [g3, rstL_eq, List.getElem?_map] at hc
          obtain ⟨c0, e1, rfl⟩ := Option.map_eq_some_iff.1 hc
          obtain ⟨u, m1, m2⟩ := k5 j c0 e1
          exact ⟨u, m1, rstC_sound c0 u m2⟩
        | succ n =>
          simp only at g3
          subst g3
          obtain ⟨u, m1, m2⟩ := (show Lies β hp S w cs b o from k5).plain (hpl (by omega)) j c hc
          exact ⟨u, m1, RelP.rel c u m2⟩
  · obtain ⟨v0, c0, g1, _⟩ := rstH_src h1
    obtain ⟨v0', c0', g1', _⟩ := rstH_src h2
    exact h.inj id id' _ _ _ _ _ _ _ _ b o o' g1 g1' h3 h4

theorem gone_rst (hm : m ≤ hp.length) : Gone Wr m hp β S w (rstH m hp) β S w :=
  ⟨⟨by unfold rstH; rw [rstG_length]; exact hm, fun id sz ver cs' fz' hid hc => by
    obtain ⟨ver0, cs0, g1, g2, g3⟩ := rstH_src hc
    rw [if_pos hid] at g2
    have hlen := src_len g3
    exact ⟨ver0, cs0, fz', g1, by omega, fun _ => ⟨by omega, rfl⟩⟩, fun _ _ hh => hh⟩, Evo.refl _ _ _, fun _ _ hh => .inl hh⟩

end

theorem Weak.rst {m : Nat} {sl : List D} {hp : List Ob} : Weak m sl hp (rstS m hp sl) (rstH m hp) :=
  fun Wr β S a w hs => ⟨β, ⟨rstS_sound sl _ hs.slots, hs.heap.rst, hs.fresh, by unfold rstH; rw [rstG_length]; exact hs.base, hs.defers⟩, gone_rst hs.base⟩

end Go.Vm
