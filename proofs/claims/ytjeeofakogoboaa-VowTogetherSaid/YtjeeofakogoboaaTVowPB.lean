/- Vows: what the steps of an end come to. -/
import Derived.Test.YtjeeofakogoboaaTVowB
namespace Go.Proofs.Ytjeeofakogoboaa.T
open Go.Vm Go.Tm
set_option linter.unusedVariables false
set_option linter.unusedSimpArgs false

theorem beqF {a b : Int} (h : ¬ a = b) : (a == b) = false := by simpa using h
theorem bneT {a b : Int} (h : ¬ a = b) : (a != b) = true := by simpa using h

abbrev Vow := Int × Bool × Bool × Int
abbrev Told := Bool × Bool × Bool
abbrev Act := Int × Int × Int × Int × Int

def may (v : Vow) : Prop := 0 ≤ v.1 ∧ v.1 ≤ 2 ∧ 0 ≤ v.2.2.2 ∧ v.2.2.2 ≤ 2147483647 ∧ (v.2.2.1 = true → v.1 = 0 ∧ v.2.1 = false) ∧ (v.1 ≠ 0 → v.2.1 = false)
instance (v : Vow) : Decidable (may v) := by unfold may; infer_instance

theorem may_cases {m : Int} {t b : Bool} {o : Int} (h : may (m, t, b, o)) : (m = 0 ∨ m = 1 ∨ m = 2) ∧ 0 ≤ o ∧ o ≤ 2147483647 ∧ (b = true → m = 0 ∧ t = false) ∧ (m ≠ 0 → t = false) := by
  obtain ⟨h1, h2, h3, h4, h5, h6⟩ := h
  simp only at *
  exact ⟨by omega, h3, h4, h5, h6⟩

theorem check_r (v : Vow) : vow_Check_r v = (true, if may v then (0 : Int) else 1) := by
  obtain ⟨m, t, b, o⟩ := v
  unfold vow_Check_r may
  by_cases h1 : o < 0
  · have : ¬ 0 ≤ o := by omega
    simp [h1, this]
  by_cases h2 : o > 2147483647
  · have : ¬ o ≤ 2147483647 := by omega
    simp [h1, h2, this]
  by_cases h3 : m < 0
  · have : ¬ 0 ≤ m := by omega
    simp [h1, h2, h3, this]
  by_cases h4 : m > 2
  · have : ¬ m ≤ 2 := by omega
    simp [h1, h2, h3, h4, this]
  have e1 : 0 ≤ o := by omega
  have e2 : o ≤ 2147483647 := by omega
  have e3 : 0 ≤ m := by omega
  have e4 : m ≤ 2 := by omega
  by_cases h5 : m = 0
  · subst h5; cases t <;> cases b <;> simp [h1, h2, e1, e2]
  · cases t <;> cases b <;> simp [h1, h2, h3, h4, e1, e2, e3, e4, h5, beqF h5, bneT h5]

theorem May_r (v : Vow) : withyref21_May_r v = (true, decide (may v)) := by
  obtain ⟨m, t, b, o⟩ := v
  unfold withyref21_May_r may
  by_cases h3 : m < 0
  · have : ¬ 0 ≤ m := by omega
    simp [h3, this]
  by_cases h4 : m > 2
  · have : ¬ m ≤ 2 := by omega
    simp [h3, h4, this]
  by_cases h1 : o < 0
  · have : ¬ 0 ≤ o := by omega
    simp [h1, h3, h4, this]
  by_cases h2 : o > 2147483647
  · have : ¬ o ≤ 2147483647 := by omega
    simp [h1, h2, h3, h4, this]
  have e1 : 0 ≤ o := by omega
  have e2 : o ≤ 2147483647 := by omega
  have e3 : 0 ≤ m := by omega
  have e4 : m ≤ 2 := by omega
  by_cases h5 : m = 0
  · subst h5; cases t <;> cases b <;> simp [h1, h2, e1, e2]
  · cases t <;> cases b <;> simp [h1, h2, h3, h4, e1, e2, e3, e4, h5, beqF h5, bneT h5]

def bindV (v : Vow) : Vow := (0, false, true, if v.1 = 2 ∧ v.2.2.2 < 2147483647 then v.2.2.2 + 1 else v.2.2.2)
def noTold : Told := (false, false, false)
def grant (v : Vow) : Vow × Told × List Int := if v.1 = 0 ∧ v.2.2.1 = false then (if v.2.1 = true then (bindV v, (true, false, false), [4]) else ((1, v.2), noTold, [4])) else (v, noTold, [])
def recant (v : Vow) : Vow × Told × List Int := if v.1 = 1 then ((2, v.2), noTold, [5]) else (v, noTold, [])
def part (v : Vow) : Vow × Told × List Int := if v.2.2.1 = true then ((v.1, v.2.1, false, v.2.2.2), (false, true, false), [7]) else (v, noTold, [])
def hear (v : Vow) (k : Int) : Vow × Told × List Int :=
  if k = 4 then (if 0 < v.1 then (bindV v, (true, false, false), []) else if v.2.2.1 = false then ((v.1, true, v.2.2), noTold, []) else (v, noTold, []))
  else if k = 5 then ((v.1, false, v.2.2), noTold, [6])
  else if k = 6 then (if 0 < v.2.2.2 then ((v.1, v.2.1, v.2.2.1, v.2.2.2 - 1), noTold, []) else if v.1 = 2 then ((0, v.2), (false, false, true), []) else (v, noTold, []))
  else if k = 7 then (if v.2.2.1 = true then ((v.1, v.2.1, false, v.2.2.2), (false, true, false), []) else (v, noTold, []))
  else (v, noTold, [])

theorem bind_r {v : Vow} (h : may v) : vow_bind_r v = (true, bindV v) := by
  obtain ⟨m, t, b, o⟩ := v
  obtain ⟨h1, h2, h3, h4, h5⟩ := may_cases h
  unfold vow_bind_r bindV
  have hw : IntKind.i64.wrap (o + 1) = o + 1 := wrap_i64 (by omega) (by omega)
  by_cases hm : m = 2
  · subst hm
    by_cases ho : o < 2147483647
    · by_cases ho2 : o + 1 < 2147483647
      · simp [hw, ho, ho2]
      · have : o = 2147483646 := by omega
        subst this; simp [show IntKind.i64.wrap 2147483647 = 2147483647 from by decide]
    · have : o = 2147483647 := by omega
      subst this; simp [show IntKind.i64.wrap 2147483648 = 2147483648 from by decide]
  · simp [hm, beqF hm]

theorem rbind_r {v : Vow} (h : may v) : withyref21_bind_r v = (true, bindV v) := by
  obtain ⟨m, t, b, o⟩ := v
  obtain ⟨h1, h2, h3, h4, h5⟩ := may_cases h
  unfold withyref21_bind_r bindV
  have hw : IntKind.i64.wrap (o + 1) = o + 1 := wrap_i64 (by omega) (by omega)
  by_cases hm : m = 2
  · subst hm
    by_cases ho : o < 2147483647
    · simp [hw, ho]
    · simp [ho]
  · simp [hm, beqF hm]

def zeroV : Vow := (0, false, false, 0)

theorem grant_r (v : Vow) : vow_Grant_r v = if may v then (true, (grant v).1, (grant v).2.1, 0, (grant v).2.2) else (true, zeroV, noTold, 1, []) := by
  unfold vow_Grant_r
  simp only [check_r]
  by_cases h : may v
  · have hb := bind_r h
    obtain ⟨m, t, b, o⟩ := v
    simp only [hb, h, if_true]
    unfold grant
    by_cases hm : m = 0
    · cases b <;> cases t <;> simp [hm, noTold]
    · cases b <;> cases t <;> simp [hm, noTold, beqF hm, bneT hm]
  · obtain ⟨m, t, b, o⟩ := v
    simp only [h, if_false]
    cases b <;> simp [noTold, zeroV]

theorem rgrant_r {v : Vow} (h : may v) : withyref21_Grant_r v = (true, grant v) := by
  unfold withyref21_Grant_r
  have hb := rbind_r h
  obtain ⟨m, t, b, o⟩ := v
  simp only [hb]
  unfold grant
  by_cases hm : m = 0
  · cases b <;> cases t <;> simp [hm, noTold]
  · cases b <;> cases t <;> simp [hm, noTold, beqF hm, bneT hm]

theorem recant_r (v : Vow) : vow_Recant_r v = if may v then (true, (recant v).1, (recant v).2.1, 0, (recant v).2.2) else (true, zeroV, noTold, 1, []) := by
  unfold vow_Recant_r
  simp only [check_r]
  obtain ⟨m, t, b, o⟩ := v
  by_cases h : may (m, t, b, o)
  · simp only [h, if_true]
    unfold recant
    by_cases hm : m = 1
    · simp [hm, noTold]
    · simp [hm, noTold, beqF hm, bneT hm]
  · simp only [h, if_false]
    simp [noTold, zeroV]

theorem rrecant_r (v : Vow) : withyref21_Recant_r v = (true, recant v) := by
  unfold withyref21_Recant_r
  obtain ⟨m, t, b, o⟩ := v
  unfold recant
  by_cases hm : m = 1
  · simp [hm, noTold]
  · simp [hm, noTold, beqF hm, bneT hm]

theorem part_r (v : Vow) : vow_Part_r v = if may v then (true, (part v).1, (part v).2.1, 0, (part v).2.2) else (true, zeroV, noTold, 1, []) := by
  unfold vow_Part_r
  simp only [check_r]
  obtain ⟨m, t, b, o⟩ := v
  by_cases h : may (m, t, b, o)
  · simp only [h, if_true]
    unfold part
    cases b <;> simp [noTold]
  · simp only [h, if_false]
    simp [noTold, zeroV]

theorem rpart_r (v : Vow) : withyref21_Part_r v = (true, part v) := by
  unfold withyref21_Part_r
  obtain ⟨m, t, b, o⟩ := v
  unfold part
  cases b <;> simp [noTold]

theorem hear_r (v : Vow) (k : Int) : vow_Hear_r v k = if may v then (true, (hear v k).1, (hear v k).2.1, 0, (hear v k).2.2) else (true, zeroV, noTold, 1, []) := by
  unfold vow_Hear_r
  simp only [check_r]
  by_cases h : may v
  · have hb := bind_r h
    obtain ⟨m, t, b, o⟩ := v
    obtain ⟨h1, h2, h3, h4, h5⟩ := may_cases h
    have hw : 0 < o → IntKind.i64.wrap (o - 1) = o - 1 := fun _ => wrap_i64 (by omega) (by omega)
    simp only [hb, h, if_true]
    unfold hear
    by_cases k4 : k = 4
    · subst k4
      rcases h1 with rfl | rfl | rfl
      · cases b
        · simp [noTold]
        · have := (h4 rfl).2; subst this; simp [noTold]
      · simp [noTold]
      · simp [noTold]
    by_cases k5 : k = 5
    · subst k5; simp [noTold]
    by_cases k6 : k = 6
    · subst k6
      by_cases ho : 0 < o
      · simp [noTold, ho, hw ho]
      · by_cases hm : m = 2
        · simp [noTold, ho, hm]
        · simp [noTold, ho, hm, beqF hm, bneT hm]
    by_cases k7 : k = 7
    · subst k7; cases b <;> simp [noTold]
    simp [noTold, k4, k5, k6, k7, beqF k4, beqF k5, beqF k6, beqF k7]
  · obtain ⟨m, t, b, o⟩ := v
    simp only [h, if_false]
    simp [noTold, zeroV]

theorem rhear_r {v : Vow} (h : may v) (k : Int) : withyref21_Hear_r v k = (true, hear v k) := by
  unfold withyref21_Hear_r
  have hb := rbind_r h
  obtain ⟨m, t, b, o⟩ := v
  obtain ⟨h1, h2, h3, h4, h5⟩ := may_cases h
  have hw : 0 < o → IntKind.i64.wrap (o - 1) = o - 1 := fun _ => wrap_i64 (by omega) (by omega)
  simp only [hb]
  unfold hear
  by_cases k4 : k = 4
  · subst k4
    by_cases hm : 0 < m
    · simp [noTold, hm]
    · cases b <;> simp [noTold, hm]
  by_cases k5 : k = 5
  · subst k5; simp [noTold]
  by_cases k6 : k = 6
  · subst k6
    by_cases ho : 0 < o
    · simp [noTold, ho, hw ho]
    · by_cases hm : m = 2
      · simp [noTold, ho, hm]
      · simp [noTold, ho, hm, beqF hm, bneT hm]
  by_cases k7 : k = 7
  · subst k7; cases b <;> simp [noTold]
  simp [noTold, k4, k5, k6, k7, beqF k4, beqF k5, beqF k6, beqF k7]

theorem may_bind {v : Vow} (h : may v) : may (bindV v) := by
  obtain ⟨m, t, b, o⟩ := v
  obtain ⟨h1, h2, h3, h4, h5⟩ := may_cases h
  unfold bindV may
  simp only
  split <;> exact ⟨by omega, by omega, by omega, by omega, by simp, by simp⟩

theorem may_grant {v : Vow} (h : may v) : may (grant v).1 := by
  unfold grant
  split
  · split
    · exact may_bind h
    · obtain ⟨m, t, b, o⟩ := v
      obtain ⟨h1, h2, h3, h4, h5⟩ := may_cases h
      rename_i hb ht
      simp only at hb ht
      exact ⟨by simp, by simp, h2, h3, (fun hx => by simp only at hx; rw [hb.2] at hx; cases hx), (fun _ => by simpa using ht)⟩
  · exact h

theorem may_recant {v : Vow} (h : may v) : may (recant v).1 := by
  unfold recant
  split
  · obtain ⟨m, t, b, o⟩ := v
    obtain ⟨h1, h2, h3, h4, h5⟩ := may_cases h
    rename_i hm
    simp only at hm
    subst hm
    exact ⟨by simp, by simp, h2, h3, fun hx => absurd (h4 hx).1 (by omega), fun _ => h5 (by omega)⟩
  · exact h

theorem may_part {v : Vow} (h : may v) : may (part v).1 := by
  unfold part
  split
  · obtain ⟨m, t, b, o⟩ := v
    obtain ⟨h1, h2, h3, h4, h5⟩ := may_cases h
    exact ⟨by simp only; omega, by simp only; omega, h2, h3, (fun hx => by cases hx), h5⟩
  · exact h

theorem may_hear {v : Vow} (h : may v) (k : Int) : may (hear v k).1 := by
  have hb := may_bind h
  obtain ⟨m, t, b, o⟩ := v
  obtain ⟨h1, h2, h3, h4, h5⟩ := may_cases h
  unfold hear
  split
  · split
    · exact hb
    · split
      · rename_i hm hbb
        simp only at hm hbb
        have : m = 0 := by omega
        subst this
        exact ⟨by simp, by simp, h2, h3, (fun hx => by simp only at hx; rw [hbb] at hx; cases hx), fun hx => absurd rfl hx⟩
      · exact h
  · split
    · exact ⟨by simp only; omega, by simp only; omega, h2, h3, fun hx => ⟨(h4 hx).1, rfl⟩, fun _ => rfl⟩
    · split
      · split
        · rename_i ho
          simp only at ho
          exact ⟨by simp only; omega, by simp only; omega, by simp only; omega, by simp only; omega, h4, h5⟩
        · split
          · rename_i hm
            simp only at hm
            exact ⟨by simp, by simp, h2, h3, fun hx => absurd (h4 hx).1 (by omega), fun hx => absurd rfl hx⟩
          · exact h
      · split
        · split
          · exact ⟨by simp only; omega, by simp only; omega, h2, h3, (fun hx => by cases hx), h5⟩
          · exact h
        · exact h

theorem same_r (w : List Int) (f : Told) (h : w.length ≤ 1) : withyref21_Same_r (w, f) (w, f) = (true, true) := by
  obtain ⟨x, y, z⟩ := f
  have key := loopR_by (d := HL.dflt [.bool, .bool, .bool]) (step := withyref21_Same_l0 (w, x, y, z) (w, x, y, z)) (fun s => ∃ i : Nat, s = ((i : Int), ()) ∧ i ≤ w.length) (fun s => w.length - s.1.toNat) (fun r => (cond r.2.2.1 true r.2.1) = true) ((0 : Int), ()) ⟨0, rfl, by omega⟩
    (by
      rintro _ ⟨i, rfl, hi⟩
      unfold withyref21_Same_l0
      by_cases hlt : i < w.length
      · simp [hlt, wrap_i64 (x := (i : Int) + 1) (by omega) (by omega)]
        exact ⟨⟨i + 1, rfl, by omega⟩, by omega⟩
      · simp [hlt])
  unfold withyref21_Same_r
  have k1 := key.1
  have k2 := key.2
  simp only [loopD]
  rw [k1]
  simp [k2]

end Go.Proofs.Ytjeeofakogoboaa.T
