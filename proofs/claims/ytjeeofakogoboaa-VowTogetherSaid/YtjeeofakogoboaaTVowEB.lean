/- Vows: two ends in any weather, told by the one who is plain. -/
import Derived.Test.YtjeeofakogoboaaTVowDB
namespace Go.Proofs.Ytjeeofakogoboaa.T
open Go.Vm Go.Tm
set_option linter.unusedVariables false
set_option linter.unusedSimpArgs false

theorem round_go {σ ρ : Type} {step : σ → Bool × Bool × σ × ρ} {s y : σ} {r : ρ} {I : σ → Prop} {μ : σ → Nat} {Q : ρ → Prop} (e : step s = (true, true, y, r)) (h : I y ∧ μ y < μ s) : (step s).1 = true ∧ ((step s).2.1 = true → I (step s).2.2.1 ∧ μ (step s).2.2.1 < μ s) ∧ ((step s).2.1 = false → Q (step s).2.2.2) := by
  rw [e]; exact ⟨rfl, fun _ => h, fun h => by cases h⟩
theorem round_end {σ ρ : Type} {step : σ → Bool × Bool × σ × ρ} {s y : σ} {r : ρ} {I : σ → Prop} {μ : σ → Nat} {Q : ρ → Prop} (e : step s = (true, false, y, r)) (h : Q r) : (step s).1 = true ∧ ((step s).2.1 = true → I (step s).2.2.1 ∧ μ (step s).2.2.1 < μ s) ∧ ((step s).2.1 = false → Q (step s).2.2.2) := by
  rw [e]; exact ⟨rfl, (fun h => by cases h), fun _ => h⟩

abbrev PW := (Nat → (Int × (Bool × (Bool × Int)))) × (Nat → (List Int))
def DW (x : PW) (w : W) : Prop := x.1 0 = w.1 ∧ x.1 1 = w.2.1 ∧ x.2 0 = w.2.2.1 ∧ x.2 1 = w.2.2.2

theorem cap2 {n m : Nat} (h : n ≤ 2000) (h1 : m ≤ 1) : (n + m) * 8 ≤ 140737488355328 := by omega

set_option maxHeartbeats 4000000 in
theorem do1 {V : Nat → Vow} {Y : Nat → List Int} {a b : Vow} {p q : List Int} {k : Int} {r : Int × Int × Int} (hV0 : V 0 = a) (hV1 : V 1 = b) (hp : Y 0 = p) (hq : Y 1 = q) (ha : may a) (hb : may b) (hpq : p.length + q.length ≤ 2000) :
    (withyref21_Do_r (V, Y) (k, 1, r)).1 = true ∧ DW (withyref21_Do_r (V, Y) (k, 1, r)).2 (step1 a b p q k) := by
  have c0 : ∀ m : Nat, m ≤ 1 → (p.length + m) * 8 ≤ 140737488355328 := fun m hm => cap2 (by omega) hm
  have c1 : ∀ m : Nat, m ≤ 1 → (q.length + m) * 8 ≤ 140737488355328 := fun m hm => cap2 (by omega) hm
  have z0 := c0 0 (by omega)
  have z1 := c1 0 (by omega)
  rw [Nat.add_zero] at z0 z1
  have g1 := c0 _ (grant_len a)
  have g2 := c0 _ (recant_len a)
  have g3 := c0 _ (part_len a)
  by_cases k8 : k = 8
  · subst k8
    simp [withyref21_Do_r, wr0, wr1, nb10, nb01, hV0, hV1, rgrant_r ha, DW, step1, hp, hq, g1, z0]
  by_cases k5 : k = 5
  · subst k5
    simp [withyref21_Do_r, wr0, wr1, nb10, nb01, hV0, hV1, rrecant_r, DW, step1, hp, hq, g2, z0]
  by_cases k9 : k = 9
  · subst k9
    simp [withyref21_Do_r, wr0, wr1, nb10, nb01, hV0, hV1, rpart_r, DW, step1, hp, hq, g3, z0]
  by_cases k2 : k = 2
  · subst k2
    cases hpc : p with
    | nil =>
      rw [hpc] at hp
      simp [withyref21_Do_r, wr0, wr1, nb10, nb01, hV0, hV1, DW, step1, hp, hq]
    | cons x p' =>
      rw [hpc] at hp
      have g4 := c1 _ (hear_len b x)
      have e1 : ((p'.length : Int) + 1 == 0) = false := beqF (by omega)
      simp [withyref21_Do_r, wr0, wr1, nb10, nb01, hV0, hV1, rhear_r hb, DW, step1, hp, hq, g4, z1, e1]
  simp [withyref21_Do_r, wr0, wr1, nb10, nb01, hV0, hV1, DW, step1, hp, hq, z0, k8, k5, k9, k2, beqF k8, beqF k5, beqF k9, beqF k2]

set_option maxHeartbeats 4000000 in
theorem do2 {V : Nat → Vow} {Y : Nat → List Int} {a b : Vow} {p q : List Int} {k : Int} {r : Int × Int × Int} (hV0 : V 0 = a) (hV1 : V 1 = b) (hp : Y 0 = p) (hq : Y 1 = q) (ha : may a) (hb : may b) (hpq : p.length + q.length ≤ 2000) :
    (withyref21_Do_r (V, Y) (k, 2, r)).1 = true ∧ DW (withyref21_Do_r (V, Y) (k, 2, r)).2 (flip (step1 b a q p k)) := by
  have c0 : ∀ m : Nat, m ≤ 1 → (p.length + m) * 8 ≤ 140737488355328 := fun m hm => cap2 (by omega) hm
  have c1 : ∀ m : Nat, m ≤ 1 → (q.length + m) * 8 ≤ 140737488355328 := fun m hm => cap2 (by omega) hm
  have z0 := c0 0 (by omega)
  have z1 := c1 0 (by omega)
  rw [Nat.add_zero] at z0 z1
  have g1 := c1 _ (grant_len b)
  have g2 := c1 _ (recant_len b)
  have g3 := c1 _ (part_len b)
  by_cases k8 : k = 8
  · subst k8
    simp [withyref21_Do_r, wr0, wr1, nb10, nb01, hV0, hV1, rgrant_r hb, DW, step1, flip, hp, hq, g1, z1]
  by_cases k5 : k = 5
  · subst k5
    simp [withyref21_Do_r, wr0, wr1, nb10, nb01, hV0, hV1, rrecant_r, DW, step1, flip, hp, hq, g2, z1]
  by_cases k9 : k = 9
  · subst k9
    simp [withyref21_Do_r, wr0, wr1, nb10, nb01, hV0, hV1, rpart_r, DW, step1, flip, hp, hq, g3, z1]
  by_cases k2 : k = 2
  · subst k2
    cases hpc : q with
    | nil =>
      rw [hpc] at hq
      simp [withyref21_Do_r, wr0, wr1, nb10, nb01, hV0, hV1, DW, step1, flip, hp, hq]
    | cons x p' =>
      rw [hpc] at hq
      have g4 := c0 _ (hear_len a x)
      have e1 : ((p'.length : Int) + 1 == 0) = false := beqF (by omega)
      simp [withyref21_Do_r, wr0, wr1, nb10, nb01, hV0, hV1, rhear_r ha, DW, step1, flip, hp, hq, g4, z0, e1]
  simp [withyref21_Do_r, wr0, wr1, nb10, nb01, hV0, hV1, DW, step1, flip, hp, hq, z1, k8, k5, k9, k2, beqF k8, beqF k5, beqF k9, beqF k2]

theorem do_r {x : PW} {w : W} {n : Nat} {o : Act} (h : DW x w) (hg : good w n) (hn : n ≤ 2000) : (withyref21_Do_r x o).1 = true ∧ DW (withyref21_Do_r x o).2 (step w o) := by
  obtain ⟨V, Y⟩ := x
  obtain ⟨k, A, r⟩ := o
  obtain ⟨h1, h2, h3, h4⟩ := h
  obtain ⟨g1, g2, g3⟩ := hg
  unfold step
  by_cases e1 : A = 1
  · subst e1
    rw [if_pos rfl]
    exact do1 h1 h2 h3 h4 g1 g2 (by omega)
  · by_cases e2 : A = 2
    · subst e2
      rw [if_neg (by simp), if_pos rfl]
      exact do2 h1 h2 h3 h4 g1 g2 (by omega)
    · rw [if_neg e1, if_neg e2]
      simp [withyref21_Do_r, e1, e2, bneT e1, bneT e2, DW, h1, h2, h3, h4]

end Go.Proofs.Ytjeeofakogoboaa.T
