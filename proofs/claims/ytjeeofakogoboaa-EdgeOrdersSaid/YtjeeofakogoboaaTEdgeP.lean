/- The theorem of order: what the edges' functions come to, and that the law's answer is true. -/
import Derived.Test.YtjeeofakogoboaaTEdge
namespace Go.Proofs.Ytjeeofakogoboaa.T
open Go.Vm Go.Tm
set_option linter.unusedVariables false
set_option linter.unusedSimpArgs false

def cmpI (a b : Int) : Int := if a < b then -1 else if b < a then 1 else 0

theorem compare_r (a b : Int) : cmp_Compare_int__r a b = (true, cmpI a b) := by
  unfold cmp_Compare_int__r cmp_isNaN_int__r cmpI
  by_cases h1 : a < b <;> by_cases h2 : b < a <;> simp [h1, h2]

def firstNz : List Int → Int
  | [] => 0
  | x :: l => if x = 0 then firstNz l else x

theorem firstNz_drop {l : List Int} {i : Nat} (h : i < l.length) : firstNz (l.drop i) = if l[i] = 0 then firstNz (l.drop (i + 1)) else l[i] := by
  rw [List.drop_eq_getElem_cons h]; rfl

theorem or_r (l : List Int) (hl : l.length ≤ 9223372036854775806) : cmp_Or_int__r l = (true, firstNz l) := by
  have key := loopR_by (d := HL.dflt [.bool, .int .i64, .bool]) (step := cmp_Or_int__l0 l) (fun s => ∃ i : Nat, s = ((i : Int), ()) ∧ i ≤ l.length ∧ firstNz (l.drop i) = firstNz l) (fun s => l.length - s.1.toNat) (fun r => (cond r.2.2.1 (0 : Int) r.2.1) = firstNz l) ((0 : Int), ()) ⟨0, rfl, by omega, by simp⟩
    (by
      rintro _ ⟨i, rfl, hi, hf⟩
      unfold cmp_Or_int__l0
      by_cases hlt : i < l.length
      · have hw := firstNz_drop hlt
        by_cases hz : l[i] = 0
        · simp [hlt, hz, wrap_i64 (x := (i : Int) + 1) (by omega) (by omega)]
          refine ⟨⟨i + 1, rfl, by omega, ?_⟩, by omega⟩
          rw [← hf, hw, if_pos hz]
        · simp [hlt, hz]
          rw [← hf, hw, if_neg hz]
      · have : l.drop i = [] := List.drop_eq_nil_of_le (by omega)
        rw [this] at hf
        simp [hlt, ← hf]; rfl)
  exact Prod.ext key.1 key.2

/-- The order of edges. -/
def edgeCmp (a b : Int × Int × Int) : Int := firstNz [cmpI a.2.2 b.2.2, cmpI a.1 b.1, cmpI a.2.1 b.2.1]

theorem edge_Compare_eq (a b : Int × Int × Int) : edge_Compare_r a b = (true, edgeCmp a b) := by
  unfold edge_Compare_r edgeCmp
  simp only [compare_r]
  rw [or_r _ (by simp)]
  rfl

theorem edgeCmp_cases (a b : Int × Int × Int) : (edgeCmp a b = -1 ∧ (a.2.2 < b.2.2 ∨ a.2.2 = b.2.2 ∧ (a.1 < b.1 ∨ a.1 = b.1 ∧ a.2.1 < b.2.1))) ∨ (edgeCmp a b = 0 ∧ a = b) ∨ (edgeCmp a b = 1 ∧ (b.2.2 < a.2.2 ∨ a.2.2 = b.2.2 ∧ (b.1 < a.1 ∨ a.1 = b.1 ∧ b.2.1 < a.2.1))) := by
  obtain ⟨x, y, w⟩ := a
  obtain ⟨x', y', w'⟩ := b
  unfold edgeCmp cmpI
  simp only [firstNz, Prod.mk.injEq]
  rcases Int.lt_trichotomy w w' with h1 | h1 | h1
  · simp [h1]
  · subst h1
    rcases Int.lt_trichotomy x x' with h2 | h2 | h2
    · simp [h2]
    · subst h2
      rcases Int.lt_trichotomy y y' with h3 | h3 | h3
      · simp [h3]
      · subst h3; simp
      · simp [h3, Int.not_lt.2 (Int.le_of_lt h3)]
    · simp [h2, Int.not_lt.2 (Int.le_of_lt h2)]
  · simp [h1, Int.not_lt.2 (Int.le_of_lt h1)]

theorem node_r (n : Int) : edge_Node_r n = (true, decide (1 ≤ n ∧ n ≤ 64)) := by
  unfold edge_Node_r
  by_cases h1 : 1 ≤ n <;> simp [h1]

theorem awake_r : withylaw05_awake_r = (true, true) := by
  unfold withylaw05_awake_r edge_Of_r edge_Check_r edge_Other_r
  simp [node_r]

theorem less_r (a b : Int × Int × Int) : withyref05_Less_r a b = (true, decide (edgeCmp a b < 0)) := by
  unfold withyref05_Less_r
  rcases edgeCmp_cases a b with ⟨h, h1⟩ | ⟨h, rfl⟩ | ⟨h, h1⟩ <;> rw [h]
  · rcases h1 with h1 | ⟨h1, h2 | ⟨h2, h3⟩⟩
    · have : ¬ a.2.2 = b.2.2 := by omega
      simp [h1, this]
    · simp [h1, h2]
    · simp [h1, h2, h3]
  · simp
  · rcases h1 with h1 | ⟨h1, h2 | ⟨h2, h3⟩⟩
    · have : ¬ a.2.2 = b.2.2 := by omega
      have h4 : ¬ a.2.2 < b.2.2 := by omega
      simp [this, h4]
    · have : ¬ a.1 = b.1 := by omega
      have h4 : ¬ a.1 < b.1 := by omega
      simp [h1, this, h4]
    · have h4 : ¬ a.2.1 < b.2.1 := by omega
      simp [h1, h2, h4]

theorem edgeOrders_true (a b c : Int × Int × Int) : withylaw05_EdgeOrders_r a b c = (true, true) := by
  unfold withylaw05_EdgeOrders_r
  obtain ⟨x, y, w⟩ := a
  obtain ⟨x', y', w'⟩ := b
  obtain ⟨x2, y2, w2⟩ := c
  simp only [edge_Compare_eq, less_r, awake_r]
  have h1 := edgeCmp_cases (x, y, w) (x', y', w')
  have h2 := edgeCmp_cases (x', y', w') (x, y, w)
  have h3 := edgeCmp_cases (x', y', w') (x2, y2, w2)
  have h4 := edgeCmp_cases (x, y, w) (x2, y2, w2)
  simp only [Prod.mk.injEq] at h1 h2 h3 h4
  have w1 : IntKind.i64.wrap (0 - edgeCmp (x, y, w) (x', y', w')) = - edgeCmp (x, y, w) (x', y', w') := by
    rw [wrap_i64 (by omega) (by omega)]; omega
  rw [w1]
  generalize edgeCmp (x, y, w) (x', y', w') = p at *
  generalize edgeCmp (x', y', w') (x, y, w) = q at *
  generalize edgeCmp (x', y', w') (x2, y2, w2) = r at *
  generalize edgeCmp (x, y, w) (x2, y2, w2) = s at *
  have e1 : (p == 0) = ((x == x') && ((y == y') && (w == w'))) := by
    rw [Bool.eq_iff_iff]; simp; omega
  have e2 : q = -p := by omega
  have e3 : p = -1 ∨ p = 0 ∨ p = 1 := by omega
  have e4 : ¬ (0 < p) → ¬ (0 < r) → s ≤ 0 := by omega
  subst e2
  rw [← e1]
  by_cases hp : 0 < p
  · simp [hp]; omega
  · by_cases hr : 0 < r
    · simp [hp, hr]; omega
    · have := e4 hp hr
      simp [hp, hr, this]; omega

end Go.Proofs.Ytjeeofakogoboaa.T
