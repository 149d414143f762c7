/- Views: the law of links, in plain Lean. -/
import Derived.Test.YtjeeofakogoboaaTViewF
namespace Go.Proofs.Ytjeeofakogoboaa.T
open Go.Vm Go.Tm
set_option linter.unusedVariables false
set_option linter.unusedSimpArgs false

abbrev K := Int × Int × Int × Int × Bool
abbrev Vw := List Int × List K

def cmpI (a b : Int) : Int := if a < b then -1 else if b < a then 1 else 0

theorem compare_r (a b : Int) : cmp_Compare_int_r a b = (true, cmpI a b) := by
  unfold cmp_Compare_int_r cmp_isNaN_int_r cmpI
  by_cases h1 : a < b <;> by_cases h2 : b < a <;> simp [h1, h2]

theorem or_r (a b : Int) : cmp_Or_int_r [a, b] = (true, if a = 0 then b else a) := by
  have key : ∃ x e, loopD 0 [.int .i64] [.bool, .int .i64, .bool] (cmp_Or_int_l0 [a, b]) ((0 : Int), ()) = (true, x, (if a = 0 then b else a), e, ()) ∧ (e = true → (if a = 0 then b else a) = 0) := by
    by_cases ha : a = 0
    · have h0 : RGo (cmp_Or_int_l0 [a, b] ((0 : Int), ())) ((1 : Int), ()) := by
        unfold cmp_Or_int_l0 RGo; simp [ha, wrap_i64] <;> rfl
      have e0 := h0.go (d := HL.dflt [.bool, .int .i64, .bool])
      by_cases hb : b = 0
      · have h1 : RGo (cmp_Or_int_l0 [a, b] ((1 : Int), ())) ((2 : Int), ()) := by
          unfold cmp_Or_int_l0 RGo; simp [hb, wrap_i64] <;> rfl
        have e1 := h1.go (d := HL.dflt [.bool, .int .i64, .bool])
        have h2 : REnd (cmp_Or_int_l0 [a, b] ((2 : Int), ())) (false, (0 : Int), true, ()) := by
          unfold cmp_Or_int_l0 REnd; simp <;> rfl
        refine ⟨false, true, ?_, fun _ => by simp [ha, hb]⟩
        rw [if_pos ha]
        conv => rhs; rw [hb]
        exact ((e0.trans e1).trans (h2.end (d := HL.dflt [.bool, .int .i64, .bool]))).trans rfl
      · have h1 : REnd (cmp_Or_int_l0 [a, b] ((1 : Int), ())) (true, b, false, ()) := by
          unfold cmp_Or_int_l0 REnd; simp [hb, bneI hb] <;> rfl
        refine ⟨true, false, ?_, fun h => by cases h⟩
        rw [if_pos ha]
        exact e0.trans (h1.end (d := HL.dflt [.bool, .int .i64, .bool]))
    · have h0 : REnd (cmp_Or_int_l0 [a, b] ((0 : Int), ())) (true, a, false, ()) := by
        unfold cmp_Or_int_l0 REnd; simp [ha, bneI ha] <;> rfl
      refine ⟨true, false, ?_, fun h => by cases h⟩
      rw [if_neg ha]
      exact h0.end (d := HL.dflt [.bool, .int .i64, .bool])
  obtain ⟨x, e, key, he⟩ := key
  unfold cmp_Or_int_r
  rw [key]
  cases e with
  | true => simp [he rfl]
  | false => rfl

def ordK (a b : K) : Int := if cmpI a.1 b.1 = 0 then cmpI a.2.1 b.2.1 else cmpI a.1 b.1
def aheadB (a b : K) : Bool := decide (a.1 < b.1) || (decide (a.1 = b.1) && decide (a.2.1 < b.2.1))

theorem cmpI_cases (a b : Int) : (cmpI a b = -1 ∧ a < b) ∨ (cmpI a b = 0 ∧ a = b) ∨ (cmpI a b = 1 ∧ b < a) := by
  unfold cmpI
  rcases Int.lt_trichotomy a b with h | h | h
  · simp [h]
  · simp [h]
  · have : ¬ a < b := by omega
    simp [h, this]

theorem order_r (a b : K) : view_order_r a b = (true, ordK a b) := by
  unfold view_order_r ordK
  simp only [compare_r, or_r]
  simp

theorem ordK_lt (a b : K) : (ordK a b < 0 ↔ aheadB a b = true) ∧ (ordK a b = 0 ↔ a.1 = b.1 ∧ a.2.1 = b.2.1) := by
  unfold ordK aheadB
  rcases cmpI_cases a.1 b.1 with ⟨h, h'⟩ | ⟨h, h'⟩ | ⟨h, h'⟩ <;> rcases cmpI_cases a.2.1 b.2.1 with ⟨k, k'⟩ | ⟨k, k'⟩ | ⟨k, k'⟩ <;> rw [h] <;> simp [k, h'] <;> omega

def nodeB (n : Int) : Bool := decide (1 ≤ n ∧ n ≤ 64)

theorem node_r (n : Int) : edge_Node_r n = (true, nodeB n) := by
  unfold edge_Node_r nodeB
  by_cases h1 : 1 ≤ n <;> by_cases h2 : n ≤ 64 <;> simp [h1, h2]

theorem refNode_r (n : Int) : withyref05_Node_r n = (true, nodeB n) := by
  unfold withyref05_Node_r nodeB
  by_cases h1 : 1 ≤ n <;> by_cases h2 : n ≤ 64 <;> simp [h1, h2]

theorem getD_at {α : Type} {l : List α} {i : Nat} (d : α) (h : i < l.length) : (l[i]?).getD d = l[i] := by simp [h]

theorem contains_r (l : List Int) (x : Int) (hl : l.length ≤ 1000) : slices_Contains_int_r l x = (true, decide (x ∈ l)) := by
  unfold slices_Contains_int_r slices_Index_int_r
  rcases loop_find (d := HL.dflt [.bool, .int .i64, .bool]) (step := slices_Index_int_l0 l x) l.length (fun i => (l[i]?).getD 0 = x) (fun i => (true, (i : Int), false, ())) (false, (l.length : Int), true, ()) (fun i hi => by
      unfold slices_Index_int_l0 RGo REnd
      constructor
      · intro h; simp [hi] at h ⊢; simp [h] <;> rfl
      · intro h
        simp [hi] at h ⊢
        have : ¬ x = l[i] := fun e => h e.symm
        simp [this, beqI this, wrap_i64 (x := (i : Int) + 1) (by omega) (by omega)] <;> rfl) (by unfold slices_Index_int_l0 REnd; simp <;> rfl) with ⟨i, hi, h1, h2, h3⟩ | ⟨h1, h3⟩
  · rw [show loopD 0 [.int .i64] [.bool, .int .i64, .bool] (slices_Index_int_l0 l x) ((0 : Int), ()) = (true, true, (i : Int), false, ()) from h3]
    have : x ∈ l := by rw [getD_at 0 hi] at h1; rw [← h1]; exact List.getElem_mem hi
    simp [this]
  · rw [show loopD 0 [.int .i64] [.bool, .int .i64, .bool] (slices_Index_int_l0 l x) ((0 : Int), ()) = (true, false, (l.length : Int), true, ()) from h3]
    have : x ∉ l := fun hx => by
      obtain ⟨i, hi, he⟩ := List.getElem_of_mem hx
      exact h1 i hi (by rw [getD_at 0 hi]; exact he)
    simp [this]

theorem in_r (l : List Int) (x : Int) (hl : l.length ≤ 1000) : withyref09_in_r l x = (true, decide (x ∈ l)) := by
  unfold withyref09_in_r
  rcases loop_find (d := HL.dflt [.bool, .bool, .bool]) (step := withyref09_in_l0 l x) l.length (fun i => (l[i]?).getD 0 = x) (fun i => (true, true, false, ())) (false, true, true, ()) (fun i hi => by
      unfold withyref09_in_l0 RGo REnd
      constructor
      · intro h; simp [hi] at h ⊢; simp [h] <;> rfl
      · intro h
        simp [hi] at h ⊢
        simp [h, beqI h, wrap_i64 (x := (i : Int) + 1) (by omega) (by omega)] <;> rfl) (by unfold withyref09_in_l0 REnd; simp <;> rfl) with ⟨i, hi, h1, h2, h3⟩ | ⟨h1, h3⟩
  · rw [show loopD 0 [.int .i64] [.bool, .bool, .bool] (withyref09_in_l0 l x) ((0 : Int), ()) = (true, true, true, false, ()) from h3]
    have : x ∈ l := by rw [getD_at 0 hi] at h1; rw [← h1]; exact List.getElem_mem hi
    simp [this]
  · rw [show loopD 0 [.int .i64] [.bool, .bool, .bool] (withyref09_in_l0 l x) ((0 : Int), ()) = (true, false, true, true, ()) from h3]
    have : x ∉ l := fun hx => by
      obtain ⟨i, hi, he⟩ := List.getElem_of_mem hx
      exact h1 i hi (by rw [getD_at 0 hi]; exact he)
    simp [this]

end Go.Proofs.Ytjeeofakogoboaa.T

namespace Go.Proofs.Ytjeeofakogoboaa.T
open Go.Vm Go.Tm
set_option linter.unusedVariables false
set_option linter.unusedSimpArgs false

theorem cond_ct (c x : Bool) : (cond c (c && x) true) = (!c || x) := by cases c <;> rfl
theorem cond_tc (c x : Bool) : (cond c true x) = (c || x) := by cases c <;> rfl
theorem cond_cf (c x : Bool) : (cond c x false) = (c && x) := by cases c <;> rfl
theorem cond_ft (c x : Bool) : (cond c x true) = (!c || x) := by cases c <;> rfl

abbrev kd : K := (0, 0, 0, 0, false)

def nodeOk (l : List Int) (i : Nat) : Prop := nodeB ((l[i]?).getD 0) = true ∧ (0 < i → (l[i - 1]?).getD 0 < (l[i]?).getD 0)
def plainOk (ns : List Int) (k : K) : Prop := k.1 ∈ ns ∧ nodeB k.2.1 = true ∧ ¬ k.2.1 = k.1 ∧ 0 ≤ k.2.2.1 ∧ k.2.2.1 ≤ 2147483647 ∧ 1 ≤ k.2.2.2.1 ∧ k.2.2.2.1 ≤ 2147483647
def linkOk (v : Vw) (i : Nat) : Prop := plainOk v.1 ((v.2[i]?).getD kd) ∧ (0 < i → aheadB ((v.2[i - 1]?).getD kd) ((v.2[i]?).getD kd) = true)

theorem wrap_pred {i : Nat} (h : 0 < i) (hi : i ≤ 1000) : IntKind.i64.wrap ((i : Int) - 1) = ((i - 1 : Nat) : Int) := by
  rw [wrap_i64 (by omega) (by omega)]; omega

theorem check0 (v : Vw) (h1 : v.1.length ≤ 70) (i : Nat) (hi : i < v.1.length) : (¬ nodeOk v.1 i → REnd (view_Check_l0 v ((i : Int), ())) (true, (1 : Int), false, ())) ∧ (nodeOk v.1 i → RGo (view_Check_l0 v ((i : Int), ())) (((i + 1 : Nat) : Int), ())) := by
  unfold view_Check_l0 REnd RGo nodeOk
  simp only [node_r]
  rcases Nat.eq_zero_or_pos i with rfl | hp
  · cases a : nodeB ((v.1[0]?).getD 0) <;> simp [hi, wrap_i64, a] at a ⊢ <;> simp [a]
  · have e1 := wrap_pred hp (by omega)
    have e2 : i - 1 < v.1.length := by omega
    have e3 := wrap_i64 (x := (i : Int) + 1) (by omega) (by omega)
    cases a : nodeB ((v.1[i]?).getD 0)
    · simp [hi, hp, e1, e2, e3] at a ⊢; simp [a]
    · by_cases b : (v.1[i - 1]?).getD 0 < (v.1[i]?).getD 0
      · simp [hi, hp, e1, e2, e3] at a b ⊢; simp [a, b]
      · simp [hi, hp, e1, e2, e3] at a b ⊢; simp [a, b]

theorem may0 (v : Vw) (h1 : v.1.length ≤ 70) (i : Nat) (hi : i < v.1.length) : (¬ nodeOk v.1 i → REnd (withyref09_May_l0 v ((i : Int), ())) (true, false, false, ())) ∧ (nodeOk v.1 i → RGo (withyref09_May_l0 v ((i : Int), ())) (((i + 1 : Nat) : Int), ())) := by
  unfold withyref09_May_l0 REnd RGo nodeOk
  simp only [refNode_r]
  rcases Nat.eq_zero_or_pos i with rfl | hp
  · cases a : nodeB ((v.1[0]?).getD 0) <;> simp [hi, wrap_i64, a] at a ⊢ <;> simp [a]
  · have e1 := wrap_pred hp (by omega)
    have e2 : i - 1 < v.1.length := by omega
    have e3 := wrap_i64 (x := (i : Int) + 1) (by omega) (by omega)
    cases a : nodeB ((v.1[i]?).getD 0)
    · simp [hi, hp, e1, e2, e3] at a ⊢; simp [a]
    · by_cases b : (v.1[i - 1]?).getD 0 < (v.1[i]?).getD 0
      · simp [hi, hp, e1, e2, e3] at a b ⊢; simp [a, b]
      · simp [hi, hp, e1, e2, e3] at a b ⊢; simp [a, b]

theorem aheadR (a b : K) : withyref09_ahead_r a b = (true, aheadB a b) := by
  unfold withyref09_ahead_r aheadB
  by_cases h1 : a.1 < b.1 <;> by_cases h2 : a.1 = b.1 <;> by_cases h3 : a.2.1 < b.2.1 <;> simp [h1, h2, h3, beqI]

theorem check1 (v : Vw) (h1 : v.1.length ≤ 70) (h2 : v.2.length ≤ 200) (i : Nat) (hi : i < v.2.length) : (¬ linkOk v i → REnd (view_Check_l1 v ((i : Int), ())) (true, (1 : Int), false, ())) ∧ (linkOk v i → RGo (view_Check_l1 v ((i : Int), ())) (((i + 1 : Nat) : Int), ())) := by
  unfold view_Check_l1 REnd RGo linkOk plainOk
  simp only [node_r, contains_r v.1 _ (by omega : v.1.length ≤ 1000), order_r]
  have hw := wrap_i64 (x := (i : Int) + 1) (by omega) (by omega)
  rcases Nat.eq_zero_or_pos i with rfl | hp
  · generalize hk : (v.2[0]?).getD kd = k
    have hk' : (v.2[0]?).getD ((0 : Int), ((0 : Int), ((0 : Int), ((0 : Int), false)))) = k := hk
    simp only [Int.ofNat_zero, Int.toNat_natCast, Int.toNat_zero, hk']
    by_cases c0 : nodeB k.2.1 = true
    rotate_left
    · simp [hi, hw, wrap_i64, c0]
    by_cases c1 : ¬ k.2.1 = k.1
    rotate_left
    · have c1' := Classical.not_not.1 c1
      simp [hi, hw, wrap_i64, c0, c1']
    by_cases c2 : 0 ≤ k.2.2.1
    rotate_left
    · simp [hi, hw, wrap_i64, c0, c1, beqI c1, beqI (fun e => c1 e.symm), (fun e => c1 e.symm : ¬ k.1 = k.2.1), c2, Int.not_le.1 c2]
    by_cases c3 : k.2.2.1 ≤ 2147483647
    rotate_left
    · simp [hi, hw, wrap_i64, c0, c1, c2, beqI c1, beqI (fun e => c1 e.symm), (fun e => c1 e.symm : ¬ k.1 = k.2.1), (Int.not_lt.2 c2), c3, Int.not_le.1 c3]
    by_cases c4 : 1 ≤ k.2.2.2.1
    rotate_left
    · simp [hi, hw, wrap_i64, c0, c1, c2, c3, beqI c1, beqI (fun e => c1 e.symm), (fun e => c1 e.symm : ¬ k.1 = k.2.1), (Int.not_lt.2 c2), (Int.not_lt.2 c3), c4, Int.not_le.1 c4]
    by_cases c5 : k.2.2.2.1 ≤ 2147483647
    rotate_left
    · simp [hi, hw, wrap_i64, c0, c1, c2, c3, c4, beqI c1, beqI (fun e => c1 e.symm), (fun e => c1 e.symm : ¬ k.1 = k.2.1), (Int.not_lt.2 c2), (Int.not_lt.2 c3), (Int.not_lt.2 c4), c5, Int.not_le.1 c5]
    by_cases c6 : k.1 ∈ v.1
    rotate_left
    · simp [hi, hw, wrap_i64, c0, c1, c2, c3, c4, c5, beqI c1, beqI (fun e => c1 e.symm), (fun e => c1 e.symm : ¬ k.1 = k.2.1), (Int.not_lt.2 c2), (Int.not_lt.2 c3), (Int.not_lt.2 c4), (Int.not_lt.2 c5), c6]
    simp [hi, hw, wrap_i64, c0, c1, c2, c3, c4, c5, c6, beqI c1, beqI (fun e => c1 e.symm), (fun e => c1 e.symm : ¬ k.1 = k.2.1), (Int.not_lt.2 c2), (Int.not_lt.2 c3), (Int.not_lt.2 c4), (Int.not_lt.2 c5)]
  · have e1 := wrap_pred hp (by omega)
    have e2 : i - 1 < v.2.length := by omega
    generalize hk : (v.2[i]?).getD kd = k
    have hk' : (v.2[i]?).getD ((0 : Int), ((0 : Int), ((0 : Int), ((0 : Int), false)))) = k := hk
    generalize hj : (v.2[i - 1]?).getD kd = j
    have hj' : (v.2[i - 1]?).getD ((0 : Int), ((0 : Int), ((0 : Int), ((0 : Int), false)))) = j := hj
    simp only [Int.toNat_natCast, e1, hk', hj']
    clear hk hj hk' hj'
    by_cases c0 : nodeB k.2.1 = true
    rotate_left
    · simp [hi, hw, hp, e1, e2, c0]
    by_cases c1 : ¬ k.2.1 = k.1
    rotate_left
    · have c1' := Classical.not_not.1 c1
      simp [hi, hw, hp, e1, e2, c0, c1']
    by_cases c2 : 0 ≤ k.2.2.1
    rotate_left
    · simp [hi, hw, hp, e1, e2, c0, c1, beqI c1, beqI (fun e => c1 e.symm), (fun e => c1 e.symm : ¬ k.1 = k.2.1), c2, Int.not_le.1 c2]
    by_cases c3 : k.2.2.1 ≤ 2147483647
    rotate_left
    · simp [hi, hw, hp, e1, e2, c0, c1, c2, beqI c1, beqI (fun e => c1 e.symm), (fun e => c1 e.symm : ¬ k.1 = k.2.1), (Int.not_lt.2 c2), c3, Int.not_le.1 c3]
    by_cases c4 : 1 ≤ k.2.2.2.1
    rotate_left
    · simp [hi, hw, hp, e1, e2, c0, c1, c2, c3, beqI c1, beqI (fun e => c1 e.symm), (fun e => c1 e.symm : ¬ k.1 = k.2.1), (Int.not_lt.2 c2), (Int.not_lt.2 c3), c4, Int.not_le.1 c4]
    by_cases c5 : k.2.2.2.1 ≤ 2147483647
    rotate_left
    · simp [hi, hw, hp, e1, e2, c0, c1, c2, c3, c4, beqI c1, beqI (fun e => c1 e.symm), (fun e => c1 e.symm : ¬ k.1 = k.2.1), (Int.not_lt.2 c2), (Int.not_lt.2 c3), (Int.not_lt.2 c4), c5, Int.not_le.1 c5]
    by_cases c6 : k.1 ∈ v.1
    rotate_left
    · simp [hi, hw, hp, e1, e2, c0, c1, c2, c3, c4, c5, beqI c1, beqI (fun e => c1 e.symm), (fun e => c1 e.symm : ¬ k.1 = k.2.1), (Int.not_lt.2 c2), (Int.not_lt.2 c3), (Int.not_lt.2 c4), (Int.not_lt.2 c5), c6]
    have ho := (ordK_lt j k).1
    by_cases d : aheadB j k = true
    · have d' := ho.2 d
      simp [hi, hw, hp, e1, e2, c0, c1, c2, c3, c4, c5, c6, beqI c1, beqI (fun e => c1 e.symm), (fun e => c1 e.symm : ¬ k.1 = k.2.1), (Int.not_lt.2 c2), (Int.not_lt.2 c3), (Int.not_lt.2 c4), (Int.not_lt.2 c5), d, d', Int.not_le.2 d']
    · have d' : ¬ ordK j k < 0 := fun hh => d (ho.1 hh)
      have d2 : 0 ≤ ordK j k := by omega
      simp [hi, hw, hp, e1, e2, c0, c1, c2, c3, c4, c5, c6, beqI c1, beqI (fun e => c1 e.symm), (fun e => c1 e.symm : ¬ k.1 = k.2.1), (Int.not_lt.2 c2), (Int.not_lt.2 c3), (Int.not_lt.2 c4), (Int.not_lt.2 c5), d, d', d2]

theorem may1 (v : Vw) (h1 : v.1.length ≤ 70) (h2 : v.2.length ≤ 200) (i : Nat) (hi : i < v.2.length) : (¬ linkOk v i → REnd (withyref09_May_l1 v ((i : Int), ())) (true, false, false, ())) ∧ (linkOk v i → RGo (withyref09_May_l1 v ((i : Int), ())) (((i + 1 : Nat) : Int), ())) := by
  unfold withyref09_May_l1 REnd RGo linkOk plainOk
  simp only [refNode_r, in_r v.1 _ (by omega : v.1.length ≤ 1000), aheadR]
  have hw := wrap_i64 (x := (i : Int) + 1) (by omega) (by omega)
  rcases Nat.eq_zero_or_pos i with rfl | hp
  · generalize hk : (v.2[0]?).getD kd = k
    have hk' : (v.2[0]?).getD ((0 : Int), ((0 : Int), ((0 : Int), ((0 : Int), false)))) = k := hk
    simp only [Int.ofNat_zero, Int.toNat_natCast, Int.toNat_zero, hk']
    by_cases c0 : k.1 ∈ v.1
    rotate_left
    · simp [hi, hw, wrap_i64, c0]
    by_cases c1 : nodeB k.2.1 = true
    rotate_left
    · simp [hi, hw, wrap_i64, c0, c1]
    by_cases c2 : ¬ k.2.1 = k.1
    rotate_left
    · have c2' := Classical.not_not.1 c2
      simp [hi, hw, wrap_i64, c0, c1, c2']
    by_cases c3 : 0 ≤ k.2.2.1
    rotate_left
    · simp [hi, hw, wrap_i64, c0, c1, c2, beqI c2, beqI (fun e => c2 e.symm), (fun e => c2 e.symm : ¬ k.1 = k.2.1), c3, Int.not_le.1 c3]
    by_cases c4 : k.2.2.1 ≤ 2147483647
    rotate_left
    · simp [hi, hw, wrap_i64, c0, c1, c2, c3, beqI c2, beqI (fun e => c2 e.symm), (fun e => c2 e.symm : ¬ k.1 = k.2.1), (Int.not_lt.2 c3), c4, Int.not_le.1 c4]
    by_cases c5 : 1 ≤ k.2.2.2.1
    rotate_left
    · simp [hi, hw, wrap_i64, c0, c1, c2, c3, c4, beqI c2, beqI (fun e => c2 e.symm), (fun e => c2 e.symm : ¬ k.1 = k.2.1), (Int.not_lt.2 c3), (Int.not_lt.2 c4), c5, Int.not_le.1 c5]
    by_cases c6 : k.2.2.2.1 ≤ 2147483647
    rotate_left
    · simp [hi, hw, wrap_i64, c0, c1, c2, c3, c4, c5, beqI c2, beqI (fun e => c2 e.symm), (fun e => c2 e.symm : ¬ k.1 = k.2.1), (Int.not_lt.2 c3), (Int.not_lt.2 c4), (Int.not_lt.2 c5), c6, Int.not_le.1 c6]
    simp [hi, hw, wrap_i64, c0, c1, c2, c3, c4, c5, c6, beqI c2, beqI (fun e => c2 e.symm), (fun e => c2 e.symm : ¬ k.1 = k.2.1), (Int.not_lt.2 c3), (Int.not_lt.2 c4), (Int.not_lt.2 c5), (Int.not_lt.2 c6)]
  · have e1 := wrap_pred hp (by omega)
    have e2 : i - 1 < v.2.length := by omega
    generalize hk : (v.2[i]?).getD kd = k
    have hk' : (v.2[i]?).getD ((0 : Int), ((0 : Int), ((0 : Int), ((0 : Int), false)))) = k := hk
    generalize hj : (v.2[i - 1]?).getD kd = j
    have hj' : (v.2[i - 1]?).getD ((0 : Int), ((0 : Int), ((0 : Int), ((0 : Int), false)))) = j := hj
    simp only [Int.toNat_natCast, e1, hk', hj']
    clear hk hj hk' hj'
    by_cases c0 : k.1 ∈ v.1
    rotate_left
    · simp [hi, hw, hp, e1, e2, c0]
    by_cases c1 : nodeB k.2.1 = true
    rotate_left
    · simp [hi, hw, hp, e1, e2, c0, c1]
    by_cases c2 : ¬ k.2.1 = k.1
    rotate_left
    · have c2' := Classical.not_not.1 c2
      simp [hi, hw, hp, e1, e2, c0, c1, c2']
    by_cases c3 : 0 ≤ k.2.2.1
    rotate_left
    · simp [hi, hw, hp, e1, e2, c0, c1, c2, beqI c2, beqI (fun e => c2 e.symm), (fun e => c2 e.symm : ¬ k.1 = k.2.1), c3, Int.not_le.1 c3]
    by_cases c4 : k.2.2.1 ≤ 2147483647
    rotate_left
    · simp [hi, hw, hp, e1, e2, c0, c1, c2, c3, beqI c2, beqI (fun e => c2 e.symm), (fun e => c2 e.symm : ¬ k.1 = k.2.1), (Int.not_lt.2 c3), c4, Int.not_le.1 c4]
    by_cases c5 : 1 ≤ k.2.2.2.1
    rotate_left
    · simp [hi, hw, hp, e1, e2, c0, c1, c2, c3, c4, beqI c2, beqI (fun e => c2 e.symm), (fun e => c2 e.symm : ¬ k.1 = k.2.1), (Int.not_lt.2 c3), (Int.not_lt.2 c4), c5, Int.not_le.1 c5]
    by_cases c6 : k.2.2.2.1 ≤ 2147483647
    rotate_left
    · simp [hi, hw, hp, e1, e2, c0, c1, c2, c3, c4, c5, beqI c2, beqI (fun e => c2 e.symm), (fun e => c2 e.symm : ¬ k.1 = k.2.1), (Int.not_lt.2 c3), (Int.not_lt.2 c4), (Int.not_lt.2 c5), c6, Int.not_le.1 c6]
    have ho := (ordK_lt j k).1
    by_cases d : aheadB j k = true
    · have d' := ho.2 d
      simp [hi, hw, hp, e1, e2, c0, c1, c2, c3, c4, c5, c6, beqI c2, beqI (fun e => c2 e.symm), (fun e => c2 e.symm : ¬ k.1 = k.2.1), (Int.not_lt.2 c3), (Int.not_lt.2 c4), (Int.not_lt.2 c5), (Int.not_lt.2 c6), d, d', Int.not_le.2 d']
    · have d' : ¬ ordK j k < 0 := fun hh => d (ho.1 hh)
      have d2 : 0 ≤ ordK j k := by omega
      simp [hi, hw, hp, e1, e2, c0, c1, c2, c3, c4, c5, c6, beqI c2, beqI (fun e => c2 e.symm), (fun e => c2 e.symm : ¬ k.1 = k.2.1), (Int.not_lt.2 c3), (Int.not_lt.2 c4), (Int.not_lt.2 c5), (Int.not_lt.2 c6), d, d', d2]

end Go.Proofs.Ytjeeofakogoboaa.T

namespace Go.Proofs.Ytjeeofakogoboaa.T
open Go.Vm Go.Tm
set_option linter.unusedVariables false
set_option linter.unusedSimpArgs false

def mayP (v : Vw) : Prop := (∀ i, i < v.1.length → nodeOk v.1 i) ∧ (∀ i, i < v.2.length → linkOk v i)

open Classical in
theorem check_r (v : Vw) (h1 : v.1.length ≤ 70) (h2 : v.2.length ≤ 200) : view_Check_r v = (true, if mayP v then 0 else 1) := by
  have e0 : REnd (view_Check_l0 v ((v.1.length : Int), ())) (false, (1 : Int), true, ()) := by
    unfold view_Check_l0 REnd; simp
  have e1 : REnd (view_Check_l1 v ((v.2.length : Int), ())) (false, (1 : Int), true, ()) := by
    unfold view_Check_l1 REnd; simp
  unfold view_Check_r
  rcases loop_find (d := HL.dflt [.bool, .int .i64, .bool]) (step := view_Check_l0 v) v.1.length (fun i => ¬ nodeOk v.1 i) (fun _ => (true, (1 : Int), false, ())) (false, (1 : Int), true, ()) (fun i hi => by
      obtain ⟨k1, k2⟩ := check0 v h1 i hi
      exact ⟨k1, fun h => k2 (Classical.not_not.1 h)⟩) e0 with ⟨i, hi, hp, _, h⟩ | ⟨hp, h⟩
  · have hm : ¬ mayP v := fun hm => hp (hm.1 i hi)
    rw [show loopD 0 [.int .i64] [.bool, .int .i64, .bool] (view_Check_l0 v) ((0 : Int), ()) = (true, true, (1 : Int), false, ()) from h]
    simp [hm]
  · rw [show loopD 0 [.int .i64] [.bool, .int .i64, .bool] (view_Check_l0 v) ((0 : Int), ()) = (true, false, (1 : Int), true, ()) from h]
    rcases loop_find (d := HL.dflt [.bool, .int .i64, .bool]) (step := view_Check_l1 v) v.2.length (fun i => ¬ linkOk v i) (fun _ => (true, (1 : Int), false, ())) (false, (1 : Int), true, ()) (fun i hi => by
      obtain ⟨k1, k2⟩ := check1 v h1 h2 i hi
      exact ⟨k1, fun h => k2 (Classical.not_not.1 h)⟩) e1 with ⟨i, hi, hq, _, g⟩ | ⟨hq, g⟩
    · have hm : ¬ mayP v := fun hm => hq (hm.2 i hi)
      rw [show loopD 1 [.int .i64] [.bool, .int .i64, .bool] (view_Check_l1 v) ((0 : Int), ()) = (true, true, (1 : Int), false, ()) from g]
      simp [hm]
    · have hm : mayP v := ⟨fun i hi => Classical.not_not.1 (hp i hi), fun i hi => Classical.not_not.1 (hq i hi)⟩
      rw [show loopD 1 [.int .i64] [.bool, .int .i64, .bool] (view_Check_l1 v) ((0 : Int), ()) = (true, false, (1 : Int), true, ()) from g]
      simp [hm]

open Classical in
theorem May_r (v : Vw) (h1 : v.1.length ≤ 70) (h2 : v.2.length ≤ 200) : withyref09_May_r v = (true, decide (mayP v)) := by
  have e0 : REnd (withyref09_May_l0 v ((v.1.length : Int), ())) (false, false, true, ()) := by
    unfold withyref09_May_l0 REnd; simp
  have e1 : REnd (withyref09_May_l1 v ((v.2.length : Int), ())) (false, false, true, ()) := by
    unfold withyref09_May_l1 REnd; simp
  unfold withyref09_May_r
  rcases loop_find (d := HL.dflt [.bool, .bool, .bool]) (step := withyref09_May_l0 v) v.1.length (fun i => ¬ nodeOk v.1 i) (fun _ => (true, false, false, ())) (false, false, true, ()) (fun i hi => by
      obtain ⟨k1, k2⟩ := may0 v h1 i hi
      exact ⟨k1, fun h => k2 (Classical.not_not.1 h)⟩) e0 with ⟨i, hi, hp, _, h⟩ | ⟨hp, h⟩
  · have hm : ¬ mayP v := fun hm => hp (hm.1 i hi)
    rw [show loopD 0 [.int .i64] [.bool, .bool, .bool] (withyref09_May_l0 v) ((0 : Int), ()) = (true, true, false, false, ()) from h]
    simp [hm]
  · rw [show loopD 0 [.int .i64] [.bool, .bool, .bool] (withyref09_May_l0 v) ((0 : Int), ()) = (true, false, false, true, ()) from h]
    rcases loop_find (d := HL.dflt [.bool, .bool, .bool]) (step := withyref09_May_l1 v) v.2.length (fun i => ¬ linkOk v i) (fun _ => (true, false, false, ())) (false, false, true, ()) (fun i hi => by
      obtain ⟨k1, k2⟩ := may1 v h1 h2 i hi
      exact ⟨k1, fun h => k2 (Classical.not_not.1 h)⟩) e1 with ⟨i, hi, hq, _, g⟩ | ⟨hq, g⟩
    · have hm : ¬ mayP v := fun hm => hq (hm.2 i hi)
      rw [show loopD 1 [.int .i64] [.bool, .bool, .bool] (withyref09_May_l1 v) ((0 : Int), ()) = (true, true, false, false, ()) from g]
      simp [hm]
    · have hm : mayP v := ⟨fun i hi => Classical.not_not.1 (hp i hi), fun i hi => Classical.not_not.1 (hq i hi)⟩
      rw [show loopD 1 [.int .i64] [.bool, .bool, .bool] (withyref09_May_l1 v) ((0 : Int), ()) = (true, false, false, true, ()) from g]
      simp [hm]

/-- Links in order. -/
def Sorted (l : List K) : Prop := ∀ (i j : Nat) (hij : i < j) (h : j < l.length), aheadB (l[i]'(by omega)) l[j] = true

theorem ahead_trans {a b c : K} (h : aheadB a b = true) (k : aheadB b c = true) : aheadB a c = true := by
  unfold aheadB at *
  simp only [Bool.or_eq_true, Bool.and_eq_true, decide_eq_true_eq] at *
  omega

theorem sorted_of (v : Vw) (h : ∀ i, i < v.2.length → linkOk v i) : Sorted v.2 := by
  intro i j hij hj
  induction j with
  | zero => omega
  | succ j ih =>
    have h1 := (h (j + 1) hj).2 (by omega)
    simp only [Nat.add_sub_cancel] at h1
    rw [getD_at kd hj, getD_at kd (by omega : j < v.2.length)] at h1
    rcases Nat.lt_or_ge i j with hlt | hge
    · exact ahead_trans (ih hlt (by omega)) h1
    · have : i = j := by omega
      subst this; exact h1

theorem half (i j : Nat) (h : i + j ≤ 2000) : IntKind.i64.wrap (iShr .u64 .u64 (IntKind.u64.wrap (IntKind.i64.wrap ((i : Int) + j))) (1 : Int)) = (((i + j) / 2 : Nat) : Int) := by
  have e1 : IntKind.i64.wrap ((i : Int) + j) = (i : Int) + j := wrap_i64 (by omega) (by omega)
  have e2 : IntKind.u64.wrap ((i : Int) + j) = (i : Int) + j := by
    unfold IntKind.wrap
    simp [IntKind.bits, IntKind.signed]
    omega
  rw [e1, e2]
  have e3 : iShr .u64 .u64 ((i : Int) + j) (1 : Int) = (((i + j) / 2 : Nat) : Int) := by
    show Int.fdiv ((i : Int) + j) (2 ^ (min (Int.toNat (1 : Int)) 64)) = _
    have : (2 : Int) ^ (min (Int.toNat (1 : Int)) 64) = 2 := by decide
    rw [this, Int.fdiv_eq_ediv_of_nonneg _ (by omega)]
    omega
  rw [e3, wrap_i64 (by omega) (by omega)]

/-- The place of a link in a list in order. -/
theorem search_r (l : List K) (t : K) (hl : l.length ≤ 200) (hs : Sorted l) : ∃ i : Nat, i ≤ l.length ∧ (∀ k (hk : k < l.length), k < i → ordK l[k] t < 0) ∧ (∀ k (hk : k < l.length), i ≤ k → ¬ ordK l[k] t < 0) ∧
    slices_BinarySearchFunc_api_Known_r l t () = (true, (i : Int), decide (i < l.length) && (ordK ((l[i]?).getD kd) t == 0)) := by
  have key := loopR_by (d := HL.dflt [.bool, .int .i64]) (step := slices_BinarySearchFunc_api_Known_l0 l t ()) (fun s => ∃ i j : Nat, s = ((j : Int), (i : Int), ()) ∧ i ≤ j ∧ j ≤ l.length ∧ (∀ k (hk : k < l.length), k < i → ordK l[k] t < 0) ∧ (∀ k (hk : k < l.length), j ≤ k → ¬ ordK l[k] t < 0))
    (fun s => (s.1 - s.2.1).toNat) (fun r => ∃ i : Nat, r = (true, (i : Int), ()) ∧ i ≤ l.length ∧ (∀ k (hk : k < l.length), k < i → ordK l[k] t < 0) ∧ (∀ k (hk : k < l.length), i ≤ k → ¬ ordK l[k] t < 0)) ((l.length : Int), (0 : Int), ()) ⟨0, l.length, rfl, by omega, by omega, fun k hk h => by omega, fun k hk h => by omega⟩ (by
      rintro _ ⟨i, j, rfl, hij, hj, ha, hb⟩
      unfold slices_BinarySearchFunc_api_Known_l0
      simp only [order_r, half i j (by omega)]
      rcases Nat.lt_or_ge i j with hlt | hge
      · have hm : (i + j) / 2 < l.length := by omega
        have hg : (l[(i + j) / 2]?).getD ((0 : Int), ((0 : Int), ((0 : Int), ((0 : Int), false)))) = l[(i + j) / 2] := getD_at kd hm
        have e1 : decide ((i : Int) < (j : Int)) = true := decide_eq_true (by omega)
        simp only [Int.toNat_natCast, hg, e1, cond_true, decT hm]
        have hdiv : ∀ a b : Nat, ((a : Int) ≤ b) ↔ a ≤ b := fun a b => by omega
        refine ⟨by simp; omega, fun _ => ?_, fun h => by cases h⟩
        by_cases hc : ordK l[(i + j) / 2] t < 0
        · rw [decT hc]
          simp only [cond_true]
          refine ⟨⟨(i + j) / 2 + 1, j, ?_, by omega, hj, fun k hk hki => ?_, hb⟩, by rw [wrap_i64 (by omega) (by omega)]; omega⟩
          · rw [wrap_i64 (by omega) (by omega)]; rfl
          · rcases Nat.lt_or_ge k ((i + j) / 2) with hkm | hkm
            · have h1 := hs k _ hkm hm
              rw [(ordK_lt _ _).1] at hc ⊢
              exact ahead_trans h1 hc
            · have : k = (i + j) / 2 := by omega
              subst this; exact hc
        · rw [decF hc]
          simp only [cond_false]
          refine ⟨⟨i, (i + j) / 2, rfl, by omega, by omega, ha, fun k hk hki => ?_⟩, by omega⟩
          intro hlt'
          rcases Nat.lt_or_ge ((i + j) / 2) k with hkm | hkm
          · have h1 := hs _ k hkm hk
            rw [(ordK_lt _ _).1] at hc hlt'
            exact hc (ahead_trans h1 hlt')
          · have : k = (i + j) / 2 := by omega
            subst this; exact hc hlt'
      · have : j = i := by omega
        subst this
        simp
        exact ⟨j, rfl, hj, ha, fun k hk h => by have := hb k hk h; omega⟩)
  obtain ⟨k1, i, k2, hi, k3, k4⟩ := key
  refine ⟨i, hi, k3, k4, ?_⟩
  have hloop : loopD 0 [.int .i64, .int .i64] [.bool, .int .i64] (slices_BinarySearchFunc_api_Known_l0 l t ()) ((l.length : Int), (0 : Int), ()) = (true, true, (i : Int), ()) := Prod.ext k1 k2
  unfold slices_BinarySearchFunc_api_Known_r
  rw [hloop]
  simp only [order_r]
  by_cases hlt : i < l.length
  · simp [hlt]
  · simp [hlt]

end Go.Proofs.Ytjeeofakogoboaa.T

namespace Go.Proofs.Ytjeeofakogoboaa.T
open Go.Vm Go.Tm
set_option linter.unusedVariables false
set_option linter.unusedSimpArgs false

def mate (a b : K) : Bool := decide (a.1 < a.2.1) && ((a.1 == b.2.1) && ((a.2.1 == b.1) && ((a.2.2.1 == b.2.2.1) && (a.2.2.2.1 == b.2.2.2.1))))
def joined (a b : K) : K := (a.1, a.2.1, a.2.2.1, a.2.2.2.1, a.2.2.2.2 && b.2.2.2.2)
def pairs (l : List K) (a : K) : List K := l.flatMap fun b => if mate a b then [joined a b] else []
def inner (l : List K) : List K := l.flatMap (pairs l)

def bodyK (l : List K) (a : K) : List K := if (decide (a.1 < a.2.1) || decide (a.1 = a.2.1)) = true then
    (match l.find? (fun b => b.1 == a.2.1 && b.2.1 == a.1) with
      | some b => if a.2.2.1 = b.2.2.1 ∧ a.2.2.2.1 = b.2.2.2.1 then [joined a b] else []
      | none => []) else []

theorem sorted_key {l : List K} (hs : Sorted l) {i j : Nat} (hi : i < l.length) (hj : j < l.length) (h1 : l[i].1 = l[j].1) (h2 : l[i].2.1 = l[j].2.1) : i = j := by
  have hn : ∀ a b : K, a.1 = b.1 → a.2.1 = b.2.1 → aheadB a b = true → False := fun a b e1 e2 h => by
    unfold aheadB at h
    simp only [Bool.or_eq_true, Bool.and_eq_true, decide_eq_true_eq] at h
    omega
  rcases Nat.lt_trichotomy i j with h | h | h
  · exact (hn _ _ h1 h2 (hs i j h hj)).elim
  · exact h
  · exact (hn _ _ h1.symm h2.symm (hs j i h hi)).elim

theorem pairs_len {l : List K} (hs : Sorted l) (a : K) : (pairs l a).length ≤ 1 := by
  by_cases h : ∃ i, ∃ hi : i < l.length, mate a l[i] = true
  · obtain ⟨i, hi, hm⟩ := h
    unfold pairs
    rw [flatMap_one _ l i hi (fun j hj hne => by
      have : mate a l[j] = false := by
        cases hmj : mate a l[j] with
        | false => rfl
        | true =>
          unfold mate at hm hmj
          simp only [Bool.and_eq_true, decide_eq_true_eq, beq_iff_eq] at hm hmj
          exact absurd (sorted_key hs hj hi (by omega) (by omega)) hne
      simp [this])]
    split <;> simp
  · have : pairs l a = [] := by
      unfold pairs
      apply flatMap_none
      intro b hb
      obtain ⟨i, hi, rfl⟩ := List.getElem_of_mem hb
      have : mate a l[i] = false := by
        cases hm : mate a l[i] with
        | false => rfl
        | true => exact absurd ⟨i, hi, hm⟩ h
      simp [this]
    rw [this]; simp

theorem inner0 (v : Vw) (h2 : v.2.length ≤ 200) (hs : Sorted v.2) (hne : ∀ i (hi : i < v.2.length), ¬ v.2[i].2.1 = v.2[i].1) (i : Nat) (hi : i < v.2.length) (acc : List K) (hN : acc.length + (pairs v.2 v.2[i]).length ≤ 1000) :
    RGo (view_Inner_l0 v ((i : Int), acc, ())) (((i + 1 : Nat) : Int), acc ++ pairs v.2 v.2[i], ()) := by
  unfold view_Inner_l0 RGo
  have hw := wrap_i64 (x := (i : Int) + 1) (by omega) (by omega)
  have hk : (v.2[i]?).getD ((0 : Int), ((0 : Int), ((0 : Int), ((0 : Int), false)))) = v.2[i] := getD_at kd hi
  have hne' := hne i hi
  simp only [Int.toNat_natCast, hk]
  generalize ha : v.2[i] = a at *
  obtain ⟨j, hj, j1, j2, j3⟩ := search_r v.2 (a.2.1, a.1, 0, 0, false) h2 hs
  simp only [j3, Int.toNat_natCast]
  by_cases hjl : j < v.2.length
  · have hg : (v.2[j]?).getD ((0 : Int), ((0 : Int), ((0 : Int), ((0 : Int), false)))) = v.2[j] := getD_at kd hjl
    have hg' : (v.2[j]?).getD kd = v.2[j] := getD_at kd hjl
    simp only [hg, hg']
    by_cases hf : ordK v.2[j] (a.2.1, a.1, 0, 0, false) = 0
    · have hkey := (ordK_lt _ _).2.1 hf
      simp only at hkey
      have hp : pairs v.2 a = if mate a v.2[j] then [joined a v.2[j]] else [] := by
        unfold pairs
        rw [flatMap_one _ v.2 j hjl (fun m hm hne => by
          have : mate a v.2[m] = false := by
            cases hmj : mate a v.2[m] with
            | false => rfl
            | true =>
              unfold mate at hmj
              simp only [Bool.and_eq_true, decide_eq_true_eq, beq_iff_eq] at hmj
              exact absurd (sorted_key hs hm hjl (by omega) (by omega)) hne
          simp [this])]
      rw [hp] at hN ⊢
      generalize v.2[j] = b at *
      unfold mate joined
      obtain ⟨a1, a2, a3, a4, a5⟩ := a
      obtain ⟨b1, b2, b3, b4, b5⟩ := b
      simp only at *
      obtain ⟨rfl, rfl⟩ := hkey
      have hacc : acc.length ≤ 1000 := by omega
      have hfit : (acc.length + 1) * 40 ≤ 140737488355328 := by omega
      by_cases q1 : b2 > b1
      · have q1' : ¬ b2 < b1 := by omega
        simp [hi, hw, hjl, hf, q1, q1']
      · have q1' : b2 < b1 := by omega
        have q2 : ¬ b1 < b2 := by omega
        by_cases q3 : b3 = a3
        · subst q3
          by_cases q4 : b4 = a4
          · subst q4
            cases a5 <;> simp [hi, hw, hjl, hf, q1', q2, hfit]
          · have q4' : ¬ a4 = b4 := fun e => q4 e.symm
            simp [hi, hw, hjl, hf, q1', q2, q4, q4', bneI q4, beqI q4']
        · have q3' : ¬ a3 = b3 := fun e => q3 e.symm
          simp [hi, hw, hjl, hf, q1', q2, q3, q3', bneI q3, beqI q3']
    · have hp : pairs v.2 a = [] := by
        unfold pairs
        apply flatMap_none
        intro b hb
        obtain ⟨m, hm, rfl⟩ := List.getElem_of_mem hb
        have : mate a v.2[m] = false := by
          cases hmj : mate a v.2[m] with
          | false => rfl
          | true =>
            unfold mate at hmj
            simp only [Bool.and_eq_true, decide_eq_true_eq, beq_iff_eq] at hmj
            exfalso
            have hz : ordK v.2[m] (a.2.1, a.1, 0, 0, false) = 0 := (ordK_lt _ _).2.2 ⟨hmj.2.2.1.symm, hmj.2.1.symm⟩
            rcases Nat.lt_trichotomy m j with h | h | h
            · have := j1 m hm h; omega
            · subst h; exact hf hz
            · have h1 := hs j m h hm
              have h3 := j2 j hjl (Nat.le_refl _)
              rw [(ordK_lt _ _).1] at h3
              apply h3
              unfold aheadB at h1 ⊢
              simp only [Bool.or_eq_true, Bool.and_eq_true, decide_eq_true_eq] at h1 ⊢
              omega
        simp [this]
      rw [hp]
      have hbf : (ordK v.2[j] (a.2.1, a.1, 0, 0, false) == 0) = false := by simpa using hf
      by_cases q1 : a.1 > a.2.1 <;> simp [hi, hw, hbf, q1]
  · have hp : pairs v.2 a = [] := by
      unfold pairs
      apply flatMap_none
      intro b hb
      obtain ⟨m, hm, rfl⟩ := List.getElem_of_mem hb
      have : mate a v.2[m] = false := by
        cases hmj : mate a v.2[m] with
        | false => rfl
        | true =>
          unfold mate at hmj
          simp only [Bool.and_eq_true, decide_eq_true_eq, beq_iff_eq] at hmj
          exfalso
          have hz : ordK v.2[m] (a.2.1, a.1, 0, 0, false) = 0 := (ordK_lt _ _).2.2 ⟨hmj.2.2.1.symm, hmj.2.1.symm⟩
          have := j1 m hm (by omega)
          omega
      simp [this]
    rw [hp]
    by_cases q1 : a.1 > a.2.1 <;> simp [hi, hw, hjl, q1]

theorem inner_len {l : List K} (hs : Sorted l) : (inner l).length ≤ l.length := by
  have := flatMap_length_le (pairs l) 1 l (fun a _ => pairs_len hs a)
  unfold inner; omega

open Classical in
theorem inner_r (v : Vw) (h1 : v.1.length ≤ 70) (h2 : v.2.length ≤ 200) : view_Inner_r v = (true, (if mayP v then 0 else 1), (if mayP v then inner v.2 else [])) := by
  unfold view_Inner_r
  simp only [check_r v h1 h2]
  by_cases hm : mayP v
  · have hs := sorted_of v hm.2
    have hne : ∀ i (hi : i < v.2.length), ¬ v.2[i].2.1 = v.2[i].1 := fun i hi => by
      have := (hm.2 i hi).1
      rw [getD_at kd hi] at this
      exact this.2.2.1
    have key := loop_acc (d := HL.dflt [.bool, (.fl (.row (.prod (.int .i64) (.prod (.int .i64) (.prod (.int .i64) (.prod (.int .i64) .bool))))))]) (step := view_Inner_l0 v) v.2 (pairs v.2) 1000 (fun acc => (true, acc, ())) (fun i hi acc hN => inner0 v h2 hs hne i hi acc hN) (fun acc _ => by
      unfold view_Inner_l0 REnd; simp) [] (by have := inner_len hs; unfold inner at this; rw [List.length_nil]; omega)
    rw [show loopD 0 [.int .i64, (.fl (.row (.prod (.int .i64) (.prod (.int .i64) (.prod (.int .i64) (.prod (.int .i64) .bool))))))] [.bool, (.fl (.row (.prod (.int .i64) (.prod (.int .i64) (.prod (.int .i64) (.prod (.int .i64) .bool))))))] (view_Inner_l0 v) ((0 : Int), ([] : List (Int × (Int × (Int × (Int × Bool))))), ()) = (true, true, inner v.2, ()) from key]
    simp [hm]
  · simp [hm]

end Go.Proofs.Ytjeeofakogoboaa.T

namespace Go.Proofs.Ytjeeofakogoboaa.T
open Go.Vm Go.Tm
set_option linter.unusedVariables false
set_option linter.unusedSimpArgs false

theorem refInner1 (v : Vw) (h2 : v.2.length ≤ 200) (i : Nat) (hi : i < v.2.length) (acc0 : List K) (j : Nat) (hj : j < v.2.length) (acc : List K) (hN : acc.length + (if mate v.2[i] v.2[j] then [joined v.2[i] v.2[j]] else []).length ≤ 100000) :
    RGo (withyref09_Inner_l1 v ((i : Int), acc0, ()) ((j : Int), acc, ())) (((j + 1 : Nat) : Int), acc ++ (if mate v.2[i] v.2[j] then [joined v.2[i] v.2[j]] else []), ()) := by
  unfold withyref09_Inner_l1 RGo
  have hw := wrap_i64 (x := (j : Int) + 1) (by omega) (by omega)
  have hk : (v.2[i]?).getD ((0 : Int), ((0 : Int), ((0 : Int), ((0 : Int), false)))) = v.2[i] := getD_at kd hi
  have hk' : (v.2[j]?).getD ((0 : Int), ((0 : Int), ((0 : Int), ((0 : Int), false)))) = v.2[j] := getD_at kd hj
  simp only [Int.toNat_natCast, hk, hk']
  generalize v.2[i] = a at *
  generalize v.2[j] = b at *
  unfold mate joined at *
  obtain ⟨a1, a2, a3, a4, a5⟩ := a
  obtain ⟨b1, b2, b3, b4, b5⟩ := b
  simp only at *
  have hfit : (acc.length + 1) * 40 ≤ 140737488355328 := by
    have : acc.length ≤ 100000 := by omega
    omega
  by_cases q1 : a1 < a2
  · by_cases q2 : a1 = b2
    · subst q2
      by_cases q3 : a2 = b1
      · subst q3
        by_cases q4 : a3 = b3
        · subst q4
          by_cases q5 : a4 = b4
          · subst q5
            cases a5 <;> simp [hi, hj, hw, q1, hfit]
          · simp [hi, hj, hw, q1, q5, beqI q5]
        · simp [hi, hj, hw, q1, q4, beqI q4]
      · simp [hi, hj, hw, q1, q3, beqI q3]
    · simp [hi, hj, hw, q1, q2, beqI q2]
  · simp [hi, hj, hw, q1]

theorem refInner0 (v : Vw) (h2 : v.2.length ≤ 200) (i : Nat) (hi : i < v.2.length) (acc : List K) (hN : acc.length + (pairs v.2 v.2[i]).length ≤ 100000) :
    RGo (withyref09_Inner_l0 v ((i : Int), acc, ())) (((i + 1 : Nat) : Int), acc ++ pairs v.2 v.2[i], ()) := by
  have key := loop_acc (d := HL.dflt [.bool, (.fl (.row (.prod (.int .i64) (.prod (.int .i64) (.prod (.int .i64) (.prod (.int .i64) .bool))))))]) (step := withyref09_Inner_l1 v ((i : Int), acc, ())) v.2 (fun b => if mate v.2[i] b then [joined v.2[i] b] else []) 100000 (fun acc => (true, acc, ()))
    (fun j hj acc' hN' => refInner1 v h2 i hi acc j hj acc' hN') (fun acc' _ => by unfold withyref09_Inner_l1 REnd; simp) acc hN
  have key : loopD 1 [.int .i64, (.fl (.row (.prod (.int .i64) (.prod (.int .i64) (.prod (.int .i64) (.prod (.int .i64) .bool))))))] [.bool, (.fl (.row (.prod (.int .i64) (.prod (.int .i64) (.prod (.int .i64) (.prod (.int .i64) .bool))))))] (withyref09_Inner_l1 v ((i : Int), acc, ())) ((0 : Int), acc, ()) = (true, true, acc ++ pairs v.2 v.2[i], ()) := key
  have hw := wrap_i64 (x := (i : Int) + 1) (by omega) (by omega)
  unfold withyref09_Inner_l0 RGo
  simp only [key]
  simp [hi, hw]

theorem refInner_r (v : Vw) (h2 : v.2.length ≤ 200) : withyref09_Inner_r v = (true, inner v.2) := by
  have hlen : (inner v.2).length ≤ 40000 := by
    have h1 := flatMap_length_le (pairs v.2) 200 v.2 (fun a _ => by
      have := flatMap_length_le (fun b => if mate a b then [joined a b] else []) 1 v.2 (fun b _ => by split <;> simp)
      unfold pairs; omega)
    unfold inner; omega
  have key := loop_acc (d := HL.dflt [.bool, (.fl (.row (.prod (.int .i64) (.prod (.int .i64) (.prod (.int .i64) (.prod (.int .i64) .bool))))))]) (step := withyref09_Inner_l0 v) v.2 (pairs v.2) 100000 (fun acc => (true, acc, ())) (fun i hi acc hN => refInner0 v h2 i hi acc hN) (fun acc _ => by
      unfold withyref09_Inner_l0 REnd
      simp) [] (by unfold inner at hlen; rw [List.length_nil]; omega)
  unfold withyref09_Inner_r
  rw [show loopD 0 [.int .i64, (.fl (.row (.prod (.int .i64) (.prod (.int .i64) (.prod (.int .i64) (.prod (.int .i64) .bool))))))] [.bool, (.fl (.row (.prod (.int .i64) (.prod (.int .i64) (.prod (.int .i64) (.prod (.int .i64) .bool))))))] (withyref09_Inner_l0 v) ((0 : Int), ([] : List (Int × (Int × (Int × (Int × Bool))))), ()) = (true, true, inner v.2, ()) from key]


/-! outer links -/
def outer (v : Vw) : List K := v.2.filter fun k => !decide (k.2.1 ∈ v.1)

theorem outer1_r (v : Vw) (h1 : v.1.length ≤ 70) (k : K) : view_Outer_1_r k v = (true, decide (k.2.1 ∈ v.1)) := by
  unfold view_Outer_1_r
  simp only [contains_r v.1 _ (by omega : v.1.length ≤ 1000)]

theorem indexFunc_r (v : Vw) (h1 : v.1.length ≤ 70) (l : List K) (hl : l.length ≤ 200) : (∃ i : Nat, ∃ hi : i < l.length, l[i].2.1 ∈ v.1 ∧ (∀ j (hj : j < i), l[j].2.1 ∉ v.1) ∧ slices_IndexFunc_api_Known_r () l v = (true, (i : Int))) ∨
    ((∀ i (hi : i < l.length), l[i].2.1 ∉ v.1) ∧ slices_IndexFunc_api_Known_r () l v = (true, -1)) := by
  unfold slices_IndexFunc_api_Known_r
  rcases loop_find (d := HL.dflt [.bool, .int .i64, .bool]) (step := slices_IndexFunc_api_Known_l0 () l v) l.length (fun i => ((l[i]?).getD kd).2.1 ∈ v.1) (fun i => (true, (i : Int), false, ())) (false, (l.length : Int), true, ()) (fun i hi => by
      unfold slices_IndexFunc_api_Known_l0 REnd RGo
      have hw := wrap_i64 (x := (i : Int) + 1) (by omega) (by omega)
      simp only [outer1_r v h1]
      constructor
      · intro h; simp [hi] at h ⊢; simp [h]
      · intro h; simp [hi] at h ⊢; simp [h, hw]) (by unfold slices_IndexFunc_api_Known_l0 REnd; simp) with ⟨i, hi, k1, k2, k3⟩ | ⟨k1, k3⟩
  · left
    refine ⟨i, hi, by rw [getD_at kd hi] at k1; exact k1, fun j hj => ?_, ?_⟩
    · have := k2 j hj
      rw [getD_at kd (by omega)] at this; exact this
    · rw [show loopD 0 [.int .i64] [.bool, .int .i64, .bool] (slices_IndexFunc_api_Known_l0 () l v) ((0 : Int), ()) = (true, true, (i : Int), false, ()) from k3]
      simp
  · right
    refine ⟨fun i hi => by have := k1 i hi; rw [getD_at kd hi] at this; exact this, ?_⟩
    rw [show loopD 0 [.int .i64] [.bool, .int .i64, .bool] (slices_IndexFunc_api_Known_l0 () l v) ((0 : Int), ()) = (true, false, (l.length : Int), true, ()) from k3]
    simp

theorem delete_r (v : Vw) (h1 : v.1.length ≤ 70) (l : List K) (hl : l.length ≤ 200) : ∃ (i : Nat) (L : List K), slices_DeleteFunc_api_Known_r () l v = (true, 0, i, L) ∧ i ≤ L.length ∧ L.take i = l.filter (fun k => !decide (k.2.1 ∈ v.1)) := by
  unfold slices_DeleteFunc_api_Known_r
  rcases indexFunc_r v h1 l hl with ⟨i, hi, k1, k2, k3⟩ | ⟨k1, k3⟩
  · rw [k3]
    have hi1 : ((i : Int) == -1) = false := by simp
    have hw := wrap_i64 (x := (i : Int) + 1) (by omega) (by omega)
    obtain ⟨i', L, e1, e2, e3, e4⟩ := delete_loop (d := HL.dflt [.bool, .int .i64, (.fl (.row (.prod (.int .i64) (.prod (.int .i64) (.prod (.int .i64) (.prod (.int .i64) .bool))))))]) (step := slices_DeleteFunc_api_Known_l0 () l v) (fun k : K => !decide (k.2.1 ∈ v.1)) l i hi
      (fun j hj => by have := k2 j hj; simp [this]) (by simp [k1]) (fun i L => (true, i, L, ())) (fun j i L hj hi hlen => by
        unfold slices_DeleteFunc_api_Known_l0 RGo
        have hw1 := wrap_i64 (x := (j : Int) + 1) (by omega) (by omega)
        have hw2 := wrap_i64 (x := (i : Int) + 1) (by omega) (by omega)
        have hk : (L[j]?).getD ((0 : Int), ((0 : Int), ((0 : Int), ((0 : Int), false)))) = L[j] := getD_at kd hj
        simp only [outer1_r v h1, Int.toNat_natCast, hk]
        by_cases hq : L[j].2.1 ∈ v.1
        · simp [hj, hi, hq, hw1]
        · simp [hj, hi, hq, hw1, hw2]) (fun i L hlen hi => by
        unfold slices_DeleteFunc_api_Known_l0 REnd
        simp [hlen])
    have e1' : loopD 0 [.int .i64, .int .i64, (.fl (.row (.prod (.int .i64) (.prod (.int .i64) (.prod (.int .i64) (.prod (.int .i64) .bool))))))] [.bool, .int .i64, (.fl (.row (.prod (.int .i64) (.prod (.int .i64) (.prod (.int .i64) (.prod (.int .i64) .bool))))))] (slices_DeleteFunc_api_Known_l0 () l v) (((i : Int) + 1), (i : Int), l, ()) = (true, true, (i' : Int), L, ()) := e1
    simp only [hw, e1', hi1]
    refine ⟨i', L.take i' ++ (List.replicate (L.length - i') kd ++ L.drop (i' + (List.replicate (L.length - i') kd).length)), ?_, ?_, ?_⟩
    · have : i' ≤ L.length := by omega
      simp [this]
    · simp; omega
    · rw [List.take_append_of_le_length (by rw [List.length_take]; omega), List.take_take, Nat.min_self, e4]
  · rw [k3]
    refine ⟨l.length, l, by simp, Nat.le_refl _, ?_⟩
    rw [List.take_length, List.filter_eq_self.2]
    intro a ha
    obtain ⟨j, hj, rfl⟩ := List.getElem_of_mem ha
    simp [k1 j hj]

open Classical in
theorem outer_r (v : Vw) (h1 : v.1.length ≤ 70) (h2 : v.2.length ≤ 200) : ∃ (i : Nat) (L : List K), view_Outer_r v = (true, 0, i, (if mayP v then 0 else 1), L) ∧ i ≤ L.length ∧ L.take i = (if mayP v then outer v else []) := by
  unfold view_Outer_r
  simp only [check_r v h1 h2]
  by_cases hm : mayP v
  · obtain ⟨i, L, e1, e2, e3⟩ := delete_r v h1 v.2 h2
    have hc : slices_Clone_api_Known_r v.2 = (true, v.2) := by
      unfold slices_Clone_api_Known_r
      rw [decT (by omega)]
    refine ⟨i, L, ?_, e2, ?_⟩
    · simp only [hc, e1]; simp [hm]
    · rw [if_pos hm]; exact e3
  · exact ⟨0, [], by simp [hm], Nat.le_refl _, by simp [hm]⟩

theorem refOuter_r (v : Vw) (h1 : v.1.length ≤ 70) (h2 : v.2.length ≤ 200) : withyref09_Outer_r v = (true, outer v) := by
  have key := loop_acc (d := HL.dflt [.bool, (.fl (.row (.prod (.int .i64) (.prod (.int .i64) (.prod (.int .i64) (.prod (.int .i64) .bool))))))]) (step := withyref09_Outer_l0 v) v.2 (fun k => if k.2.1 ∈ v.1 then [] else [k]) 1000 (fun acc => (true, acc, ())) (fun i hi acc hN => by
      unfold withyref09_Outer_l0 RGo
      have hw := wrap_i64 (x := (i : Int) + 1) (by omega) (by omega)
      have hk : (v.2[i]?).getD ((0 : Int), ((0 : Int), ((0 : Int), ((0 : Int), false)))) = v.2[i] := getD_at kd hi
      simp only [in_r v.1 _ (by omega : v.1.length ≤ 1000), Int.toNat_natCast, hk]
      have hfit : (acc.length + 1) * 40 ≤ 140737488355328 := by omega
      by_cases hq : v.2[i].2.1 ∈ v.1
      · simp [hi, hw, hq]
      · simp [hi, hw, hq, hfit]) (fun acc _ => by unfold withyref09_Outer_l0 REnd; simp) [] (by
      have := flatMap_length_le (fun k : K => if k.2.1 ∈ v.1 then [] else [k]) 1 v.2 (fun k _ => by split <;> simp)
      rw [List.length_nil]; omega)
  have he : ∀ l : List K, l.flatMap (fun k : K => if k.2.1 ∈ v.1 then [] else [k]) = l.filter fun k => !decide (k.2.1 ∈ v.1) := fun l => by
    induction l with
    | nil => rfl
    | cons a l ih => rw [List.flatMap_cons, ih]; by_cases h : a.2.1 ∈ v.1 <;> simp [h]
  unfold withyref09_Outer_r
  rw [show loopD 0 [.int .i64, (.fl (.row (.prod (.int .i64) (.prod (.int .i64) (.prod (.int .i64) (.prod (.int .i64) .bool))))))] [.bool, (.fl (.row (.prod (.int .i64) (.prod (.int .i64) (.prod (.int .i64) (.prod (.int .i64) .bool))))))] (withyref09_Outer_l0 v) ((0 : Int), ([] : List (Int × (Int × (Int × (Int × Bool))))), ()) = (true, true, outer v, ()) from key.trans (by rw [he]; rfl)]

/-! what is bound -/
abbrev E := Int × Int × Int
def edgeK (k : K) : E := (if k.2.1 < k.1 then k.2.1 else k.1, if k.1 < k.2.1 then k.2.1 else k.1, k.2.2.1)
def bound (l : List K) : List E := l.flatMap fun k => if k.2.2.2.2 then [edgeK k] else []

theorem edge_r (k : K) : view_Edge_r k = (true, edgeK k) := rfl
theorem refEdge_r (k : K) : withyref09_Edge_r k = (true, edgeK k) := by
  unfold withyref09_Edge_r edgeK
  by_cases h : k.2.1 < k.1
  · have : ¬ k.1 < k.2.1 := by omega
    simp [h, this]
  · by_cases h2 : k.1 < k.2.1
    · simp [h, h2]
    · have : k.1 = k.2.1 := by omega
      simp [h, h2, this]

open Classical in
theorem bound_r (v : Vw) (h1 : v.1.length ≤ 70) (h2 : v.2.length ≤ 200) : view_Bound_r v = (true, (if mayP v then 0 else 1), bound (if mayP v then inner v.2 else [])) := by
  have hlen : (if mayP v then inner v.2 else []).length ≤ 200 := by
    split
    · rename_i hm
      have := inner_len (sorted_of v hm.2); omega
    · simp
  have hir := inner_r v h1 h2
  generalize hl : (if mayP v then inner v.2 else []) = l at *
  have key := loop_acc (d := HL.dflt [.bool, (.fl (.row (.prod (.int .i64) (.prod (.int .i64) (.int .i64)))))]) (step := view_Bound_l0 v) l (fun k => if k.2.2.2.2 then [edgeK k] else []) 1000 (fun acc => (true, acc, ())) (fun i hi acc hN => by
      unfold view_Bound_l0 RGo
      have hw := wrap_i64 (x := (i : Int) + 1) (by omega) (by omega)
      have hk : (l[i]?).getD ((0 : Int), ((0 : Int), ((0 : Int), ((0 : Int), false)))) = l[i] := getD_at kd hi
      simp only [hir, edge_r, Int.toNat_natCast, hk]
      have hfit : (acc.length + 1) * 24 ≤ 140737488355328 := by omega
      cases hq : l[i].2.2.2.2
      · simp [hi, hw]
      · simp [hi, hw, hfit]) (fun acc _ => by unfold view_Bound_l0 REnd; simp [hir]) [] (by
      have := flatMap_length_le (fun k : K => if k.2.2.2.2 then [edgeK k] else []) 1 l (fun k _ => by split <;> simp)
      rw [List.length_nil]; omega)
  unfold view_Bound_r
  rw [show loopD 0 [.int .i64, (.fl (.row (.prod (.int .i64) (.prod (.int .i64) (.int .i64)))))] [.bool, (.fl (.row (.prod (.int .i64) (.prod (.int .i64) (.int .i64)))))] (view_Bound_l0 v) ((0 : Int), ([] : List (Int × (Int × Int))), ()) = (true, true, bound l, ()) from key]
  simp only [hir]
  rfl

theorem refBound_r (v : Vw) (h2 : v.2.length ≤ 200) : withyref09_Bound_r v = (true, bound (inner v.2)) := by
  have hlen : (inner v.2).length ≤ 40000 := by
    have h1 := flatMap_length_le (pairs v.2) 200 v.2 (fun a _ => by
      have := flatMap_length_le (fun b => if mate a b then [joined a b] else []) 1 v.2 (fun b _ => by split <;> simp)
      unfold pairs; omega)
    unfold inner; omega
  have hir := refInner_r v h2
  generalize inner v.2 = l at *
  have key := loop_acc (d := HL.dflt [.bool, (.fl (.row (.prod (.int .i64) (.prod (.int .i64) (.int .i64)))))]) (step := withyref09_Bound_l0 v) l (fun k => if k.2.2.2.2 then [edgeK k] else []) 100000 (fun acc => (true, acc, ())) (fun i hi acc hN => by
      unfold withyref09_Bound_l0 RGo
      have hw := wrap_i64 (x := (i : Int) + 1) (by omega) (by omega)
      have hk : (l[i]?).getD ((0 : Int), ((0 : Int), ((0 : Int), ((0 : Int), false)))) = l[i] := getD_at kd hi
      simp only [hir, refEdge_r, Int.toNat_natCast, hk]
      have hfit : (acc.length + 1) * 24 ≤ 140737488355328 := by omega
      cases hq : l[i].2.2.2.2
      · simp [hi, hw]
      · simp [hi, hw, hfit]) (fun acc _ => by unfold withyref09_Bound_l0 REnd; simp [hir]) [] (by
      have := flatMap_length_le (fun k : K => if k.2.2.2.2 then [edgeK k] else []) 1 l (fun k _ => by split <;> simp)
      rw [List.length_nil]; omega)
  unfold withyref09_Bound_r
  rw [show loopD 0 [.int .i64, (.fl (.row (.prod (.int .i64) (.prod (.int .i64) (.int .i64)))))] [.bool, (.fl (.row (.prod (.int .i64) (.prod (.int .i64) (.int .i64)))))] (withyref09_Bound_l0 v) ((0 : Int), ([] : List (Int × (Int × Int))), ()) = (true, true, bound l, ()) from key]
  simp only [hir]
  rfl

end Go.Proofs.Ytjeeofakogoboaa.T

namespace Go.Proofs.Ytjeeofakogoboaa.T
open Go.Vm Go.Tm
set_option linter.unusedVariables false
set_option linter.unusedSimpArgs false

theorem links_refl (l : List K) (hl : l.length ≤ 1000000) : withyref09_Links_r l l = (true, true) := by
  rcases loop_find (d := HL.dflt [.bool, .bool, .bool]) (step := withyref09_Links_l0 l l) l.length (fun i => False) (fun i => (true, false, false, ())) (false, false, true, ()) (fun i hi => by
      unfold withyref09_Links_l0 RGo
      have hw := wrap_i64 (x := (i : Int) + 1) (by omega) (by omega)
      exact ⟨fun h => h.elim, fun _ => by simp [hi, hw]⟩) (by unfold withyref09_Links_l0 REnd; simp) with ⟨i, hi, k1, _⟩ | ⟨_, k3⟩
  · exact k1.elim
  · unfold withyref09_Links_r
    rw [show loopD 0 [.int .i64] [.bool, .bool, .bool] (withyref09_Links_l0 l l) ((0 : Int), ()) = (true, false, false, true, ()) from k3]
    simp

theorem same_refl (l : List E) (hl : l.length ≤ 1000000) : withyref05_Same_r l l = (true, true) := by
  rcases loop_find (d := HL.dflt [.bool, .bool, .bool]) (step := withyref05_Same_l0 l l) l.length (fun i => False) (fun i => (true, false, false, ())) (false, false, true, ()) (fun i hi => by
      unfold withyref05_Same_l0 RGo
      have hw := wrap_i64 (x := (i : Int) + 1) (by omega) (by omega)
      exact ⟨fun h => h.elim, fun _ => by simp [hi, hw]⟩) (by unfold withyref05_Same_l0 REnd; simp) with ⟨i, hi, k1, _⟩ | ⟨_, k3⟩
  · exact k1.elim
  · unfold withyref05_Same_r
    rw [show loopD 0 [.int .i64] [.bool, .bool, .bool] (withyref05_Same_l0 l l) ((0 : Int), ()) = (true, false, false, true, ()) from k3]
    simp

theorem light_r (v : Vw) : withylaw09_light_r v = (true, decide (v.1.length ≤ 70 ∧ v.2.length ≤ 200)) := by
  unfold withylaw09_light_r
  by_cases h1 : v.1.length ≤ 70 <;> by_cases h2 : v.2.length ≤ 200
  · have : (v.1.length : Int) ≤ 70 := by omega
    have : (v.2.length : Int) ≤ 200 := by omega
    simp [*]
  · have : (v.1.length : Int) ≤ 70 := by omega
    have : ¬ (v.2.length : Int) ≤ 200 := by omega
    simp [*]
  · have : ¬ (v.1.length : Int) ≤ 70 := by omega
    simp [*]
  · have : ¬ (v.1.length : Int) ≤ 70 := by omega
    simp [*]

def av : Vw := ([1, 2], [(1, 2, 0, 5, false), (2, 1, 0, 5, false), (2, 3, 0, 1, false)])

theorem av_may : mayP av := by
  refine ⟨fun i hi => ?_, fun i hi => ?_⟩
  · have : i = 0 ∨ i = 1 := by simp [av] at hi; omega
    rcases this with rfl | rfl <;> simp [nodeOk, av, nodeB]
  · have : i = 0 ∨ i = 1 ∨ i = 2 := by simp [av] at hi; omega
    rcases this with rfl | rfl | rfl <;> simp [linkOk, plainOk, av, nodeB, aheadB]

theorem awake_r : withylaw09_awake_r = (true, true) := by
  have h1 := inner_r av (by simp [av]) (by simp [av])
  obtain ⟨i, L, e1, e2, e3⟩ := outer_r av (by simp [av]) (by simp [av])
  rw [if_pos av_may] at e1 e3
  rw [if_pos av_may, if_pos av_may] at h1
  have hin : inner av.2 = [(1, 2, 0, 5, false)] := by decide
  have hout : outer av = [(2, 3, 0, 1, false)] := by decide
  rw [hin] at h1
  rw [hout] at e3
  have hi1 : i = 1 := by
    have := congrArg List.length e3
    rw [List.length_take] at this
    simp at this; omega
  subst hi1
  cases L with
  | nil => cases e3
  | cons a L =>
    have ha : a = (2, 3, 0, 1, false) := by simpa using e3
    subst ha
    unfold withylaw09_awake_r
    have h1' : view_Inner_r ([1, 2], [(1, 2, 0, 5, false), (2, 1, 0, 5, false), (2, 3, 0, 1, false)]) = (true, 0, [(1, 2, 0, 5, false)]) := h1
    have e1' : view_Outer_r ([1, 2], [(1, 2, 0, 5, false), (2, 1, 0, 5, false), (2, 3, 0, 1, false)]) = (true, 0, 1, 0, (2, 3, 0, 1, false) :: L) := e1
    simp [h1', e1']

theorem viewLinks_true (v : Vw) : withylaw09_ViewLinks_r v = (true, true) := by
  unfold withylaw09_ViewLinks_r
  simp only [light_r, awake_r]
  by_cases hl : v.1.length ≤ 70 ∧ v.2.length ≤ 200
  · obtain ⟨h1, h2⟩ := hl
    obtain ⟨i, L, e1, e2, e3⟩ := outer_r v h1 h2
    have hloop : loopD 0 [.int .i64] [.bool, .bool, .bool] (withylaw09_ViewLinks_l0 v) ((0 : Int), ()) = (true, false, false, true, ()) := by
      rcases loop_find (d := HL.dflt [.bool, .bool, .bool]) (step := withylaw09_ViewLinks_l0 v) v.2.length (fun i => False) (fun i => (true, false, false, ())) (false, false, true, ()) (fun i hi => by
          unfold withylaw09_ViewLinks_l0 RGo
          have hw := wrap_i64 (x := (i : Int) + 1) (by omega) (by omega)
          simp only [edge_r, refEdge_r]
          exact ⟨fun h => h.elim, fun _ => by simp [hi, hw]⟩) (by unfold withylaw09_ViewLinks_l0 REnd; simp) with ⟨i, hi, k1, _⟩ | ⟨_, k3⟩
      · exact k1.elim
      · exact k3
    simp only [inner_r v h1 h2, e1, bound_r v h1 h2, May_r v h1 h2, refInner_r v h2, refOuter_r v h1 h2, refBound_r v h2, hloop]
    by_cases hm : mayP v
    · have hs := sorted_of v hm.2
      have hil := inner_len hs
      have hol : (outer v).length ≤ 200 := by
        have := List.length_filter_le (fun k : K => !decide (k.2.1 ∈ v.1)) v.2
        unfold outer; omega
      have hbl : (bound (inner v.2)).length ≤ 200 := by
        have := flatMap_length_le (fun k : K => if k.2.2.2.2 then [edgeK k] else []) 1 (inner v.2) (fun k _ => by split <;> simp)
        unfold bound; omega
      rw [if_pos hm] at e3
      simp only [hm, if_true, decide_true, List.drop_zero, e3, links_refl (inner v.2) (by omega), links_refl (outer v) (by omega), same_refl (bound (inner v.2)) (by omega)]
      simp [h1, h2]
    · rw [if_neg hm] at e3
      have hi0 : i = 0 := by
        have := congrArg List.length e3
        rw [List.length_take] at this
        simp at this
        rcases this with h | h
        · exact h
        · subst h; simpa using e2
      subst hi0
      simp [hm, h1, h2, bound]
  · simp [hl]

end Go.Proofs.Ytjeeofakogoboaa.T
