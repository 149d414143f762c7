/- Views: the law of both ends, in plain Lean. -/
import Derived.Test.YtjeeofakogoboaaTViewP
namespace Go.Proofs.Ytjeeofakogoboaa.T
open Go.Vm Go.Tm
set_option linter.unusedVariables false
set_option linter.unusedSimpArgs false

/-- How often something is true in a list. -/
def cnt {α : Type} (p : α → Bool) : List α → Nat
  | [] => 0
  | a :: l => (if p a then 1 else 0) + cnt p l

theorem cnt_le {α : Type} (p q r : α → Bool) (h : ∀ a, (p a && q a) = false ∧ (p a && r a) = false ∧ (q a && r a) = false) : ∀ l : List α, cnt p l + cnt q l + cnt r l ≤ l.length
  | [] => Nat.le_refl _
  | a :: l => by
    have := cnt_le p q r h l
    obtain ⟨h1, h2, h3⟩ := h a
    simp only [cnt, List.length_cons]
    cases hp : p a <;> cases hq : q a <;> cases hr : r a <;> simp [hp, hq, hr] at h1 h2 h3 ⊢ <;> omega

theorem cnt_zero {α : Type} (p : α → Bool) : ∀ l : List α, (∀ a ∈ l, p a = false) → cnt p l = 0
  | [], _ => rfl
  | a :: l, h => by simp only [cnt, h a (.head _), cnt_zero p l (fun b hb => h b (.tail _ hb))]; simp

theorem cnt_one {α : Type} (p : α → Bool) (l : List α) (i : Nat) (hi : i < l.length) (hp : p l[i] = true) (h : ∀ j (hj : j < l.length), j ≠ i → p l[j] = false) : cnt p l = 1 := by
  induction l generalizing i with
  | nil => simp at hi
  | cons a l ih =>
    cases i with
    | zero =>
      have : cnt p l = 0 := cnt_zero p l (fun b hb => by
        obtain ⟨j, hj, rfl⟩ := List.getElem_of_mem hb
        exact h (j + 1) (by simpa using hj) (by omega))
      simp only [List.getElem_cons_zero] at hp
      simp [cnt, this, hp]
    | succ i =>
      have h0 : p a = false := h 0 (by simp) (by omega)
      simp only [List.getElem_cons_succ] at hp
      have := ih i (by simpa using hi) hp (fun j hj hne => h (j + 1) (by simpa using hj) (by omega))
      simp [cnt, h0, this]

/-- Both ways to count pairs. -/
theorem cnt_swap {α β : Type} (p : α → β → Bool) : ∀ (l : List α) (m : List β), (l.map fun a => cnt (p a) m).sum = (m.map fun b => cnt (fun a => p a b) l).sum
  | [], m => by
    have : ∀ m : List β, (m.map fun b => cnt (fun a : α => p a b) []).sum = 0 := fun m => by
      induction m with
      | nil => rfl
      | cons b m ih =>
        rw [List.map_cons, List.sum_cons, ih]
        rfl
    rw [this]; rfl
  | a :: l, m => by
    rw [List.map_cons, List.sum_cons, cnt_swap p l m]
    induction m with
    | nil => rfl
    | cons b m ih =>
      simp only [List.map_cons, List.sum_cons, cnt] at ih ⊢
      omega

theorem sum_cnt {α : Type} (f : α → Nat) (p : α → Bool) : ∀ l : List α, (∀ a ∈ l, f a = if p a then 1 else 0) → (l.map f).sum = cnt p l
  | [], _ => rfl
  | a :: l, h => by
    rw [List.map_cons, List.sum_cons, sum_cnt f p l (fun b hb => h b (.tail _ hb)), h a (.head _)]
    rfl

theorem pairs_cnt (l : List K) (a : K) : (pairs l a).length = cnt (mate a) l := by
  unfold pairs
  induction l with
  | nil => rfl
  | cons b m ih =>
    rw [List.flatMap_cons, List.length_append, ih]
    show _ = (if mate a b then 1 else 0) + cnt (mate a) m
    split <;> simp

theorem inner_cnt (l : List K) : (inner l).length = (l.map fun a => cnt (mate a) l).sum := by
  have : ∀ m : List K, (m.flatMap (pairs l)).length = (m.map fun a => cnt (mate a) l).sum := fun m => by
    induction m with
    | nil => rfl
    | cons a m ih => rw [List.flatMap_cons, List.length_append, ih, pairs_cnt, List.map_cons, List.sum_cons]
  exact this l

theorem filter_cnt {α : Type} (p : α → Bool) : ∀ l : List α, (l.filter p).length = cnt p l
  | [] => rfl
  | a :: l => by
    unfold cnt
    cases h : p a <;> simp [h, filter_cnt p l]; omega

theorem mate_cnt {l : List K} (hs : Sorted l) (a : K) : cnt (mate a) l = if l.any (mate a) then 1 else 0 := by
  by_cases h : ∃ i, ∃ hi : i < l.length, mate a l[i] = true
  · obtain ⟨i, hi, hm⟩ := h
    rw [cnt_one (mate a) l i hi hm (fun j hj hne => by
      cases hmj : mate a l[j] with
      | false => rfl
      | true =>
        unfold mate at hm hmj
        simp only [Bool.and_eq_true, decide_eq_true_eq, beq_iff_eq] at hm hmj
        exact absurd (sorted_key hs hj hi (by omega) (by omega)) hne)]
    rw [if_pos (List.any_eq_true.2 ⟨_, List.getElem_mem hi, hm⟩)]
  · have hn : ∀ b ∈ l, mate a b = false := fun b hb => by
      obtain ⟨i, hi, rfl⟩ := List.getElem_of_mem hb
      cases hm : mate a l[i] with
      | false => rfl
      | true => exact absurd ⟨i, hi, hm⟩ h
    rw [cnt_zero _ _ hn, if_neg]
    intro hh
    obtain ⟨b, hb, hm⟩ := List.any_eq_true.1 hh
    rw [hn b hb] at hm; cases hm

theorem mate_cnt' {l : List K} (hs : Sorted l) (b : K) : cnt (fun a => mate a b) l = if l.any (fun a => mate a b) then 1 else 0 := by
  by_cases h : ∃ i, ∃ hi : i < l.length, mate l[i] b = true
  · obtain ⟨i, hi, hm⟩ := h
    rw [cnt_one (fun a => mate a b) l i hi hm (fun j hj hne => by
      cases hmj : mate l[j] b with
      | false => rfl
      | true =>
        unfold mate at hm hmj
        simp only [Bool.and_eq_true, decide_eq_true_eq, beq_iff_eq] at hm hmj
        exact absurd (sorted_key hs hj hi (by omega) (by omega)) hne)]
    rw [if_pos (List.any_eq_true.2 ⟨_, List.getElem_mem hi, hm⟩)]
  · have hn : ∀ a ∈ l, mate a b = false := fun a ha => by
      obtain ⟨i, hi, rfl⟩ := List.getElem_of_mem ha
      cases hm : mate l[i] b with
      | false => rfl
      | true => exact absurd ⟨i, hi, hm⟩ h
    rw [cnt_zero _ _ hn, if_neg]
    intro hh
    obtain ⟨a, ha, hm⟩ := List.any_eq_true.1 hh
    rw [hn a ha] at hm; cases hm

/-- Inner links are two links of the view each, outer ones other links. -/
theorem count_links (v : Vw) (hm : mayP v) : 2 * (inner v.2).length + (outer v).length ≤ v.2.length := by
  have hs := sorted_of v hm.2
  have hmem : ∀ k ∈ v.2, k.1 ∈ v.1 := fun k hk => by
    obtain ⟨i, hi, rfl⟩ := List.getElem_of_mem hk
    have := (hm.2 i hi).1
    rw [getD_at kd hi] at this
    exact this.1
  have h1 : (inner v.2).length = cnt (fun a => v.2.any (mate a)) v.2 := by
    rw [inner_cnt]
    exact sum_cnt _ _ _ (fun a _ => mate_cnt hs a)
  have h2 : (inner v.2).length = cnt (fun b => v.2.any (fun a => mate a b)) v.2 := by
    rw [inner_cnt, cnt_swap]
    exact sum_cnt _ _ _ (fun b _ => mate_cnt' hs b)
  have h3 : (outer v).length = cnt (fun k => !decide (k.2.1 ∈ v.1)) v.2 := filter_cnt _ _
  have := cnt_le (fun a => v.2.any (mate a)) (fun b => v.2.any (fun a => mate a b)) (fun k => !decide (k.2.1 ∈ v.1)) (fun k => by
    refine ⟨?_, ?_, ?_⟩
    · cases ha : v.2.any (mate k) <;> cases hb : v.2.any (fun a => mate a k) <;> simp
      obtain ⟨b, _, hb1⟩ := List.any_eq_true.1 ha
      obtain ⟨a, _, ha1⟩ := List.any_eq_true.1 hb
      unfold mate at hb1 ha1
      simp only [Bool.and_eq_true, decide_eq_true_eq, beq_iff_eq] at hb1 ha1
      omega
    · cases ha : v.2.any (mate k) <;> simp
      obtain ⟨b, hb, hb1⟩ := List.any_eq_true.1 ha
      unfold mate at hb1
      simp only [Bool.and_eq_true, decide_eq_true_eq, beq_iff_eq] at hb1
      have := hmem b hb
      rw [hb1.2.2.1]; exact this
    · cases ha : v.2.any (fun a => mate a k) <;> simp
      obtain ⟨b, hb, hb1⟩ := List.any_eq_true.1 ha
      unfold mate at hb1
      simp only [Bool.and_eq_true, decide_eq_true_eq, beq_iff_eq] at hb1
      have := hmem b hb
      rw [← hb1.2.1]; exact this) v.2
  omega

theorem mem_inner {l : List K} {k : K} (h : k ∈ inner l) : ∃ a ∈ l, ∃ b ∈ l, mate a b = true ∧ k = joined a b := by
  unfold inner at h
  obtain ⟨a, ha, h⟩ := List.mem_flatMap.1 h
  unfold pairs at h
  obtain ⟨b, hb, h⟩ := List.mem_flatMap.1 h
  split at h
  · rename_i hm
    exact ⟨a, ha, b, hb, hm, by simpa using h⟩
  · cases h

/-- An inner link's edge and session are those of two links. -/
theorem two_ends {v : Vw} (hm : mayP v) {k : K} (hk : k ∈ inner v.2) : cnt (fun x : K => (decide (edgeK x = edgeK k)) && (x.2.2.2.1 == k.2.2.2.1)) v.2 = 2 ∧ k.1 < k.2.1 := by
  have hs := sorted_of v hm.2
  obtain ⟨a, ha, b, hb, hmt, rfl⟩ := mem_inner hk
  unfold mate at hmt
  simp only [Bool.and_eq_true, decide_eq_true_eq, beq_iff_eq] at hmt
  obtain ⟨m1, m2, m3, m4, m5⟩ := hmt
  refine ⟨?_, by unfold joined; exact m1⟩
  have hj : edgeK (joined a b) = (a.1, a.2.1, a.2.2.1) := by
    have e1 : ¬ a.2.1 < a.1 := by omega
    show (if a.2.1 < a.1 then a.2.1 else a.1, if a.1 < a.2.1 then a.2.1 else a.1, a.2.2.1) = _
    rw [if_neg e1, if_pos m1]
  have hj2 : (joined a b).2.2.2.1 = a.2.2.2.1 := rfl
  rw [hj, hj2]
  have hx : ∀ x : K, ¬ x.2.1 = x.1 → edgeK x = if x.1 < x.2.1 then (x.1, x.2.1, x.2.2.1) else (x.2.1, x.1, x.2.2.1) := fun x hne => by
    unfold edgeK
    rcases Int.lt_trichotomy x.1 x.2.1 with h | h | h
    · have h' : ¬ x.2.1 < x.1 := by omega
      rw [if_neg h', if_pos h, if_pos h]
    · exact absurd h.symm hne
    · have h' : ¬ x.1 < x.2.1 := by omega
      rw [if_pos h, if_neg h', if_neg h']
  have hsplit : ∀ l : List K, (∀ x ∈ l, ¬ x.2.1 = x.1) → cnt (fun x : K => (decide (edgeK x = (a.1, a.2.1, a.2.2.1))) && (x.2.2.2.1 == a.2.2.2.1)) l
      = cnt (fun x : K => decide (x.1 = a.1 ∧ x.2.1 = a.2.1 ∧ x.2.2.1 = a.2.2.1 ∧ x.2.2.2.1 = a.2.2.2.1)) l + cnt (fun x : K => decide (x.1 = b.1 ∧ x.2.1 = b.2.1 ∧ x.2.2.1 = b.2.2.1 ∧ x.2.2.2.1 = b.2.2.2.1)) l := by
    intro l
    induction l with
    | nil => intro _; rfl
    | cons x l ih =>
      intro hne
      have hx0 := hne x (.head _)
      have : (if (decide (edgeK x = (a.1, a.2.1, a.2.2.1)) && (x.2.2.2.1 == a.2.2.2.1)) = true then 1 else 0) = (if decide (x.1 = a.1 ∧ x.2.1 = a.2.1 ∧ x.2.2.1 = a.2.2.1 ∧ x.2.2.2.1 = a.2.2.2.1) = true then 1 else 0) + (if decide (x.1 = b.1 ∧ x.2.1 = b.2.1 ∧ x.2.2.1 = b.2.2.1 ∧ x.2.2.2.1 = b.2.2.2.1) = true then 1 else 0) := by
        rw [hx x hx0]
        simp only [Bool.and_eq_true, decide_eq_true_eq, beq_iff_eq]
        by_cases h : x.1 < x.2.1
        · have n1 : ¬ (x.1 = b.1 ∧ x.2.1 = b.2.1 ∧ x.2.2.1 = b.2.2.1 ∧ x.2.2.2.1 = b.2.2.2.1) := by omega
          rw [if_pos h, if_neg n1]
          simp only [Prod.mk.injEq, and_assoc, Nat.add_zero]
        · have n1 : ¬ (x.1 = a.1 ∧ x.2.1 = a.2.1 ∧ x.2.2.1 = a.2.2.1 ∧ x.2.2.2.1 = a.2.2.2.1) := by omega
          rw [if_neg h, if_neg n1]
          simp only [Prod.mk.injEq, Nat.zero_add]
          have : ((x.2.1 = a.1 ∧ x.1 = a.2.1 ∧ x.2.2.1 = a.2.2.1) ∧ x.2.2.2.1 = a.2.2.2.1) ↔ (x.1 = b.1 ∧ x.2.1 = b.2.1 ∧ x.2.2.1 = b.2.2.1 ∧ x.2.2.2.1 = b.2.2.2.1) := by omega
          simp only [this]
      have ih' := ih (fun y hy => hne y (.tail _ hy))
      simp only [cnt]
      omega
  rw [hsplit v.2 (fun x hx => by
    obtain ⟨i, hi, rfl⟩ := List.getElem_of_mem hx
    have := (hm.2 i hi).1
    rw [getD_at kd hi] at this
    exact this.2.2.1)]
  have hone : ∀ c ∈ v.2, cnt (fun x : K => decide (x.1 = c.1 ∧ x.2.1 = c.2.1 ∧ x.2.2.1 = c.2.2.1 ∧ x.2.2.2.1 = c.2.2.2.1)) v.2 = 1 := fun c hc => by
    obtain ⟨i, hi, rfl⟩ := List.getElem_of_mem hc
    exact cnt_one _ v.2 i hi (by simp) (fun j hj hne => by
      refine decide_eq_false fun hh => hne (sorted_key hs hj hi hh.1 hh.2.1))
  rw [hone a ha, hone b hb]

end Go.Proofs.Ytjeeofakogoboaa.T

namespace Go.Proofs.Ytjeeofakogoboaa.T
open Go.Vm Go.Tm
set_option linter.unusedVariables false
set_option linter.unusedSimpArgs false

theorem loop_cnt {α ρ : Type} {d : ρ} {step : Int × Int × Unit → Bool × Bool × (Int × Int × Unit) × ρ} (l : List α) (p : α → Bool) (R : Int → ρ)
    (hgo : ∀ (i : Nat) (hi : i < l.length) (m : Nat), m ≤ i → RGo (step ((i : Int), (m : Int), ())) (((i + 1 : Nat) : Int), ((m + (if p l[i] then 1 else 0) : Nat) : Int), ()))
    (hend : ∀ m : Nat, REnd (step ((l.length : Int), (m : Int), ())) (R m)) : loopR d step ((0 : Int), (0 : Int), ()) = (true, R (cnt p l)) := by
  have key : ∀ (k i m : Nat), i + k = l.length → m ≤ i → loopR d step ((i : Int), (m : Int), ()) = (true, R ((m + cnt p (l.drop i) : Nat) : Int)) := by
    intro k
    induction k with
    | zero =>
      intro i m hi hm
      have : i = l.length := by omega
      subst this
      rw [List.drop_length]
      exact (hend m).end
    | succ k ih =>
      intro i m hi hm
      have hlt : i < l.length := by omega
      rw [(hgo i hlt m hm).go, ih (i + 1) _ (by omega) (by split <;> omega), List.drop_eq_getElem_cons hlt]
      simp only [cnt, Nat.add_assoc]
  have := key l.length 0 0 (by omega) (by omega)
  simpa using this

theorem tells1 (v : Vw) (h1 : v.1.length ≤ 70) (h2 : v.2.length ≤ 200) (hm : mayP v) (i : Nat) (hi : i < (inner v.2).length) :
    loopD 1 [.int .i64, .int .i64] [.bool, .int .i64] (withylaw09_ViewTells_l1 v ((i : Int), ())) ((0 : Int), (0 : Int), ()) = (true, true, (2 : Int), ()) := by
  have hk := two_ends hm (List.getElem_mem hi)
  have hir : view_Inner_r v = (true, 0, inner v.2) := by rw [inner_r v h1 h2, if_pos hm, if_pos hm]
  have key := loop_cnt (d := HL.dflt [.bool, .int .i64]) (step := withylaw09_ViewTells_l1 v ((i : Int), ())) v.2 (fun x : K => (decide (edgeK x = edgeK (inner v.2)[i])) && (x.2.2.2.1 == (inner v.2)[i].2.2.2.1)) (fun m => (true, m, ())) (fun j hj m hmj => by
      unfold withylaw09_ViewTells_l1 RGo
      have hw := wrap_i64 (x := (j : Int) + 1) (by omega) (by omega)
      have hw2 := wrap_i64 (x := (m : Int) + 1) (by omega) (by omega)
      have hg : (v.2[j]?).getD ((0 : Int), ((0 : Int), ((0 : Int), ((0 : Int), false)))) = v.2[j] := getD_at kd hj
      have hg2 : ((inner v.2)[i]?).getD ((0 : Int), ((0 : Int), ((0 : Int), ((0 : Int), false)))) = (inner v.2)[i] := getD_at kd hi
      simp only [hir, refEdge_r, Int.toNat_natCast, hg, hg2]
      have he : ((edgeK v.2[j]).1 == (edgeK (inner v.2)[i]).1 && ((edgeK v.2[j]).2.1 == (edgeK (inner v.2)[i]).2.1 && (edgeK v.2[j]).2.2 == (edgeK (inner v.2)[i]).2.2)) = decide (edgeK v.2[j] = edgeK (inner v.2)[i]) := by
        generalize edgeK v.2[j] = x
        generalize edgeK (inner v.2)[i] = y
        obtain ⟨x1, x2, x3⟩ := x
        obtain ⟨y1, y2, y3⟩ := y
        rw [Bool.eq_iff_iff]
        simp
      simp only [he]
      by_cases q1 : edgeK v.2[j] = edgeK (inner v.2)[i]
      · rw [decT q1]
        by_cases q2 : v.2[j].2.2.2.1 = (inner v.2)[i].2.2.2.1
        · simp [hi, hj, hw, hw2, q2]
        · simp [hi, hj, hw, hw2, q2, beqI q2]
      · rw [decF q1]
        simp [hi, hj, hw, hw2]) (fun m => by unfold withylaw09_ViewTells_l1 REnd; simp [hir])
  rw [hk.1] at key
  exact key

theorem viewTells_true (v : Vw) : withylaw09_ViewTells_r v = (true, true) := by
  unfold withylaw09_ViewTells_r
  simp only [light_r, awake_r]
  by_cases hl : v.1.length ≤ 70 ∧ v.2.length ≤ 200
  · obtain ⟨h1, h2⟩ := hl
    simp only [May_r v h1 h2]
    by_cases hm : mayP v
    · obtain ⟨i, L, e1, e2, e3⟩ := outer_r v h1 h2
      rw [if_pos hm] at e1 e3
      have hir : view_Inner_r v = (true, 0, inner v.2) := by rw [inner_r v h1 h2, if_pos hm, if_pos hm]
      have hbr : view_Bound_r v = (true, 0, bound (inner v.2)) := by rw [bound_r v h1 h2, if_pos hm, if_pos hm]
      have hloop : loopD 0 [.int .i64] [.bool, .bool, .bool] (withylaw09_ViewTells_l0 v) ((0 : Int), ()) = (true, false, false, true, ()) := by
        rcases loop_find (d := HL.dflt [.bool, .bool, .bool]) (step := withylaw09_ViewTells_l0 v) (inner v.2).length (fun i => False) (fun i => (true, false, false, ())) (false, false, true, ()) (fun i hi => by
            have hs := inner_len (sorted_of v hm.2)
            have t1 := tells1 v h1 h2 hm i hi
            have hk := (two_ends hm (List.getElem_mem hi)).2
            have hk' : ¬ (inner v.2)[i].2.1 ≤ (inner v.2)[i].1 := by omega
            have hg2 : ((inner v.2)[i]?).getD ((0 : Int), ((0 : Int), ((0 : Int), ((0 : Int), false)))) = (inner v.2)[i] := getD_at kd hi
            have hw := wrap_i64 (x := (i : Int) + 1) (by omega) (by omega)
            unfold withylaw09_ViewTells_l0 RGo
            simp only [hir, t1, Int.toNat_natCast, hg2]
            exact ⟨fun h => h.elim, fun _ => by simp [hi, hw, hk, hk']⟩) (by
            unfold withylaw09_ViewTells_l0 REnd
            have hend : ∀ x : BoolD × HL [.bool, .int .i64], True := fun _ => trivial
            simp [hir]) with ⟨i, hi, k1, _⟩ | ⟨_, k3⟩
        · exact k1.elim
        · exact k3
      have hcount := count_links v hm
      have hbl : (bound (inner v.2)).length ≤ (inner v.2).length := by
        have := flatMap_length_le (fun k : K => if k.2.2.2.2 then [edgeK k] else []) 1 (inner v.2) (fun k _ => by split <;> simp)
        unfold bound; omega
      have hil := inner_len (sorted_of v hm.2)
      have hio : i = (outer v).length := by
        have := congrArg List.length e3
        rw [List.length_take] at this
        omega
      have w1 : IntKind.i64.wrap ((2 : Int) * ((inner v.2).length : Int)) = (2 : Int) * ((inner v.2).length : Int) := wrap_i64 (by omega) (by omega)
      have w2 : IntKind.i64.wrap ((2 : Int) * ((inner v.2).length : Int) + (i : Int)) = (2 : Int) * ((inner v.2).length : Int) + (i : Int) := wrap_i64 (by omega) (by omega)
      have d1 : ¬ ((bound (inner v.2)).length : Int) > ((inner v.2).length : Int) := by omega
      have d2 : ¬ ((2 : Int) * ((inner v.2).length : Int) + (i : Int)) > (v.2.length : Int) := by omega
      simp only [hir, e1, hbr, hloop, w1, w2, decF d1, decF d2]
      simp [h1, h2, hm]
    · simp [h1, h2, hm]
  · simp [hl]

end Go.Proofs.Ytjeeofakogoboaa.T
