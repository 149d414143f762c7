/- EdgeOf in plain numbers: whatever three numbers come in, the printed law answers true. No condition beside the numbers' own kind. -/
import Derived.Test.YtjeeofakogoboaaPEdgeOfx3
namespace Go.Proofs.Ytjeeofakogoboaa.Pure
open Go.RowKit Go.Proofs.Ytjeeofakogoboaa.PEdgeOf Go.Proofs.YtjeeofakogoboaaW.PrintWords Go.Proofs.YtjeeofakogoboaaW.PrintLast Go.Proofs.YtjeeofakogoboaaW.PrintMore

def EdgeMay (a b w : Int) : Prop := 1 ≤ a ∧ a ≤ 64 ∧ 1 ≤ b ∧ b ≤ 64 ∧ a < b ∧ 0 ≤ w ∧ w ≤ 2147483647
instance (a b w : Int) : Decidable (EdgeMay a b w) := by unfold EdgeMay; infer_instance

theorem node_eq (a : Int) : edge_Node.f a = some (decide (1 ≤ a ∧ a ≤ 64)) := by
  unfold edge_Node.f
  by_cases h : a ≥ 1 <;> by_cases h2 : a ≤ 64 <;> simp [h, h2] <;> omega

theorem rnode_eq (a : Int) : withyref05_Node.f a = some (decide (1 ≤ a ∧ a ≤ 64)) := by
  unfold withyref05_Node.f
  by_cases h : a ≥ 1 <;> by_cases h2 : a ≤ 64 <;> simp [h, h2] <;> omega

theorem check_yes (a b w : Int) (h : EdgeMay a b w) : edge_Check.f a b w = some 0 := by
  obtain ⟨h1, h2, h3, h4, h5, h6, h7⟩ := h
  unfold edge_Check.f
  simp only [node_eq, Option.bind_some]
  rw [if_pos (by simp; omega), if_pos (by simp; omega), if_neg (by omega), if_neg (by omega), if_neg (by omega)]

theorem check_no (a b w : Int) (h : ¬ EdgeMay a b w) : edge_Check.f a b w = some 1 := by
  unfold EdgeMay at h
  unfold edge_Check.f
  simp only [node_eq, Option.bind_some]
  by_cases c1 : 1 ≤ a ∧ a ≤ 64
  · rw [if_pos (by simp; omega)]
    by_cases c2 : 1 ≤ b ∧ b ≤ 64
    · rw [if_pos (by simp; omega)]
      by_cases c3 : a ≥ b
      · rw [if_pos c3]
      · rw [if_neg c3]
        by_cases c4 : w < 0
        · rw [if_pos c4]
        · rw [if_neg c4, if_pos (by omega)]
    · rw [if_neg (by simp; omega)]
  · rw [if_neg (by simp; omega)]

theorem may_eq (a b w : Int) : withyref05_May.f a b w = some (decide (EdgeMay a b w)) := by
  unfold withyref05_May.f
  simp only [rnode_eq, Option.bind_some]
  by_cases c1 : 1 ≤ a ∧ a ≤ 64
  · rw [if_pos (by simp; omega)]
    by_cases c2 : 1 ≤ b ∧ b ≤ 64
    · rw [if_pos (by simp; omega)]
      by_cases c3 : a < b
      · rw [if_pos c3]
        by_cases c4 : w ≥ 0
        · rw [if_pos c4]
          congr 1
          by_cases c5 : w ≤ 2147483647 <;> simp [EdgeMay, c5] <;> omega
        · rw [if_neg c4, decide_eq_false (fun h => by unfold EdgeMay at h; omega)]
      · rw [if_neg c3, decide_eq_false (fun h => by unfold EdgeMay at h; omega)]
    · rw [if_neg (by simp; omega), decide_eq_false (fun h => by unfold EdgeMay at h; omega)]
  · rw [if_neg (by simp; omega), decide_eq_false (fun h => by unfold EdgeMay at h; omega)]

theorem awake_eq : withylaw05_awake.f = some true := by decide +kernel

theorem other_a (a b w x : Int) (h : x = a) : edge_Other.f a b w x = some b := by
  subst h; simp [edge_Other.f]

theorem other_b (a b w x : Int) (h : x = b) (hn : x ≠ a) : edge_Other.f a b w x = some a := by
  subst h; simp [edge_Other.f, Ne.symm hn]

theorem other_0 (a b w x : Int) (h : x ≠ b) (hn : x ≠ a) : edge_Other.f a b w x = some 0 := by
  simp [edge_Other.f, Ne.symm hn, Ne.symm h]

theorem body (a b lo hi w : Int) (hlo : lo = mn a b) (hhi : hi = mx a b) (hr : (a = lo ∧ b = hi) ∨ (a = hi ∧ b = lo)) :
    (edge_Of.f a b w).bind (fun t => withylaw05_EdgeOf.j0 2 a b w t.2.2.2 lo hi t.1 t.2.1 t.2.2.1) = some true := by
  unfold edge_Of.f
  rw [← hlo, ← hhi]
  by_cases h : EdgeMay lo hi w
  · have h' := h
    obtain ⟨h1, h2, h3, h4, h5, h6, h7⟩ := h'
    rw [check_yes lo hi w h]
    simp only [Option.bind_some, if_true, withylaw05_EdgeOf.j0, withylaw05_EdgeOf.j1, node_eq, rnode_eq, bne_self_eq_false, Bool.false_eq_true, if_false, check_yes lo hi w h, may_eq, h, decide_true, beq_self_eq_true, Bool.and_self]
    rcases hr with ⟨rfl, rfl⟩ | ⟨rfl, rfl⟩
    · rw [other_a _ _ _ _ rfl]
      simp only [Option.bind_some, if_true]
      rw [other_b _ _ _ _ rfl (by omega)]
      simp only [Option.bind_some, if_true]
      rw [other_0 _ _ _ _ (by omega) (by omega)]
      simp only [Option.bind_some, if_true, awake_eq]
    · rw [other_b _ _ _ _ rfl (by omega)]
      simp only [Option.bind_some, if_true]
      rw [other_a _ _ _ _ rfl]
      simp only [Option.bind_some, if_true]
      rw [other_0 _ _ _ _ (by omega) (by omega)]
      simp only [Option.bind_some, if_true, awake_eq]
  · rw [check_no lo hi w h]
    simp [withylaw05_EdgeOf.j0, withylaw05_EdgeOf.j1, node_eq, rnode_eq, check_no lo hi w h, may_eq, h, awake_eq]

/-- EdgeOf's printed law tells true for every three numbers. -/
theorem EdgeOf : withylaw05_EdgeOf.Pure := by
  intro a0 a1 a2 _ _ _
  refine ⟨2, ?_⟩
  unfold withylaw05_EdgeOf.f
  by_cases h : a1 < a0
  · simp only [if_pos h]
    exact body a0 a1 a1 a0 a2 (by simp only [mn, if_pos h]) (by simp only [mx]; rw [if_neg (by omega)]) (.inr ⟨rfl, rfl⟩)
  · simp only [if_neg h]
    refine body a0 a1 a0 a1 a2 (by simp only [mn, if_neg h]) ?_ (.inl ⟨rfl, rfl⟩)
    simp only [mx]
    by_cases h' : a0 < a1
    · rw [if_pos h']
    · rw [if_neg h']; omega

end Go.Proofs.Ytjeeofakogoboaa.Pure
