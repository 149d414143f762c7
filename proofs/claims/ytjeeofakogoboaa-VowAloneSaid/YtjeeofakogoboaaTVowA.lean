/- Vows: an end whose other one never vows. -/
import Derived.Test.YtjeeofakogoboaaTVowD
namespace Go.Proofs.Ytjeeofakogoboaa.T
open Go.Vm Go.Tm
set_option linter.unusedVariables false
set_option linter.unusedSimpArgs false

/-- The acts of the lone one. -/
def lone (o : Act) : Prop := (o.1 = 8 ∧ o.2.1 = 1) ∨ (o.1 = 5 ∧ o.2.1 = 1) ∨ (o.1 = 2 ∧ o.2.1 = 1) ∨ (o.1 = 2 ∧ o.2.1 = 2)

structure Lone (w : W) : Prop where
  a1 : w.1.2.1 = false
  a2 : w.1.2.2.1 = false
  a3 : w.1.2.2.2 = 0
  b0 : w.2.1.1 = 0
  b2 : w.2.1.2.2.1 = false
  b3 : w.2.1.2.2.2 = 0
  p : ∀ x ∈ w.2.2.1, x = 4 ∨ x = 5
  q : ∀ x ∈ w.2.2.2, x = 6

theorem lone_step {w : W} (h : Lone w) {o : Act} (ho : lone o) : Lone (step w o) := by
  obtain ⟨⟨m, t, b, c⟩, ⟨m', t', b', c'⟩, p, q⟩ := w
  obtain ⟨h1, h2, h3, h4, h5, h6, h7, h8⟩ := h
  simp only at h1 h2 h3 h4 h5 h6 h7 h8
  subst h1; subst h2; subst h3; subst h4; subst h5; subst h6
  rcases ho with ⟨e1, e2⟩ | ⟨e1, e2⟩ | ⟨e1, e2⟩ | ⟨e1, e2⟩
  · simp only [step, e1, e2, step1, if_true]
    unfold grant
    by_cases hm : m = 0
    · simp only [hm, true_and, if_true, Bool.false_eq_true, if_false]
      exact ⟨rfl, rfl, rfl, rfl, rfl, rfl, fun x hx => by
        rcases List.mem_append.1 hx with hx | hx
        · exact h7 x hx
        · simp at hx; exact .inl hx, h8⟩
    · simp only [hm, false_and, if_false, List.append_nil]
      exact ⟨rfl, rfl, rfl, rfl, rfl, rfl, h7, h8⟩
  · simp only [step, e1, e2, step1, if_true]
    rw [if_neg (by decide)]
    unfold recant
    by_cases hm : m = 1
    · simp only [hm, if_true]
      exact ⟨rfl, rfl, rfl, rfl, rfl, rfl, fun x hx => by
        rcases List.mem_append.1 hx with hx | hx
        · exact h7 x hx
        · simp at hx; exact .inr hx, h8⟩
    · simp only [hm, if_false, List.append_nil]
      exact ⟨rfl, rfl, rfl, rfl, rfl, rfl, h7, h8⟩
  · simp only [step, e1, e2, step1, if_true]
    rw [if_neg (by decide), if_neg (by decide), if_neg (by decide)]
    cases p with
    | nil => exact ⟨rfl, rfl, rfl, rfl, rfl, rfl, h7, h8⟩
    | cons x p' =>
      simp only
      have h7' : ∀ y ∈ p', y = 4 ∨ y = 5 := fun y hy => h7 y (.tail _ hy)
      rcases h7 x (.head _) with rfl | rfl
      · simp only [hear, if_true, Int.lt_irrefl, if_false, List.append_nil]
        exact ⟨rfl, rfl, rfl, rfl, rfl, rfl, h7', h8⟩
      · simp only [hear]
        rw [if_neg (by decide), if_pos trivial]
        exact ⟨rfl, rfl, rfl, rfl, rfl, rfl, h7', fun y hy => by
          rcases List.mem_append.1 hy with hy | hy
          · exact h8 y hy
          · simpa using hy⟩
  · simp only [step, e1, e2, step1, flip]
    rw [if_neg (by decide), if_pos trivial, if_neg (by decide), if_neg (by decide), if_neg (by decide), if_pos trivial]
    cases q with
    | nil => exact ⟨rfl, rfl, rfl, rfl, rfl, rfl, h7, h8⟩
    | cons x q' =>
      have h8' : ∀ y ∈ q', y = 6 := fun y hy => h8 y (.tail _ hy)
      have hx := h8 x (.head _)
      subst hx
      simp only [hear]
      rw [if_neg (by decide), if_neg (by decide), if_pos trivial, if_neg (by decide)]
      by_cases hm : m = 2
      · simp only [hm, if_true, List.append_nil]
        exact ⟨rfl, rfl, rfl, rfl, rfl, rfl, h7, h8'⟩
      · simp only [hm, if_false, List.append_nil]
        exact ⟨rfl, rfl, rfl, rfl, rfl, rfl, h7, h8'⟩

theorem lone_fold : ∀ (l : List Act) (w : W), Lone w → (∀ o ∈ l, lone o) → Lone (l.foldl step w)
  | [], w, h, _ => h
  | o :: l, w, h, ho => lone_fold l _ (lone_step h (ho o (.head _))) fun y hy => ho y (.tail _ hy)

theorem lone_run {l : List Act} (h : ∀ o ∈ l, lone o) : Lone (run l) := lone_fold l w0 ⟨rfl, rfl, rfl, rfl, rfl, rfl, (fun x hx => nomatch hx), (fun x hx => nomatch hx)⟩ h

theorem lone_in {l : List Act} (h : ∀ o ∈ l, lone o) : inI l := fun o ho => by
  rcases h o ho with ⟨_, e⟩ | ⟨_, e⟩ | ⟨_, e⟩ | ⟨_, e⟩ <;> rw [e] <;> decide

def A8 : Act := (8, 1, 0, 0, 0)
def A2 : Act := (2, 1, 0, 0, 0)
def B2 : Act := (2, 2, 0, 0, 0)
def A5 : Act := (5, 1, 0, 0, 0)
theorem lone8 : lone A8 := .inl ⟨rfl, rfl⟩
theorem lone5 : lone A5 := .inr (.inl ⟨rfl, rfl⟩)
theorem lone2 : lone A2 := .inr (.inr (.inl ⟨rfl, rfl⟩))
theorem loneB : lone B2 := .inr (.inr (.inr ⟨rfl, rfl⟩))

theorem lone_app {L M : List Act} (h : ∀ o ∈ L, lone o) (k : ∀ o ∈ M, lone o) : ∀ o ∈ L ++ M, lone o := fun o ho => by
  rcases List.mem_append.1 ho with ho | ho
  · exact h o ho
  · exact k o ho
theorem lone_one {o : Act} (h : lone o) : ∀ x ∈ [o], lone x := fun x hx => by simp at hx; subst hx; exact h

abbrev LA := HL [.int .i64, (.fl (.row (.prod (.int .i64) (.prod (.int .i64) (.prod (.int .i64) (.prod (.int .i64) (.int .i64)))))))]
abbrev RA := HL [.bool, (.fl (.row (.prod (.int .i64) (.prod (.int .i64) (.prod (.int .i64) (.prod (.int .i64) (.int .i64)))))))]

theorem round_go {σ ρ : Type} {step : σ → Bool × Bool × σ × ρ} {s y : σ} {r : ρ} {I : σ → Prop} {μ : σ → Nat} {Q : ρ → Prop} (e : step s = (true, true, y, r)) (h : I y ∧ μ y < μ s) : (step s).1 = true ∧ ((step s).2.1 = true → I (step s).2.2.1 ∧ μ (step s).2.2.1 < μ s) ∧ ((step s).2.1 = false → Q (step s).2.2.2) := by
  rw [e]; exact ⟨rfl, fun _ => h, fun h => by cases h⟩
theorem round_end {σ ρ : Type} {step : σ → Bool × Bool × σ × ρ} {s y : σ} {r : ρ} {I : σ → Prop} {μ : σ → Nat} {Q : ρ → Prop} (e : step s = (true, false, y, r)) (h : Q r) : (step s).1 = true ∧ ((step s).2.1 = true → I (step s).2.2.1 ∧ μ (step s).2.2.1 < μ s) ∧ ((step s).2.1 = false → Q (step s).2.2.2) := by
  rw [e]; exact ⟨rfl, (fun h => by cases h), fun _ => h⟩

theorem lone_loop0 (b : List Bool) (d : RA) : (loopR d (withylaw21_VowAlone_l0 b) ((0 : Int), ([] : List Act), ())).1 = true ∧
    ((∀ o ∈ ((loopR d (withylaw21_VowAlone_l0 b) ((0 : Int), ([] : List Act), ())).2.2.1 : List Act), lone o) ∧ List.length ((loopR d (withylaw21_VowAlone_l0 b) ((0 : Int), ([] : List Act), ())).2.2.1 : List Act) ≤ 300) := by
  refine loopR_by (d := d) (step := withylaw21_VowAlone_l0 b) (fun s => ∃ i : Nat, ∃ L : List Act, s = ((i : Int), L, ()) ∧ i ≤ 100 ∧ L.length ≤ 3 * i ∧ ∀ o ∈ L, lone o) (fun s => 100 - s.1.toNat) (fun r => (∀ o ∈ (r.2.1 : List Act), lone o) ∧ List.length (r.2.1 : List Act) ≤ 300) ((0 : Int), ([] : List Act), ()) ⟨0, [], rfl, by omega, by simp, fun o ho => nomatch ho⟩ ?_
  rintro _ ⟨i, L, rfl, hi, hL, hl⟩
  have hstop : (decide ((i : Int) < (b.length : Int)) && decide ((i : Int) < 100)) = false → withylaw21_VowAlone_l0 b ((i : Int), L, ()) = (true, false, (withylaw21_VowAlone_l0 b ((i : Int), L, ())).2.2.1, (true, L, ())) := fun h => by
    by_cases h1 : i < b.length
    · have h2' : ¬ (i : Int) < 100 := by
        intro h2; rw [decide_eq_true h2, decide_eq_true (by omega)] at h; cases h
      (simp [withylaw21_VowAlone_l0, h1, h2']) <;> rfl
    · (simp [withylaw21_VowAlone_l0, h1]) <;> rfl
  by_cases h1 : i < b.length
  · by_cases h2 : i < 100
    · have hwi : IntKind.i64.wrap ((i : Int) + 1) = (i : Int) + 1 := wrap_i64 (by omega) (by omega)
      have h2' : (i : Int) < 100 := by omega
      have cp : ∀ m : Nat, m ≤ 3 → (L.length + m) * 40 ≤ 140737488355328 := fun m hm => by omega
      have c1 := cp 1 (by omega)
      have c2 := cp 2 (by omega)
      have c3 := cp 3 (by omega)
      have hgo : ∃ M : List Act, ∃ r, withylaw21_VowAlone_l0 b ((i : Int), L, ()) = (true, true, ((i : Int) + 1, M, ()), r) ∧ M.length ≤ 3 * (i + 1) ∧ ∀ o ∈ M, lone o := by
        cases hbi : b[i] with
        | true =>
          refine ⟨((L ++ [A8]) ++ [A2]) ++ [A5], (false, L, ()), ?_, by simp; omega, lone_app (lone_app (lone_app hl (lone_one lone8)) (lone_one lone2)) (lone_one lone5)⟩
          (simp [withylaw21_VowAlone_l0, h1, h2', hbi, hwi, c1, c2, c3, Nat.add_assoc, A8, A2, A5]) <;> rfl
        | false =>
          refine ⟨(L ++ [A8]) ++ [A5], (false, L, ()), ?_, by simp; omega, lone_app (lone_app hl (lone_one lone8)) (lone_one lone5)⟩
          (simp [withylaw21_VowAlone_l0, h1, h2', hbi, hwi, c1, c2, c3, Nat.add_assoc, A8, A2, A5]) <;> rfl
      obtain ⟨M, r, e, hM, hM2⟩ := hgo
      exact round_go (I := fun s => ∃ i : Nat, ∃ L : List Act, s = ((i : Int), L, ()) ∧ i ≤ 100 ∧ L.length ≤ 3 * i ∧ ∀ o ∈ L, lone o) (μ := fun s => 100 - s.1.toNat) (Q := fun r => (∀ o ∈ (r.2.1 : List Act), lone o) ∧ List.length (r.2.1 : List Act) ≤ 300) e ⟨⟨i + 1, M, rfl, by omega, hM, hM2⟩, by simp only; omega⟩
    · exact round_end (I := fun s => ∃ i : Nat, ∃ L : List Act, s = ((i : Int), L, ()) ∧ i ≤ 100 ∧ L.length ≤ 3 * i ∧ ∀ o ∈ L, lone o) (μ := fun s => 100 - s.1.toNat) (Q := fun r => (∀ o ∈ (r.2.1 : List Act), lone o) ∧ List.length (r.2.1 : List Act) ≤ 300) (hstop (by simp; omega)) ⟨hl, by show L.length ≤ 300; omega⟩
  · exact round_end (I := fun s => ∃ i : Nat, ∃ L : List Act, s = ((i : Int), L, ()) ∧ i ≤ 100 ∧ L.length ≤ 3 * i ∧ ∀ o ∈ L, lone o) (μ := fun s => 100 - s.1.toNat) (Q := fun r => (∀ o ∈ (r.2.1 : List Act), lone o) ∧ List.length (r.2.1 : List Act) ≤ 300) (hstop (by simp; omega)) ⟨hl, by show L.length ≤ 300; omega⟩

theorem lone_loop1 (b : List Bool) (d : RA) {L0 : List Act} (h0 : ∀ o ∈ L0, lone o) (hl0 : L0.length ≤ 300) : (loopR d (withylaw21_VowAlone_l1 b) ((0 : Int), L0, ())).1 = true ∧
    ((∀ o ∈ ((loopR d (withylaw21_VowAlone_l1 b) ((0 : Int), L0, ())).2.2.1 : List Act), lone o) ∧ List.length ((loopR d (withylaw21_VowAlone_l1 b) ((0 : Int), L0, ())).2.2.1 : List Act) ≤ 1100) := by
  refine loopR_by (d := d) (step := withylaw21_VowAlone_l1 b) (fun s => ∃ i : Nat, ∃ L : List Act, s = ((i : Int), L, ()) ∧ i ≤ 400 ∧ L.length ≤ 300 + 2 * i ∧ ∀ o ∈ L, lone o) (fun s => 400 - s.1.toNat) (fun r => (∀ o ∈ (r.2.1 : List Act), lone o) ∧ List.length (r.2.1 : List Act) ≤ 1100) ((0 : Int), L0, ()) ⟨0, L0, rfl, by omega, by omega, h0⟩ ?_
  rintro _ ⟨i, L, rfl, hi, hL, hl⟩
  by_cases h2 : i < 400
  · have hwi : IntKind.i64.wrap ((i : Int) + 1) = (i : Int) + 1 := wrap_i64 (by omega) (by omega)
    have h2' : (i : Int) < 400 := by omega
    have c2 : (L.length + 2) * 40 ≤ 140737488355328 := by omega
    have e : withylaw21_VowAlone_l1 b ((i : Int), L, ()) = (true, true, ((i : Int) + 1, L ++ [A2, B2], ()), (false, L, ())) := by
      (simp [withylaw21_VowAlone_l1, h2', hwi, c2, A2, B2]) <;> rfl
    refine round_go (I := fun s => ∃ i : Nat, ∃ L : List Act, s = ((i : Int), L, ()) ∧ i ≤ 400 ∧ L.length ≤ 300 + 2 * i ∧ ∀ o ∈ L, lone o) (μ := fun s => 400 - s.1.toNat) (Q := fun r => (∀ o ∈ (r.2.1 : List Act), lone o) ∧ List.length (r.2.1 : List Act) ≤ 1100) e ⟨⟨i + 1, L ++ [A2, B2], rfl, by omega, by simp; omega, lone_app hl fun o ho => ?_⟩, by simp only; omega⟩
    simp at ho
    rcases ho with rfl | rfl
    · exact lone2
    · exact loneB
  · have h2' : ¬ (i : Int) < 400 := by omega
    have e : withylaw21_VowAlone_l1 b ((i : Int), L, ()) = (true, false, (withylaw21_VowAlone_l1 b ((i : Int), L, ())).2.2.1, (true, L, ())) := by
      (simp [withylaw21_VowAlone_l1, h2']) <;> rfl
    exact round_end (I := fun s => ∃ i : Nat, ∃ L : List Act, s = ((i : Int), L, ()) ∧ i ≤ 400 ∧ L.length ≤ 300 + 2 * i ∧ ∀ o ∈ L, lone o) (μ := fun s => 400 - s.1.toNat) (Q := fun r => (∀ o ∈ (r.2.1 : List Act), lone o) ∧ List.length (r.2.1 : List Act) ≤ 1100) e ⟨hl, by show L.length ≤ 1100; omega⟩

theorem vowAlone_pure (b : List Bool) : withylaw21_VowAlone_r b = (true, true) := by
  unfold withylaw21_VowAlone_r
  simp only []
  obtain ⟨k1, k2, k3⟩ := lone_loop0 b (HL.dflt [.bool, (.fl (.row (.prod (.int .i64) (.prod (.int .i64) (.prod (.int .i64) (.prod (.int .i64) (.int .i64)))))))])
  obtain ⟨⟨z, y, L0, u⟩, e0⟩ : ∃ z, loopD 0 [.int .i64, (.fl (.row (.prod (.int .i64) (.prod (.int .i64) (.prod (.int .i64) (.prod (.int .i64) (.int .i64)))))))] [.bool, (.fl (.row (.prod (.int .i64) (.prod (.int .i64) (.prod (.int .i64) (.prod (.int .i64) (.int .i64)))))))] (withylaw21_VowAlone_l0 b) ((0 : Int), ([] : List (Int × (Int × (Int × (Int × Int))))), ()) = z := ⟨_, rfl⟩
  have k1 : z = true := (congrArg (·.1) e0).symm.trans k1
  have k2 : ∀ o ∈ (L0 : List Act), lone o := fun o ho => k2 o (by have := congrArg (fun r => (r.2.2.1 : List Act)) e0; simp only at this; rw [← this] at ho; exact ho)
  have k3 : List.length (L0 : List Act) ≤ 300 := by have := congrArg (fun r => (r.2.2.1 : List Act)) e0; simp only at this; rw [← this]; exact k3
  subst k1
  rw [e0]
  simp only []
  obtain ⟨m1, m2, m3⟩ := lone_loop1 b (HL.dflt [.bool, (.fl (.row (.prod (.int .i64) (.prod (.int .i64) (.prod (.int .i64) (.prod (.int .i64) (.int .i64)))))))]) k2 k3
  obtain ⟨⟨z, y', L, u'⟩, e1⟩ : ∃ z, loopD 1 [.int .i64, (.fl (.row (.prod (.int .i64) (.prod (.int .i64) (.prod (.int .i64) (.prod (.int .i64) (.int .i64)))))))] [.bool, (.fl (.row (.prod (.int .i64) (.prod (.int .i64) (.prod (.int .i64) (.prod (.int .i64) (.int .i64)))))))] (withylaw21_VowAlone_l1 b) ((0 : Int), L0, ()) = z := ⟨_, rfl⟩
  have m1 : z = true := (congrArg (·.1) e1).symm.trans m1
  have m2 : ∀ o ∈ (L : List Act), lone o := fun o ho => m2 o (by have := congrArg (fun r => (r.2.2.1 : List Act)) e1; simp only at this; rw [← this] at ho; exact ho)
  have m3 : List.length (L : List Act) ≤ 1100 := by have := congrArg (fun r => (r.2.2.1 : List Act)) e1; simp only at this; rw [← this]; exact m3
  subst m1
  rw [e1]
  simp only []
  clear e0 e1 k2 k3
  revert L
  intro (L : List Act) m2 m3
  have key : ∀ M : List Act, M.length ≤ 1000 → (∀ o ∈ M, lone o) → ∃ m t p n, vow_Dance_r M = (true, (m, false, false, 0), (0, t, false, 0), n, 0) := fun M h1 h2 => by
    have hd := dance_r h1 (lone_in h2)
    have hr := lone_run h2
    generalize run M = w at hd hr
    obtain ⟨⟨m, t, b, c⟩, ⟨m', t', b', c'⟩, p, q⟩ := w
    obtain ⟨e1, e2, e3, e4, e5, e6, _, _⟩ := hr
    simp only at e1 e2 e3 e4 e5 e6
    subst e1; subst e2; subst e3; subst e4; subst e5; subst e6
    exact ⟨m, t', p, _, hd⟩
  by_cases hc : L.length > 1000
  · have hc' : ((L.length : Int) > 1000) := by omega
    have hw : IntKind.i64.wrap ((L.length : Int) - 1000) = ((L.length - 1000 : Nat) : Int) := by rw [wrap_i64 (by omega) (by omega)]; omega
    obtain ⟨m, t, p, n, hd⟩ := key ((L.drop (L.length - 1000)).take (L.length - (L.length - 1000))) (by rw [List.length_take]; omega) (fun o ho => m2 o (List.mem_of_mem_drop (List.mem_of_mem_take ho)))
    simp only [hc', decide_true, cond_true, hw, Int.toNat_natCast, hd, awake_r]
    simp
  · have hc' : ¬ ((L.length : Int) > 1000) := by omega
    obtain ⟨m, t, p, n, hd⟩ := key ((L.drop 0).take L.length) (by rw [List.length_take]; omega) (fun o ho => m2 o (List.mem_of_mem_drop (List.mem_of_mem_take ho)))
    simp only [hc', decide_false, cond_false, hd, awake_r]
    simp

end Go.Proofs.Ytjeeofakogoboaa.T
