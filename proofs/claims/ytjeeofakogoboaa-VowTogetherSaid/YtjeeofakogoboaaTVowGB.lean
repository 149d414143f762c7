/- Vows: the theorem of vows. -/
import Derived.Test.YtjeeofakogoboaaTVowTB
namespace Go.Proofs.Ytjeeofakogoboaa.T
open Go.Vm Go.Tm
set_option linter.unusedVariables false
set_option linter.unusedSimpArgs false

theorem tog_loop0 {l : List Act} (b : List Bool) (hl : l.length ≤ 300) (d : HL [.bool, (.row (.prod (.arr 2 (.row (.prod (.int .i64) (.prod .bool (.prod .bool (.int .i64)))))) (.arr 2 (.fl (.int .i64)))))]) {X : PW} (hX : DW X w0) :
    (loopR d (withylaw21_VowTogether_l0 l b) ((0 : Int), X, ())).1 = true ∧ DW (loopR d (withylaw21_VowTogether_l0 l b) ((0 : Int), X, ())).2.2.1 (run l) := by
  refine loopR_by (d := d) (step := withylaw21_VowTogether_l0 l b) (fun s => ∃ i : Nat, ∃ Y : PW, s = ((i : Int), Y, ()) ∧ i ≤ l.length ∧ DW Y (run (l.take i))) (fun s => l.length - s.1.toNat) (fun r => DW r.2.1 (run l)) ((0 : Int), X, ()) ⟨0, X, rfl, by omega, hX⟩ ?_
  rintro _ ⟨i, Y, rfl, hi, hY⟩
  by_cases h : i < l.length
  · have hwi : IntKind.i64.wrap ((i : Int) + 1) = (i : Int) + 1 := wrap_i64 (by omega) (by omega)
    have hg := run_good (l.take i)
    rw [List.length_take, Nat.min_eq_left hi] at hg
    obtain ⟨d1, d2⟩ := do_r (o := l[i]) hY hg (by omega)
    rw [← run_take h] at d2
    have e : withylaw21_VowTogether_l0 l b ((i : Int), Y, ()) = (true, true, ((i : Int) + 1, (withyref21_Do_r Y l[i]).2, ()), (false, Y, ())) := by
      (simp [withylaw21_VowTogether_l0, h, hwi, d1]) <;> rfl
    exact round_go (I := fun s => ∃ i : Nat, ∃ Y : PW, s = ((i : Int), Y, ()) ∧ i ≤ l.length ∧ DW Y (run (l.take i))) (μ := fun s => l.length - s.1.toNat) (Q := fun r => DW r.2.1 (run l)) e ⟨⟨i + 1, _, rfl, h, d2⟩, by simp only; omega⟩
  · have e : withylaw21_VowTogether_l0 l b ((i : Int), Y, ()) = (true, false, (withylaw21_VowTogether_l0 l b ((i : Int), Y, ())).2.2.1, (true, Y, ())) := by
      (simp [withylaw21_VowTogether_l0, h]) <;> rfl
    have hrun : run (l.take i) = run l := by rw [show i = l.length by omega, List.take_length]
    exact round_end (I := fun s => ∃ i : Nat, ∃ Y : PW, s = ((i : Int), Y, ()) ∧ i ≤ l.length ∧ DW Y (run (l.take i))) (μ := fun s => l.length - s.1.toNat) (Q := fun r => DW r.2.1 (run l)) e (by rw [← hrun]; exact hY)

def LA2 : Act := (2, 1, 0, 0, 0)
def LB2 : Act := (2, 2, 0, 0, 0)

/-- What is delivered next. -/
theorem tog_pick {l : List Act} {b : List Bool} {j : Nat} {Y : PW} {M : List Act} {P Q : Nat} (hP : (Y.2 0).length = P) (hQ : (Y.2 1).length = Q) (hj : j < 700) (hPQ : P + Q ≤ 2000) (hpos : 0 < P + Q) (hM : M.length ≤ 2000) (hdo : ∀ o : Act, (withyref21_Do_r Y o).1 = true) :
    ∃ o : Act, ((o = LA2 ∧ P ≠ 0) ∨ (o = LB2 ∧ Q ≠ 0)) ∧ withylaw21_VowTogether_l1 l b ((j : Int), Y, M, ()) = (true, true, ((j : Int) + 1, (withyref21_Do_r Y o).2, M ++ [o], ()), (false, Y, M, ())) := by
  have hwi : IntKind.i64.wrap ((j : Int) + 1) = (j : Int) + 1 := wrap_i64 (by omega) (by omega)
  have hw : IntKind.i64.wrap ((P : Int) + (Q : Int)) = (P : Int) + (Q : Int) := wrap_i64 (by omega) (by omega)
  have hj' : (j : Int) < 700 := by omega
  have hpos' : (0 : Int) < (P : Int) + (Q : Int) := by omega
  have cm : (M.length + 1) * 40 ≤ 140737488355328 := by omega
  by_cases p0 : P = 0
  · subst p0
    have q0 : Q ≠ 0 := by omega
    refine ⟨LB2, .inr ⟨rfl, q0⟩, ?_⟩
    have hd := hdo LB2
    unfold LB2 at hd ⊢
    (simp [withylaw21_VowTogether_l1, hP, hQ, hwi, hw, hj', hpos', cm, hd]) <;> first | rfl | (simp at hw hpos'; (simp [hw, hpos', hd]) <;> rfl)
  · have pF : ((P : Int) == 0) = false := beqF (by omega)
    by_cases q0 : 0 < Q
    · have q0' : (0 : Int) < (Q : Int) := by omega
      by_cases hb : j < b.length
      · cases hbj : b[j] with
        | true =>
          refine ⟨LB2, .inr ⟨rfl, by omega⟩, ?_⟩
          have hd := hdo LB2
          unfold LB2 at hd ⊢
          (simp [withylaw21_VowTogether_l1, hP, hQ, hwi, hw, hj', hpos', cm, hd, pF, p0, q0, q0', hb, hbj]) <;> rfl
        | false =>
          refine ⟨LA2, .inl ⟨rfl, p0⟩, ?_⟩
          have hd := hdo LA2
          unfold LA2 at hd ⊢
          (simp [withylaw21_VowTogether_l1, hP, hQ, hwi, hw, hj', hpos', cm, hd, pF, p0, q0, q0', hb, hbj]) <;> rfl
      · refine ⟨LA2, .inl ⟨rfl, p0⟩, ?_⟩
        have hd := hdo LA2
        unfold LA2 at hd ⊢
        (simp [withylaw21_VowTogether_l1, hP, hQ, hwi, hw, hj', hpos', cm, hd, pF, p0, q0, q0', hb]) <;> rfl
    · have q1 : Q = 0 := by omega
      subst q1
      refine ⟨LA2, .inl ⟨rfl, p0⟩, ?_⟩
      have hd := hdo LA2
      unfold LA2 at hd ⊢
      have hp' : 0 < P := by omega
      (simp [withylaw21_VowTogether_l1, hP, hQ, hwi, hw, hj', hpos', cm, hd, pF, p0]) <;> first | rfl | (simp at hw hpos'; (simp [hw, hpos', hp', hd]) <;> rfl)

/-- What the deliveries start from, and go on with. -/
def TI (l : List Act) (j : Nat) (Y : PW) (M : List Act) : Prop := inI M ∧ M.length = l.length + j ∧ DW Y (run M) ∧ load (run M) + j ≤ 600
def TQ (M : List Act) : Prop := inI M ∧ M.length ≤ 1000 ∧ (run M).2.2.1 = [] ∧ (run M).2.2.2 = []

theorem tog_loop1 {l : List Act} (b : List Bool) (hl : l.length ≤ 300) (d : HL [.bool, (.row (.prod (.arr 2 (.row (.prod (.int .i64) (.prod .bool (.prod .bool (.int .i64)))))) (.arr 2 (.fl (.int .i64))))), (.fl (.row (.prod (.int .i64) (.prod (.int .i64) (.prod (.int .i64) (.prod (.int .i64) (.int .i64)))))))]) {X : PW} (hX : TI l 0 X l) :
    (loopR d (withylaw21_VowTogether_l1 l b) ((0 : Int), X, l, ())).1 = true ∧ TQ (loopR d (withylaw21_VowTogether_l1 l b) ((0 : Int), X, l, ())).2.2.2.1 := by
  refine loopR_by (d := d) (step := withylaw21_VowTogether_l1 l b) (fun s => ∃ j : Nat, ∃ Y : PW, ∃ M : List Act, s = ((j : Int), Y, M, ()) ∧ TI l j Y M) (fun s => 700 - s.1.toNat) (fun r => TQ r.2.2.1) ((0 : Int), X, l, ()) ⟨0, X, l, rfl, hX⟩ ?_
  rintro _ ⟨j, Y, M, rfl, hT⟩
  obtain ⟨t1, t2, t3, t4⟩ := hT
  have hg := run_good M
  obtain ⟨_, _, hgl⟩ := id hg
  obtain ⟨_, _, y0, y1⟩ := id t3
  have hj : j < 700 := by omega
  have hdo : ∀ o : Act, (withyref21_Do_r Y o).1 = true := fun o => (do_r t3 hg (by omega)).1
  by_cases hpos : 0 < (run M).2.2.1.length + (run M).2.2.2.length
  · obtain ⟨o, ho, e⟩ := tog_pick (l := l) (b := b) (j := j) (Y := Y) (M := M) (congrArg List.length y0) (congrArg List.length y1) hj (by omega) hpos (by omega) hdo
    have hd2 := (do_r (o := o) t3 hg (by omega)).2
    rw [← run_snoc] at hd2
    have hload : load (run (M ++ [o])) + 1 ≤ load (run M) := by
      rw [run_snoc]
      rcases ho with ⟨rfl, h⟩ | ⟨rfl, h⟩
      · exact load_a fun h0 => h (by rw [h0]; rfl)
      · exact load_b fun h0 => h (by rw [h0]; rfl)
    have hin : inI (M ++ [o]) := fun x hx => by
      rcases List.mem_append.1 hx with hx | hx
      · exact t1 x hx
      · simp at hx
        subst hx
        rcases ho with ⟨rfl, _⟩ | ⟨rfl, _⟩ <;> decide
    exact round_go (I := fun s => ∃ j : Nat, ∃ Y : PW, ∃ M : List Act, s = ((j : Int), Y, M, ()) ∧ TI l j Y M) (μ := fun s => 700 - s.1.toNat) (Q := fun r => TQ r.2.2.1) e ⟨⟨j + 1, _, _, rfl, hin, by rw [List.length_append]; simp only [List.length_cons, List.length_nil]; omega, hd2, by omega⟩, by simp only; omega⟩
  · have hp : (run M).2.2.1 = [] := List.eq_nil_of_length_eq_zero (by omega)
    have hq : (run M).2.2.2 = [] := List.eq_nil_of_length_eq_zero (by omega)
    have hj' : (j : Int) < 700 := by omega
    have e : withylaw21_VowTogether_l1 l b ((j : Int), Y, M, ()) = (true, false, (withylaw21_VowTogether_l1 l b ((j : Int), Y, M, ())).2.2.1, (true, Y, M, ())) := by
      rw [hp] at y0
      rw [hq] at y1
      (simp [withylaw21_VowTogether_l1, hj', y0, y1, wr0]) <;> rfl
    exact round_end (I := fun s => ∃ j : Nat, ∃ Y : PW, ∃ M : List Act, s = ((j : Int), Y, M, ()) ∧ TI l j Y M) (μ := fun s => 700 - s.1.toNat) (Q := fun r => TQ r.2.2.1) e ⟨t1, by show M.length ≤ 1000; omega, hp, hq⟩

theorem vowTogether_pure (l : List Act) (b : List Bool) (h : wfD (.fl (.row (.prod (.int .i64) (.prod (.int .i64) (.prod (.int .i64) (.prod (.int .i64) (.int .i64))))))) l) (_ : wfD (.fl .bool) b) : withylaw21_VowTogether_r l b = (true, true) := by
  have hin := wf_in h
  unfold withylaw21_VowTogether_r
  by_cases hl : l.length ≤ 300
  · have hlen : ¬ ((l.length : Int) > 300) := by omega
    simp only [awake_r, List.nil_append]
    obtain ⟨⟨z, y, X, u⟩, e0⟩ : ∃ z, loopD 0 [.int .i64, (.row (.prod (.arr 2 (.row (.prod (.int .i64) (.prod .bool (.prod .bool (.int .i64)))))) (.arr 2 (.fl (.int .i64)))))] [.bool, (.row (.prod (.arr 2 (.row (.prod (.int .i64) (.prod .bool (.prod .bool (.int .i64)))))) (.arr 2 (.fl (.int .i64)))))] (withylaw21_VowTogether_l0 l b) ((0 : Int), ((fun i => ((([((0 : Int), (false, (false, (0 : Int)))), ((0 : Int), (false, (false, (0 : Int))))] : List (Int × (Bool × (Bool × Int))))[i]?).getD ((0 : Int), (false, (false, (0 : Int)))))), (fun i => ((([([] : List Int), ([] : List Int)] : List (List Int))[i]?).getD ([] : List Int)))), ()) = z := ⟨_, rfl⟩
    have hk := tog_loop0 b hl (HL.dflt [.bool, (.row (.prod (.arr 2 (.row (.prod (.int .i64) (.prod .bool (.prod .bool (.int .i64)))))) (.arr 2 (.fl (.int .i64)))))]) (X := ((fun i => ((([((0 : Int), (false, (false, (0 : Int)))), ((0 : Int), (false, (false, (0 : Int))))] : List (Int × (Bool × (Bool × Int))))[i]?).getD ((0 : Int), (false, (false, (0 : Int)))))), (fun i => ((([([] : List Int), ([] : List Int)] : List (List Int))[i]?).getD ([] : List Int))))) ⟨rfl, rfl, rfl, rfl⟩
    have k1 : z = true := (congrArg (·.1) e0).symm.trans hk.1
    have k2 : DW X (run l) := by have := congrArg (fun r => (r.2.2.1 : PW)) e0; simp only at this; rw [← this]; exact hk.2
    subst k1
    rw [e0]
    simp only []
    have hT : TI l 0 X l := ⟨hin, rfl, k2, by have := load_run l; omega⟩
    have hm := tog_loop1 b hl (HL.dflt [.bool, (.row (.prod (.arr 2 (.row (.prod (.int .i64) (.prod .bool (.prod .bool (.int .i64)))))) (.arr 2 (.fl (.int .i64))))), (.fl (.row (.prod (.int .i64) (.prod (.int .i64) (.prod (.int .i64) (.prod (.int .i64) (.int .i64)))))))]) hT
    obtain ⟨⟨z, y', X', M, u'⟩, e1⟩ : ∃ z, loopD 1 [.int .i64, (.row (.prod (.arr 2 (.row (.prod (.int .i64) (.prod .bool (.prod .bool (.int .i64)))))) (.arr 2 (.fl (.int .i64))))), (.fl (.row (.prod (.int .i64) (.prod (.int .i64) (.prod (.int .i64) (.prod (.int .i64) (.int .i64)))))))] [.bool, (.row (.prod (.arr 2 (.row (.prod (.int .i64) (.prod .bool (.prod .bool (.int .i64)))))) (.arr 2 (.fl (.int .i64))))), (.fl (.row (.prod (.int .i64) (.prod (.int .i64) (.prod (.int .i64) (.prod (.int .i64) (.int .i64)))))))] (withylaw21_VowTogether_l1 l b) ((0 : Int), X, l, ()) = z := ⟨_, rfl⟩
    have m1 : z = true := (congrArg (·.1) e1).symm.trans hm.1
    have m2 : TQ M := by have := congrArg (fun r => (r.2.2.2.1 : List Act)) e1; simp only at this; rw [← this]; exact hm.2
    subst m1
    rw [e1]
    simp only []
    obtain ⟨n1, n2, n3, n4⟩ := m2
    have hq := quiet (sim_run M) n3 n4
    have hd := dance_r n2 n1
    rw [n3, n4] at hd
    obtain ⟨q1, q2, q3, q4, q5, q6, q7, q8⟩ := hq
    have cl : l.length * 40 ≤ 140737488355328 := by omega
    generalize run M = w at *
    obtain ⟨⟨m, t, bb, o⟩, ⟨m', t', bb', o'⟩, p, q⟩ := w
    simp only at q1 q2 q3 q4 q5 q6 q7 q8 hd
    rw [q1, q5, q6, q7, q8] at hd
    rw [hd]
    clear hd
    by_cases e1 : m = 1
    · have e2 : ¬ m' = 1 := by rcases q2 with h | h; exact absurd e1 h; exact h
      subst e1
      simp [hlen, cl, q4, e2, bneT q4, bneT e2, beqF e2]
    · simp [hlen, cl, q3, q4, e1, bneT q3, bneT q4, bneT e1, beqF e1]
      by_cases e2 : m' = 1 <;> simp [e2, beqF]
  · have hlen : ((l.length : Int) > 300) := by omega
    simp only [awake_r]
    simp [hlen]

end Go.Proofs.Ytjeeofakogoboaa.T
