/- Vows: two ends in any weather are as the plain one says. -/
import Derived.Test.YtjeeofakogoboaaTVowEB
namespace Go.Proofs.Ytjeeofakogoboaa.T
open Go.Vm Go.Tm
set_option linter.unusedVariables false
set_option linter.unusedSimpArgs false

theorem wf_in {l : List Act} (h : wfD (.fl (.row (.prod (.int .i64) (.prod (.int .i64) (.prod (.int .i64) (.prod (.int .i64) (.int .i64))))))) l) : inI l := fun o ho => lit_i64 (h.2 o ho).2.1

theorem dances_loop {l : List Act} (hl : l.length ≤ 1000) (d : HL [.bool, (.row (.prod (.arr 2 (.row (.prod (.int .i64) (.prod .bool (.prod .bool (.int .i64)))))) (.arr 2 (.fl (.int .i64)))))]) {X : PW} (hX : DW X w0) :
    (loopR d (withylaw21_VowDances_l0 l) ((0 : Int), X, ())).1 = true ∧ DW (loopR d (withylaw21_VowDances_l0 l) ((0 : Int), X, ())).2.2.1 (run l) := by
  refine loopR_by (d := d) (step := withylaw21_VowDances_l0 l) (fun s => ∃ i : Nat, ∃ Y : PW, s = ((i : Int), Y, ()) ∧ i ≤ l.length ∧ DW Y (run (l.take i))) (fun s => l.length - s.1.toNat) (fun r => DW r.2.1 (run l)) ((0 : Int), X, ()) ⟨0, X, rfl, by omega, hX⟩ ?_
  rintro _ ⟨i, Y, rfl, hi, hY⟩
  by_cases h : i < l.length
  · have hwi : IntKind.i64.wrap ((i : Int) + 1) = (i : Int) + 1 := wrap_i64 (by omega) (by omega)
    have hg := run_good (l.take i)
    rw [List.length_take, Nat.min_eq_left hi] at hg
    obtain ⟨d1, d2⟩ := do_r (o := l[i]) hY hg (by omega)
    rw [← run_take h] at d2
    have e : withylaw21_VowDances_l0 l ((i : Int), Y, ()) = (true, true, ((i : Int) + 1, (withyref21_Do_r Y l[i]).2, ()), (false, Y, ())) := by
      (simp [withylaw21_VowDances_l0, h, hwi, d1]) <;> rfl
    exact round_go (I := fun s => ∃ i : Nat, ∃ Y : PW, s = ((i : Int), Y, ()) ∧ i ≤ l.length ∧ DW Y (run (l.take i))) (μ := fun s => l.length - s.1.toNat) (Q := fun r => DW r.2.1 (run l)) e ⟨⟨i + 1, _, rfl, h, d2⟩, by simp only; omega⟩
  · have e : withylaw21_VowDances_l0 l ((i : Int), Y, ()) = (true, false, (withylaw21_VowDances_l0 l ((i : Int), Y, ())).2.2.1, (true, Y, ())) := by
      (simp [withylaw21_VowDances_l0, h]) <;> rfl
    have hrun : run (l.take i) = run l := by rw [show i = l.length by omega, List.take_length]
    exact round_end (I := fun s => ∃ i : Nat, ∃ Y : PW, s = ((i : Int), Y, ()) ∧ i ≤ l.length ∧ DW Y (run (l.take i))) (μ := fun s => l.length - s.1.toNat) (Q := fun r => DW r.2.1 (run l)) e (by rw [← hrun]; exact hY)

theorem dance_long {l : List Act} (hl : ¬ l.length ≤ 1000) : vow_Dance_r l = (true, zeroV, zeroV, 0, 3) := by
  have hlen : ((l.length : Int) > 1000) := by omega
  unfold vow_Dance_r
  simp [hlen, zeroV]

theorem vowDances_pure (l : List Act) (h : wfD (.fl (.row (.prod (.int .i64) (.prod (.int .i64) (.prod (.int .i64) (.prod (.int .i64) (.int .i64))))))) l) : withylaw21_VowDances_r l = (true, true) := by
  have hin := wf_in h
  unfold withylaw21_VowDances_r
  by_cases hl : l.length ≤ 1000
  · have hlen : ¬ ((l.length : Int) > 1000) := by omega
    obtain ⟨g1, g2, g3⟩ := run_good l
    simp only [dance_r hl hin, awake_r]
    obtain ⟨⟨z, y, ⟨V, Y⟩, u⟩, e0⟩ : ∃ z, loopD 0 [.int .i64, (.row (.prod (.arr 2 (.row (.prod (.int .i64) (.prod .bool (.prod .bool (.int .i64)))))) (.arr 2 (.fl (.int .i64)))))] [.bool, (.row (.prod (.arr 2 (.row (.prod (.int .i64) (.prod .bool (.prod .bool (.int .i64)))))) (.arr 2 (.fl (.int .i64)))))] (withylaw21_VowDances_l0 l) ((0 : Int), ((fun i => ((([((0 : Int), (false, (false, (0 : Int)))), ((0 : Int), (false, (false, (0 : Int))))] : List (Int × (Bool × (Bool × Int))))[i]?).getD ((0 : Int), (false, (false, (0 : Int)))))), (fun i => ((([([] : List Int), ([] : List Int)] : List (List Int))[i]?).getD ([] : List Int)))), ()) = z := ⟨_, rfl⟩
    have hk := dances_loop hl (HL.dflt [.bool, (.row (.prod (.arr 2 (.row (.prod (.int .i64) (.prod .bool (.prod .bool (.int .i64)))))) (.arr 2 (.fl (.int .i64)))))]) (X := ((fun i => ((([((0 : Int), (false, (false, (0 : Int)))), ((0 : Int), (false, (false, (0 : Int))))] : List (Int × (Bool × (Bool × Int))))[i]?).getD ((0 : Int), (false, (false, (0 : Int)))))), (fun i => ((([([] : List Int), ([] : List Int)] : List (List Int))[i]?).getD ([] : List Int))))) ⟨rfl, rfl, rfl, rfl⟩
    have k1 : z = true := (congrArg (·.1) e0).symm.trans hk.1
    have k2 : DW (V, Y) (run l) := by have := congrArg (fun r => (r.2.2.1 : PW)) e0; simp only at this; rw [← this]; exact hk.2
    subst k1
    rw [e0]
    obtain ⟨m1, m2, m3, m4⟩ := k2
    simp only at m1 m2 m3 m4
    have hw : IntKind.i64.wrap (((run l).2.2.1.length : Int) + ((run l).2.2.2.length : Int)) = ((run l).2.2.1.length : Int) + ((run l).2.2.2.length : Int) := wrap_i64 (by omega) (by omega)
    simp [hlen, m1, m2, m3, m4, hw]
  · have hlen : ((l.length : Int) > 1000) := by omega
    simp only [dance_long hl, awake_r, zeroV]
    simp [hlen]

end Go.Proofs.Ytjeeofakogoboaa.T
