/- AirFalls: The law AirFalls holds: with a link all goes that is on it, either way, and nothing else, and it may come up again, empty. No conditions. -/
import Derived.Test.YtfeepbajipdfaaaRows
import Derived.Test.YtfeepbajipdfaaaTAfP
import Derived.WalkKit
import Derived.ProofKit
import Derived.OpenShut
import Derived.ShutString
import Derived.ChangeOld
import Derived.Below
import Derived.SizedLaws
import Derived.Carry
namespace Go.Proofs.Ytfeepbajipdfaaa.airFalls
open Go.ChangeShapes Go.WideShapes Go.ChangeAt Go.RowKit
open Go.ChangeMaps (open_string shut_string)
open Go.Vm Go.Tm Go.Proofs.Ytfeepbajipdfaaa.T
set_option linter.unusedVariables false
theorem own : ownKnob Try.prog.godebug = none := by kernel_rfl
theorem laidOut : laidOutB Try.prog = true := by kernel_rfl
set_option maxRecDepth 100000 in
theorem lifted (os : Os) (started : os.Started) (H : Type) (enc : TypeId × Value → H) :
    ReturnsInHanded {} Try.checked os 7 .any (Rows.airFallsSpec.pre6 enc Try.prog Try.f7 Rows.airFallsRow.domain false) (Rows.airFallsSpec.post enc Try.prog Try.f7 false true false false) := by
  refine returnsInHanded_of_change_sized (C := Try.checked) own started (by kernel_rfl) Try.func7
    (ChangeSpec.witness6 (enc := enc) (C := Try.checked) false ⟨#[], #[.agg #[.slice none 0 0, .slice none 0 0], .agg #[.int .i64 0, .int .i64 0]], []⟩ 8 (by kernel_rfl) (by kernel_rfl) (by kernel_rfl) (by kernel_rfl)) ?_
  intro W base args ds gs before hval0 hW hcnd hsz0 _
  have hval : ∀ (j : Nat) t v, Try.f7.params[j]? = some t → args[j]? = some v → Value.okWide Try.prog W .any base t v := hval0
  have hW' := hW
  obtain ⟨p, q, hA0, hV, rfl, hfz, hnd⟩ := hW
  have hA : DataW.TrodAll enc Try.prog W 0 (fun _ => true) true Try.f7.params.toList args.toList ds p := hA0
  rw [Try.params7] at hA hval
  obtain ⟨v0, vs0, d0, ds0, p0, q0, hargs, rfl, rfl, h0, r0⟩ := trodAll_cons hA
  obtain ⟨v1, vs1, d1, ds1, p1, q1, rfl, rfl, rfl, h1, r1⟩ := trodAll_cons r0
  obtain ⟨rfl, rfl, rfl⟩ := trodAll_nil r1
  obtain rfl : args = #[v0, v1] := by cases args; simp_all
  obtain ⟨rfl, rfl⟩ := trodVars_none hV
  have hlt0 : ∀ x ∈ p0, x.block < W.heap.size := fun x hx => hW'.lt x (by simp [hx])
  have hlt1 : ∀ x ∈ p1, x.block < W.heap.size := fun x hx => hW'.lt x (by simp [hx])
  obtain ⟨x0, w0, R0⟩ := arg_ty (P := Try.prog) (d := 23) (t := 45) (ty := .row (.prod (.fl (.row (.prod (.int .i64) (.prod (.int .i64) (.prod (.fl (.int .u8)) .bool))))) (.fl (.row (.prod (.int .i64) (.prod (.int .i64) (.int .i64))))))) (by kernel_rfl) (by kernel_rfl) (hval 0 45 v0 rfl rfl) h0 (fun k hk => of_decide_eq_true (List.all_eq_true.1 hsz0 k (DataW.weights_mem_each (j := 0) (t := 45) (d := d0) (by kernel_rfl) rfl k hk)))
  obtain ⟨x1, w1, R1⟩ := arg_ty (P := Try.prog) (d := 23) (t := 75) (ty := .arr 2 (.int .i64)) (by kernel_rfl) (by kernel_rfl) (hval 1 75 v1 rfl rfl) h1 (fun k hk => of_decide_eq_true (List.all_eq_true.1 hsz0 k (DataW.weights_mem_each (j := 1) (t := 75) (d := d1) (by kernel_rfl) rfl k hk)))
  have hl := airFalls_pure x0 x1 w0 w1
  have hfn : (withylaw20_AirFalls).fn (x0, x1, ()) = ((withylaw20_AirFalls_r x0 x1).1, ((withylaw20_AirFalls_r x0 x1).2, ())) := rfl
  refine (calls_law (w := W) (vals := #[v0, v1]) withylaw20_AirFalls_ok (f := 7) rfl rfl rfl rfl (x0, x1, ()) _ (by rfl) rfl ((congrArg Prod.fst hfn).trans (by rw [hl])) (by rw [hfn, hl]; rfl) rfl (fun t ht => by match t, ht with | 0, _ => exact R0 _ _ | 1, _ => exact R1 _ _)).mono fun e W' ⟨he, bel⟩ => ?_
  subst he
  exact ⟨_, rfl, _, _, _, [], _, [], hW', trodAll_mk1 (shut_bool Try.underlying4 _), (trodAll_cons_mk (Below.trod laidOut (by kernel_rfl) (of_decide_eq_true (by kernel_rfl)) h0 bel hlt0) (trodAll_cons_mk (Below.trod laidOut (by kernel_rfl) (of_decide_eq_true (by kernel_rfl)) h1 bel hlt1) trodAll_mk0)), rfl, bel.frame _, fun h => by cases h⟩
theorem over : Rows.airFallsRow.holds Try.pinned (OpenSpec.ofChange Rows.airFallsSpec) :=
  OpenClaim.holds_of_wide 7 Try.f7 rfl rfl rfl rfl rfl rfl rfl ⟨rfl, rfl, rfl, rfl, rfl⟩ rfl rfl rfl rfl rfl (by kernel_rfl) Try.func7 (by kernel_rfl)
    (of_decide_eq_true (by kernel_rfl)) (by unfold Func.isWrapper; first | (rw [if_pos (by decide +kernel)]; kernel_rfl) | (rw [if_neg (by decide +kernel)]; exact ⟨rfl, rfl⟩))
    (fun os started H enc _ => lifted os started H enc)
theorem proved : Rows.AirFallsSaid := over
end Go.Proofs.Ytfeepbajipdfaaa.airFalls
namespace Go.Proofs.Ytfeepbajipdfaaa
/-- The row, under a short name, for the claim. -/
theorem airFalls_holds : Rows.AirFallsSaid := airFalls.proved
end Go.Proofs.Ytfeepbajipdfaaa
