/- AirBends: The law AirBends holds: Whatever is done, any number of times: what comes was put on that way, or is no frame, if all that was put are frames. No conditions. -/
import Derived.Test.YtfeepbajipdfaaaRows
import Derived.Test.YtfeepbajipdfaaaTAbP
import Derived.WalkKit
import Derived.ProofKit
import Derived.OpenShut
import Derived.ShutString
import Derived.ChangeOld
import Derived.Below
import Derived.SizedLaws
import Derived.Carry
namespace Go.Proofs.Ytfeepbajipdfaaa.airBends
open Go.ChangeShapes Go.WideShapes Go.ChangeAt Go.RowKit
open Go.ChangeMaps (open_string shut_string)
open Go.Vm Go.Tm Go.Proofs.Ytfeepbajipdfaaa.T
set_option linter.unusedVariables false
theorem own : ownKnob Try.prog.godebug = none := by kernel_rfl
theorem laidOut : laidOutB Try.prog = true := by kernel_rfl
set_option maxRecDepth 100000 in
theorem lifted (os : Os) (started : os.Started) (H : Type) (enc : TypeId × Value → H) :
    ReturnsInHanded {} Try.checked os 6 .any (Rows.airBendsSpec.pre6 enc Try.prog Try.f6 Rows.airBendsRow.domain false) (Rows.airBendsSpec.post enc Try.prog Try.f6 false true false false) := by
  refine returnsInHanded_of_change_sized (C := Try.checked) own started (by kernel_rfl) Try.func6
    (ChangeSpec.witness6 (enc := enc) (C := Try.checked) false ⟨#[], #[.slice none 0 0, .slice none 0 0, .slice none 0 0], []⟩ 8 (by kernel_rfl) (by kernel_rfl) (by kernel_rfl) (by kernel_rfl)) ?_
  intro W base args ds gs before hval0 hW hcnd hsz0 _
  have hval : ∀ (j : Nat) t v, Try.f6.params[j]? = some t → args[j]? = some v → Value.okWide Try.prog W .any base t v := hval0
  have hW' := hW
  obtain ⟨p, q, hA0, hV, rfl, hfz, hnd⟩ := hW
  have hA : DataW.TrodAll enc Try.prog W 0 (fun _ => true) true Try.f6.params.toList args.toList ds p := hA0
  rw [Try.params6] at hA hval
  obtain ⟨v0, vs0, d0, ds0, p0, q0, hargs, rfl, rfl, h0, r0⟩ := trodAll_cons hA
  obtain ⟨v1, vs1, d1, ds1, p1, q1, rfl, rfl, rfl, h1, r1⟩ := trodAll_cons r0
  obtain ⟨v2, vs2, d2, ds2, p2, q2, rfl, rfl, rfl, h2, r2⟩ := trodAll_cons r1
  obtain ⟨rfl, rfl, rfl⟩ := trodAll_nil r2
  obtain rfl : args = #[v0, v1, v2] := by cases args; simp_all
  obtain ⟨rfl, rfl⟩ := trodVars_none hV
  have hlt0 : ∀ x ∈ p0, x.block < W.heap.size := fun x hx => hW'.lt x (by simp [hx])
  have hlt1 : ∀ x ∈ p1, x.block < W.heap.size := fun x hx => hW'.lt x (by simp [hx])
  have hlt2 : ∀ x ∈ p2, x.block < W.heap.size := fun x hx => hW'.lt x (by simp [hx])
  obtain ⟨x0, w0, R0⟩ := arg_ty (P := Try.prog) (d := 23) (t := 43) (ty := .fl (.row (.prod (.int .i64) (.prod (.int .i64) (.int .i64))))) (by kernel_rfl) (by kernel_rfl) (hval 0 43 v0 rfl rfl) h0 (fun k hk => of_decide_eq_true (List.all_eq_true.1 hsz0 k (DataW.weights_mem_each (j := 0) (t := 43) (d := d0) (by kernel_rfl) rfl k hk)))
  obtain ⟨x1, w1, R1⟩ := arg_ty (P := Try.prog) (d := 23) (t := 66) (ty := .fl (.row (.prod (.int .i64) (.prod (.int .i64) (.prod (.int .i64) (.prod (.int .i64) (.fl (.int .u8)))))))) (by kernel_rfl) (by kernel_rfl) (hval 1 66 v1 rfl rfl) h1 (fun k hk => of_decide_eq_true (List.all_eq_true.1 hsz0 k (DataW.weights_mem_each (j := 1) (t := 66) (d := d1) (by kernel_rfl) rfl k hk)))
  obtain ⟨x2, w2, R2⟩ := arg_ty (P := Try.prog) (d := 23) (t := 60) (ty := .fl (.row (.prod (.int .i64) (.prod (.int .i64) (.prod (.int .i64) (.prod (.int .i64) (.int .i64))))))) (by kernel_rfl) (by kernel_rfl) (hval 2 60 v2 rfl rfl) h2 (fun k hk => of_decide_eq_true (List.all_eq_true.1 hsz0 k (DataW.weights_mem_each (j := 2) (t := 60) (d := d2) (by kernel_rfl) rfl k hk)))
  have hl := airBends_pure x0 x1 x2 w0 w1 w2
  have hfn : (withylaw20_AirBends).fn (x0, x1, x2, ()) = ((withylaw20_AirBends_r x0 x1 x2).1, ((withylaw20_AirBends_r x0 x1 x2).2, ())) := rfl
  refine (calls_law (w := W) (vals := #[v0, v1, v2]) withylaw20_AirBends_ok (f := 6) rfl rfl rfl rfl (x0, x1, x2, ()) _ (by rfl) rfl ((congrArg Prod.fst hfn).trans (by rw [hl])) (by rw [hfn, hl]; rfl) rfl (fun t ht => by match t, ht with | 0, _ => exact R0 _ _ | 1, _ => exact R1 _ _ | 2, _ => exact R2 _ _)).mono fun e W' ⟨he, bel⟩ => ?_
  subst he
  exact ⟨_, rfl, _, _, _, [], _, [], hW', trodAll_mk1 (shut_bool Try.underlying4 _), (trodAll_cons_mk (Below.trod laidOut (by kernel_rfl) (of_decide_eq_true (by kernel_rfl)) h0 bel hlt0) (trodAll_cons_mk (Below.trod laidOut (by kernel_rfl) (of_decide_eq_true (by kernel_rfl)) h1 bel hlt1) (trodAll_cons_mk (Below.trod laidOut (by kernel_rfl) (of_decide_eq_true (by kernel_rfl)) h2 bel hlt2) trodAll_mk0))), rfl, bel.frame _, fun h => by cases h⟩
theorem over : Rows.airBendsRow.holds Try.pinned (OpenSpec.ofChange Rows.airBendsSpec) :=
  OpenClaim.holds_of_wide 6 Try.f6 rfl rfl rfl rfl rfl rfl rfl ⟨rfl, rfl, rfl, rfl, rfl⟩ rfl rfl rfl rfl rfl (by kernel_rfl) Try.func6 (by kernel_rfl)
    (of_decide_eq_true (by kernel_rfl)) (by unfold Func.isWrapper; first | (rw [if_pos (by decide +kernel)]; kernel_rfl) | (rw [if_neg (by decide +kernel)]; exact ⟨rfl, rfl⟩))
    (fun os started H enc _ => lifted os started H enc)
theorem proved : Rows.AirBendsSaid := over
end Go.Proofs.Ytfeepbajipdfaaa.airBends
namespace Go.Proofs.Ytfeepbajipdfaaa
/-- The row, under a short name, for the claim. -/
theorem airBends_holds : Rows.AirBendsSaid := airBends.proved
end Go.Proofs.Ytfeepbajipdfaaa
