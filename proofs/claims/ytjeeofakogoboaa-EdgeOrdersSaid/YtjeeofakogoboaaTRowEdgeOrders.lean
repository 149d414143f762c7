/- EdgeOrders: of two unlike edges just one is ahead, and what is ahead of what is ahead is ahead: whatever three edges, the law's function answers true. No conditions. -/
import Derived.Test.YtjeeofakogoboaaRows
import Derived.Test.YtjeeofakogoboaaTEdgeP
import Derived.WalkKit
import Derived.ProofKit
import Derived.OpenShut
import Derived.ShutString
import Derived.ChangeOld
import Derived.Below
import Derived.SizedLaws
import Derived.Carry
namespace Go.Proofs.Ytjeeofakogoboaa.edgeOrders
open Go.ChangeShapes Go.WideShapes Go.ChangeAt Go.RowKit
open Go.ChangeMaps (open_string shut_string)
open Go.Vm Go.Tm Go.Proofs.Ytjeeofakogoboaa.T
set_option linter.unusedVariables false
theorem own : ownKnob Try.prog.godebug = none := by kernel_rfl
theorem laidOut : laidOutB Try.prog = true := by kernel_rfl
set_option maxRecDepth 100000 in
theorem lifted (os : Os) (started : os.Started) (H : Type) (enc : TypeId × Value → H) :
    ReturnsInHanded {} Try.checked os 8 .any (Rows.edgeOrdersSpec.pre6 enc Try.prog Try.f8 Rows.edgeOrdersRow.domain false) (Rows.edgeOrdersSpec.post enc Try.prog Try.f8 false true false false) := by
  refine returnsInHanded_of_change_sized (C := Try.checked) own started (by kernel_rfl) Try.func8
    (ChangeSpec.witness6 (enc := enc) (C := Try.checked) false ⟨#[], #[.agg #[.int .i64 0, .int .i64 0, .int .i64 0], .agg #[.int .i64 0, .int .i64 0, .int .i64 0], .agg #[.int .i64 0, .int .i64 0, .int .i64 0]], []⟩ 8 (by kernel_rfl) (by kernel_rfl) (by kernel_rfl) (by kernel_rfl)) ?_
  intro W base args ds gs before hval0 hW hcnd hsz0 _
  have hval : ∀ (j : Nat) t v, Try.f8.params[j]? = some t → args[j]? = some v → Value.okWide Try.prog W .any base t v := hval0
  have hW' := hW
  obtain ⟨p, q, hA0, hV, rfl, hfz, hnd⟩ := hW
  have hA : DataW.TrodAll enc Try.prog W 0 (fun _ => true) true Try.f8.params.toList args.toList ds p := hA0
  rw [Try.params8] at hA hval
  obtain ⟨v0, vs0, d0, ds0, p0, q0, hargs, rfl, rfl, h0, r0⟩ := trodAll_cons hA
  obtain ⟨v1, vs1, d1, ds1, p1, q1, rfl, rfl, rfl, h1, r1⟩ := trodAll_cons r0
  obtain ⟨v2, vs2, d2, ds2, p2, q2, rfl, rfl, rfl, h2, r2⟩ := trodAll_cons r1
  obtain ⟨rfl, rfl, rfl⟩ := trodAll_nil r2
  obtain rfl : args = #[v0, v1, v2] := by cases args; simp_all
  obtain ⟨rfl, rfl⟩ := trodVars_none hV
  have hlt0 : ∀ x ∈ p0, x.block < W.heap.size := fun x hx => hW'.lt x (by simp [hx])
  have hlt1 : ∀ x ∈ p1, x.block < W.heap.size := fun x hx => hW'.lt x (by simp [hx])
  have hlt2 : ∀ x ∈ p2, x.block < W.heap.size := fun x hx => hW'.lt x (by simp [hx])
  obtain ⟨x0, w0, R0⟩ := arg_ty (P := Try.prog) (d := 23) (t := 23) (ty := .row (.prod (.int .i64) (.prod (.int .i64) (.int .i64)))) (by kernel_rfl) (by kernel_rfl) (hval 0 23 v0 rfl rfl) h0
  obtain ⟨x1, w1, R1⟩ := arg_ty (P := Try.prog) (d := 23) (t := 23) (ty := .row (.prod (.int .i64) (.prod (.int .i64) (.int .i64)))) (by kernel_rfl) (by kernel_rfl) (hval 1 23 v1 rfl rfl) h1
  obtain ⟨x2, w2, R2⟩ := arg_ty (P := Try.prog) (d := 23) (t := 23) (ty := .row (.prod (.int .i64) (.prod (.int .i64) (.int .i64)))) (by kernel_rfl) (by kernel_rfl) (hval 2 23 v2 rfl rfl) h2
  have hl := edgeOrders_true x0 x1 x2 
  refine (calls_law (w := W) (vals := #[v0, v1, v2]) withylaw05_EdgeOrders_ok (f := 8) rfl rfl rfl rfl (x0, x1, x2, ()) _ (by rfl) rfl (by show (withylaw05_EdgeOrders_r x0 x1 x2).1 = true; rw [hl]) (by show [(⟨.bool, (withylaw05_EdgeOrders_r x0 x1 x2).2⟩ : Leaf)] = _; rw [hl]) rfl (fun t ht => by match t, ht with | 0, _ => exact R0 _ _ | 1, _ => exact R1 _ _ | 2, _ => exact R2 _ _)).mono fun e W' ⟨he, bel⟩ => ?_
  subst he
  exact ⟨_, rfl, _, _, _, [], _, [], hW', trodAll_mk1 (shut_bool Try.underlying4 _), (trodAll_cons_mk (Below.trod laidOut (by kernel_rfl) (of_decide_eq_true (by kernel_rfl)) h0 bel hlt0) (trodAll_cons_mk (Below.trod laidOut (by kernel_rfl) (of_decide_eq_true (by kernel_rfl)) h1 bel hlt1) (trodAll_cons_mk (Below.trod laidOut (by kernel_rfl) (of_decide_eq_true (by kernel_rfl)) h2 bel hlt2) trodAll_mk0))), rfl, bel.frame _, fun h => by cases h⟩
theorem over : Rows.edgeOrdersRow.holds Try.pinned (OpenSpec.ofChange Rows.edgeOrdersSpec) :=
  OpenClaim.holds_of_wide 8 Try.f8 rfl rfl rfl rfl rfl rfl rfl ⟨rfl, rfl, rfl, rfl, rfl⟩ rfl rfl rfl rfl rfl (by kernel_rfl) Try.func8 (by kernel_rfl)
    (of_decide_eq_true (by kernel_rfl)) (by unfold Func.isWrapper; first | (rw [if_pos (by decide +kernel)]; kernel_rfl) | (rw [if_neg (by decide +kernel)]; exact ⟨rfl, rfl⟩))
    (fun os started H enc _ => lifted os started H enc)
theorem proved : Rows.EdgeOrdersSaid := over
end Go.Proofs.Ytjeeofakogoboaa.edgeOrders
namespace Go.Proofs.Ytjeeofakogoboaa
/-- The row, under a short name, for the claim. -/
theorem edgeOrders_holds : Rows.EdgeOrdersSaid := edgeOrders.proved
end Go.Proofs.Ytjeeofakogoboaa
