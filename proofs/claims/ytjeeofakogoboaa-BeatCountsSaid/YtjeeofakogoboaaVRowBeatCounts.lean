/- BeatCounts: whatever the signs, the law's function answers true, and the signs read as they did. No conditions. -/
import Derived.Test.YtjeeofakogoboaaRows
import Derived.Test.YtjeeofakogoboaaVBeat3
import Derived.WalkKit
import Derived.ProofKit
import Derived.OpenShut
import Derived.ShutString
import Derived.ChangeOld
import Derived.Below
import Derived.SizedLaws
import Derived.Carry
namespace Go.Proofs.Ytjeeofakogoboaa.beatCounts
open Go.ChangeShapes Go.WideShapes Go.ChangeAt Go.RowKit
open Go.ChangeMaps (open_string shut_string)
open Go.Vm Go.Proofs.Ytjeeofakogoboaa.V
set_option linter.unusedVariables false
theorem own : ownKnob Try.prog.godebug = none := by kernel_rfl
theorem laidOut : laidOutB Try.prog = true := by kernel_rfl
set_option maxRecDepth 100000 in
theorem lifted (os : Os) (started : os.Started) (H : Type) (enc : TypeId × Value → H) :
    ReturnsInHanded {} Try.checked os 5 .any (Rows.beatCountsSpec.pre6 enc Try.prog Try.f5 Rows.beatCountsRow.domain false) (Rows.beatCountsSpec.post enc Try.prog Try.f5 false true false false) := by
  refine returnsInHanded_of_change_sized (C := Try.checked) own started (by kernel_rfl) Try.func5
    (ChangeSpec.witness6 (enc := enc) (C := Try.checked) false ⟨#[], #[.slice none 0 0], []⟩ 8 (by kernel_rfl) (by kernel_rfl) (by kernel_rfl) (by kernel_rfl)) ?_
  intro W base args ds gs before hval0 hW hcnd hsz0 _
  have hval : ∀ (j : Nat) t v, Try.f5.params[j]? = some t → args[j]? = some v → Value.okWide Try.prog W .any base t v := hval0
  have hW' := hW
  obtain ⟨p, q, hA0, hV, rfl, hfz, hnd⟩ := hW
  have hA : DataW.TrodAll enc Try.prog W 0 (fun _ => true) true Try.f5.params.toList args.toList ds p := hA0
  rw [Try.params5] at hA hval
  obtain ⟨v0, vs0, d0, ds0, p0, q0, hargs, rfl, rfl, h0, r0⟩ := trodAll_cons hA
  obtain ⟨rfl, rfl, rfl⟩ := trodAll_nil r0
  obtain rfl : args = #[v0] := by cases args; simp_all
  obtain ⟨rfl, rfl⟩ := trodVars_none hV
  have hlt0 : ∀ x ∈ p0, x.block < W.heap.size := fun x hx => hW'.lt x (by simp [hx])
  have hp4 : 0 < Try.prog.cellsOf 4 := by have : Try.prog.cellsOf 4 = 1 := by kernel_rfl
                                          omega
  obtain ⟨ccs, ⟨L, hL, rfl⟩, R0⟩ := arg_one (opens_slice Try.underlying43 (opens_bool Try.underlying4) hp4) (okWide_slice Try.underlying43 (hval 0 43 v0 rfl rfl)) h0
  obtain ⟨Z, rfl⟩ := map_of (f := fun b => [bC b]) fun g hg => (hL g hg).1
  have R1 := R0 _ rfl
  rw [flat_one, List.length_map] at R1
  have hf := counts_ok Z
  have hr : RelDs (fun _ => none) [] (Sb W) W [slD Z] [v0] := ⟨_, _, rfl, R1, rfl⟩
  refine (calls_of_fnC (w := W) (vals := #[v0]) hf hr).mono fun e W' ⟨he, bel⟩ => ?_
  subst he
  exact ⟨_, rfl, _, _, _, [], _, [], hW', trodAll_mk1 (shut_bool Try.underlying4 _), (trodAll_cons_mk (Below.trod laidOut (by kernel_rfl) (of_decide_eq_true (by kernel_rfl)) h0 bel hlt0) trodAll_mk0), rfl, bel.frame _, fun h => by cases h⟩
theorem over : Rows.beatCountsRow.holds Try.pinned (OpenSpec.ofChange Rows.beatCountsSpec) :=
  OpenClaim.holds_of_wide 5 Try.f5 rfl rfl rfl rfl rfl rfl rfl ⟨rfl, rfl, rfl, rfl, rfl⟩ rfl rfl rfl rfl rfl (by kernel_rfl) Try.func5 (by kernel_rfl)
    (of_decide_eq_true (by kernel_rfl)) (by unfold Func.isWrapper; first | (rw [if_pos (by decide +kernel)]; kernel_rfl) | (rw [if_neg (by decide +kernel)]; exact ⟨rfl, rfl⟩))
    (fun os started H enc _ => lifted os started H enc)
theorem proved : Rows.BeatCountsSaid := over
end Go.Proofs.Ytjeeofakogoboaa.beatCounts
namespace Go.Proofs.Ytjeeofakogoboaa
/-- The row, under a short name, for the claim. -/
theorem beatCounts_holds : Rows.BeatCountsSaid := beatCounts.proved
end Go.Proofs.Ytjeeofakogoboaa
