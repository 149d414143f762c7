/- BeatSilence: whatever the gaps, the law's function answers true, and the gaps read as they did. No conditions. -/
import Derived.Test.YtjeeofakogoboaaRows
import Derived.Test.YtjeeofakogoboaaVBeat5
import Derived.WalkKit
import Derived.ProofKit
import Derived.OpenShut
import Derived.ShutString
import Derived.ChangeOld
import Derived.Below
import Derived.SizedLaws
import Derived.Carry
namespace Go.Proofs.Ytjeeofakogoboaa.beatSilence
open Go.ChangeShapes Go.WideShapes Go.ChangeAt Go.RowKit
open Go.ChangeMaps (open_string shut_string)
open Go.Vm Go.Proofs.Ytjeeofakogoboaa.V
set_option linter.unusedVariables false
theorem own : ownKnob Try.prog.godebug = none := by kernel_rfl
theorem laidOut : laidOutB Try.prog = true := by kernel_rfl
set_option maxRecDepth 100000 in
theorem lifted (os : Os) (started : os.Started) (H : Type) (enc : TypeId × Value → H) :
    ReturnsInHanded {} Try.checked os 6 .any (Rows.beatSilenceSpec.pre6 enc Try.prog Try.f6 Rows.beatSilenceRow.domain false) (Rows.beatSilenceSpec.post enc Try.prog Try.f6 false true false false) := by
  refine returnsInHanded_of_change_sized (C := Try.checked) own started (by kernel_rfl) Try.func6
    (ChangeSpec.witness6 (enc := enc) (C := Try.checked) false ⟨#[], #[.slice none 0 0], []⟩ 8 (by kernel_rfl) (by kernel_rfl) (by kernel_rfl) (by kernel_rfl)) ?_
  intro W base args ds gs before hval0 hW hcnd hsz0 _
  have hval : ∀ (j : Nat) t v, Try.f6.params[j]? = some t → args[j]? = some v → Value.okWide Try.prog W .any base t v := hval0
  have hW' := hW
  obtain ⟨p, q, hA0, hV, rfl, hfz, hnd⟩ := hW
  have hA : DataW.TrodAll enc Try.prog W 0 (fun _ => true) true Try.f6.params.toList args.toList ds p := hA0
  rw [Try.params6] at hA hval
  obtain ⟨v0, vs0, d0, ds0, p0, q0, hargs, rfl, rfl, h0, r0⟩ := trodAll_cons hA
  obtain ⟨rfl, rfl, rfl⟩ := trodAll_nil r0
  obtain rfl : args = #[v0] := by cases args; simp_all
  obtain ⟨rfl, rfl⟩ := trodVars_none hV
  have hlt0 : ∀ x ∈ p0, x.block < W.heap.size := fun x hx => hW'.lt x (by simp [hx])
  have hp5 : 0 < Try.prog.cellsOf 5 := by have : Try.prog.cellsOf 5 = 1 := by kernel_rfl
                                          omega
  obtain ⟨ccs, ⟨L, hL, rfl⟩, R0⟩ := arg_one (opens_slice Try.underlying47 (opens_int Try.underlying5) hp5) (okWide_slice Try.underlying47 (hval 0 47 v0 rfl rfl)) h0
  obtain ⟨Z, rfl⟩ := map_of (f := fun n : {n : Nat // n ≤ 255} => [uC n.1]) fun g hg => by
    obtain ⟨z, rfl, w⟩ := (hL g hg).1
    obtain ⟨b0, b1⟩ := bounds_u8 w
    obtain ⟨k, rfl⟩ := Int.eq_ofNat_of_zero_le b0
    exact ⟨⟨k, by omega⟩, rfl⟩
  have e1 : (List.map (fun n : {n : Nat // n ≤ 255} => [uC n.1]) Z).flatten = (Z.map (·.1)).map uC := by
    rw [List.map_map]
    exact flat_one (f := fun n : {n : Nat // n ≤ 255} => uC n.1) Z
  have R1 : RelD (fun _ => none) [] (Sb W) W (slU (Z.map (·.1))) v0 := by
    have h := R0 _ rfl
    rw [e1, List.length_map] at h
    unfold slU
    rw [List.length_map]
    exact h
  have hf := silence_ok (Z.map (·.1)) (fun g hg => by obtain ⟨z, _, rfl⟩ := List.mem_map.1 hg; exact z.2)
  have hr : RelDs (fun _ => none) [] (Sb W) W [slU (Z.map (·.1))] [v0] := ⟨_, _, rfl, R1, rfl⟩
  refine (calls_of_fnC (w := W) (vals := #[v0]) hf hr).mono fun e W' ⟨he, bel⟩ => ?_
  subst he
  exact ⟨_, rfl, _, _, _, [], _, [], hW', trodAll_mk1 (shut_bool Try.underlying4 _), (trodAll_cons_mk (Below.trod laidOut (by kernel_rfl) (of_decide_eq_true (by kernel_rfl)) h0 bel hlt0) trodAll_mk0), rfl, bel.frame _, fun h => by cases h⟩
theorem over : Rows.beatSilenceRow.holds Try.pinned (OpenSpec.ofChange Rows.beatSilenceSpec) :=
  OpenClaim.holds_of_wide 6 Try.f6 rfl rfl rfl rfl rfl rfl rfl ⟨rfl, rfl, rfl, rfl, rfl⟩ rfl rfl rfl rfl rfl (by kernel_rfl) Try.func6 (by kernel_rfl)
    (of_decide_eq_true (by kernel_rfl)) (by unfold Func.isWrapper; first | (rw [if_pos (by decide +kernel)]; kernel_rfl) | (rw [if_neg (by decide +kernel)]; exact ⟨rfl, rfl⟩))
    (fun os started H enc _ => lifted os started H enc)
theorem proved : Rows.BeatSilenceSaid := over
end Go.Proofs.Ytjeeofakogoboaa.beatSilence
namespace Go.Proofs.Ytjeeofakogoboaa
/-- The row, under a short name, for the claim. -/
theorem beatSilence_holds : Rows.BeatSilenceSaid := beatSilence.proved
end Go.Proofs.Ytjeeofakogoboaa
