/- BeatTicks: whatever the beat, the law's function answers true, and the beat reads as it did. No conditions. -/
import Derived.Test.YtjeeofakogoboaaRows
import Derived.Test.YtjeeofakogoboaaVBeat
import Derived.WalkKit
import Derived.ProofKit
import Derived.OpenShut
import Derived.ShutString
import Derived.ChangeOld
import Derived.Below
import Derived.SizedLaws
import Derived.Carry
namespace Go.Proofs.Ytjeeofakogoboaa.beatTicks
open Go.ChangeShapes Go.WideShapes Go.ChangeAt Go.RowKit
open Go.ChangeMaps (open_string shut_string)
open Go.Vm
set_option linter.unusedVariables false
theorem own : ownKnob Try.prog.godebug = none := by kernel_rfl
/-- A law's function that keeps nothing: what it returns, and that the caller's world is as it was. -/
theorem calls_of_fnC {P : Program} {f : FuncId} {args : List D} {b : Bool} (h : FnC P f [] args (vBool b) []) {w : World} {vals : Array Value} {S : Nat → Nat → Prop} (hS : ∀ b o, S b o → b < w.heap.size)
    (hr : RelDs (fun _ => none) [] S w args vals.toList) : Calls P f vals w fun e w' => e = .returned (.bool b) ∧ Below w.heap.size w w' := by
  refine (h.2 (fun _ => none) S w vals (fun b => w.heap.size ≤ b) ⟨fun id sz ver cs fz h => by simp at h, fun id id' _ _ _ _ _ _ _ _ _ _ _ h => by simp at h, hS⟩ (fun b hb => hb) hr).mono ?_
  rintro e w' ⟨v, β', S', rfl, h1, h2, h3⟩
  refine ⟨?_, h3.evo.os, h3.evo.tape, h3.evo.output, h3.evo.size, fun k hk => h3.evo.block k hk (by omega)⟩
  have : RelD β' [] S' w' (.v (.one (.sc (.bool b)))) v := h1
  rw [rel_bool this]
theorem laidOut : laidOutB Try.prog = true := by kernel_rfl
theorem agg_of {P : Program} {w : World} {r : Reach} {base : Nat} {t : TypeId} {v : Value} {fs : Array Field} (ht : P.underlying t = some (.struct fs)) (h : Value.okWide P w r base t v) : ∃ cs, v = .agg cs ∧ cs.size = P.cellsOf t := by
  unfold Value.okWide at h
  rw [ht] at h
  obtain ⟨cs, h1, h2, _⟩ := h
  exact ⟨cs, h1, h2⟩
set_option maxRecDepth 100000 in
theorem lifted (os : Os) (started : os.Started) (H : Type) (enc : TypeId × Value → H) :
    ReturnsInHanded {} Try.checked os 4 .any (Rows.beatTicksSpec.pre6 enc Try.prog Try.f4 Rows.beatTicksRow.domain false) (Rows.beatTicksSpec.post enc Try.prog Try.f4 false true false false) := by
  refine returnsInHanded_of_change_sized (C := Try.checked) own started (by kernel_rfl) Try.func4
    (ChangeSpec.witness6 (enc := enc) (C := Try.checked) false ⟨#[], #[.agg #[.int .i64 0, .int .i64 0]], []⟩ 8 (by kernel_rfl) (by kernel_rfl) (by kernel_rfl) (by kernel_rfl)) ?_
  intro W base args ds gs before hval0 hW hcnd hsz0 _
  have hval : ∀ (j : Nat) t v, Try.f4.params[j]? = some t → args[j]? = some v → Value.okWide Try.prog W .any base t v := hval0
  have hW' := hW
  obtain ⟨p, q, hA0, hV, rfl, hfz, hnd⟩ := hW
  have hA : DataW.TrodAll enc Try.prog W 0 (fun _ => true) true Try.f4.params.toList args.toList ds p := hA0
  rw [Try.params4] at hA hval
  obtain ⟨v0, vs0, d0, ds0, p0, q0, hargs, rfl, rfl, h0, r0⟩ := trodAll_cons hA
  obtain ⟨rfl, rfl, rfl⟩ := trodAll_nil r0
  obtain rfl : args = #[v0] := by cases args; simp_all
  obtain ⟨rfl, rfl⟩ := trodVars_none hV
  have h0k := h0
  have hlt : ∀ x ∈ p0, x.block < W.heap.size := fun x hx => by simpa using hW'.lt x (by simpa using hx)
  obtain ⟨n0, hf0⟩ := h0
  obtain ⟨y0, y1, m0, e0, l0, t0, t1⟩ := trod_struct2 Try.underlying34 hf0
  simp only at t0 t1
  obtain ⟨z0, u0, _, w0⟩ := DataW.trod_int Try.underlying3 t0
  obtain ⟨z1, u1, _, w1⟩ := DataW.trod_int Try.underlying3 t1
  obtain ⟨cs, rfl, hcs⟩ := agg_of Try.underlying34 (hval 0 34 v0 rfl rfl)
  have hc3 : Try.prog.cellsOf 3 = 1 := by kernel_rfl
  have hc34 : Try.prog.cellsOf 34 = 2 := by kernel_rfl
  simp only [Value.cells] at u0 u1 l0
  rw [hc3] at u0 u1
  rw [hc34] at l0
  have hl : cs.toList = [.int .i64 z0, .int .i64 z1] := by
    match hq : cs.toList, l0 with
    | [a, b], _ => rw [hq] at u0 u1; simp at u0 u1; rw [u0, u1]
  have bel0 := calls_of_fnC (w := W) (vals := #[.agg cs]) (S := fun _ _ => False) (V.ticks_ok z0 z1) (fun _ _ h => h.elim) ⟨_, _, rfl, ⟨cs, rfl, by rw [hl]; simp only [RelL, RelC, RelP]; exact ⟨_, _, rfl, ⟨rfl, rfl⟩, _, _, rfl, ⟨rfl, rfl⟩, rfl⟩⟩, rfl⟩
  refine bel0.mono fun e W' ⟨he, bel⟩ => ?_
  subst he
  exact ⟨_, rfl, _, _, _, [], _, [], hW', trodAll_mk1 (shut_bool Try.underlying4 _), trodAll_cons_mk (Below.trod laidOut (by kernel_rfl) (of_decide_eq_true (by kernel_rfl)) h0k bel hlt) trodAll_mk0, rfl, bel.frame _, fun h => by cases h⟩
theorem over : Rows.beatTicksRow.holds Try.pinned (OpenSpec.ofChange Rows.beatTicksSpec) :=
  OpenClaim.holds_of_wide 4 Try.f4 rfl rfl rfl rfl rfl rfl rfl ⟨rfl, rfl, rfl, rfl, rfl⟩ rfl rfl rfl rfl rfl (by kernel_rfl) Try.func4 (by kernel_rfl)
    (of_decide_eq_true (by kernel_rfl)) (by unfold Func.isWrapper; first | (rw [if_pos (by decide +kernel)]; kernel_rfl) | (rw [if_neg (by decide +kernel)]; exact ⟨rfl, rfl⟩))
    (fun os started H enc _ => lifted os started H enc)
theorem proved : Rows.BeatTicksSaid := over
end Go.Proofs.Ytjeeofakogoboaa.beatTicks
namespace Go.Proofs.Ytjeeofakogoboaa
/-- The row, under a short name, for the claim. -/
theorem beatTicks_holds : Rows.BeatTicksSaid := beatTicks.proved
end Go.Proofs.Ytjeeofakogoboaa
