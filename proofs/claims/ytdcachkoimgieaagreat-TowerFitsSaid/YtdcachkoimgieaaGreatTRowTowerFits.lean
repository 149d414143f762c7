/- TowerFits: The law TowerFits holds: which ways fit, and which rise, is as the document says, of any ways. No conditions. -/
import Derived.Test.YtdcachkoimgieaaGreatRows
import Derived.Test.YtdcachkoimgieaaGreatTTfP
import Derived.WalkKit
import Derived.ProofKit
import Derived.OpenShut
import Derived.ShutString
import Derived.ChangeOld
import Derived.Below
import Derived.SizedLaws
import Derived.Carry
namespace Go.Proofs.YtdcachkoimgieaaGreat.towerFits
open Go.ChangeShapes Go.WideShapes Go.ChangeAt Go.RowKit
open Go.ChangeMaps (open_string shut_string)
open Go.Vm Go.Tm Go.Proofs.YtdcachkoimgieaaGreat.T
set_option linter.unusedVariables false
theorem own : ownKnob Tryz.prog.godebug = none := by kernel_rfl
theorem laidOut : laidOutB Tryz.prog = true := by kernel_rfl
set_option maxRecDepth 100000 in
theorem lifted (os : Os) (started : os.Started) (H : Type) (enc : TypeId × Value → H) :
    ReturnsInHanded {} Tryz.checked os 8 .any (Rows.towerFitsSpec.pre6 enc Tryz.prog Tryz.f8 Rows.towerFitsRow.domain false) (Rows.towerFitsSpec.post enc Tryz.prog Tryz.f8 false true false false) := by
  refine returnsInHanded_of_change_sized (C := Tryz.checked) own started (by kernel_rfl) Tryz.func8
    (ChangeSpec.witness6 (enc := enc) (C := Tryz.checked) false ⟨#[], #[.agg #[.int .u8 0, .int .u8 0], .slice none 0 0, .slice none 0 0], []⟩ 8 (by kernel_rfl) (by kernel_rfl) (by kernel_rfl) (by kernel_rfl)) ?_
  intro W base args ds gs before hval0 hW hcnd hsz0 _
  have hval : ∀ (j : Nat) t v, Tryz.f8.params[j]? = some t → args[j]? = some v → Value.okWide Tryz.prog W .any base t v := hval0
  have hW' := hW
  obtain ⟨p, q, hA0, hV, rfl, hfz, hnd⟩ := hW
  have hA : DataW.TrodAll enc Tryz.prog W 0 (fun _ => true) true Tryz.f8.params.toList args.toList ds p := hA0
  rw [Tryz.params8] at hA hval
  obtain ⟨v0, vs0, d0, ds0, p0, q0, hargs, rfl, rfl, h0, r0⟩ := trodAll_cons hA
  obtain ⟨v1, vs1, d1, ds1, p1, q1, rfl, rfl, rfl, h1, r1⟩ := trodAll_cons r0
  obtain ⟨v2, vs2, d2, ds2, p2, q2, rfl, rfl, rfl, h2, r2⟩ := trodAll_cons r1
  obtain ⟨rfl, rfl, rfl⟩ := trodAll_nil r2
  obtain rfl : args = #[v0, v1, v2] := by cases args; simp_all
  obtain ⟨rfl, rfl⟩ := trodVars_none hV
  have hlt0 : ∀ x ∈ p0, x.block < W.heap.size := fun x hx => hW'.lt x (by simp [hx])
  have hlt1 : ∀ x ∈ p1, x.block < W.heap.size := fun x hx => hW'.lt x (by simp [hx])
  have hlt2 : ∀ x ∈ p2, x.block < W.heap.size := fun x hx => hW'.lt x (by simp [hx])
  obtain ⟨x0, w0, R0⟩ := arg_ty (P := Tryz.prog) (d := 23) (t := 71) (ty := .arr 2 (.int .u8)) (by kernel_rfl) (by kernel_rfl) (hval 0 71 v0 rfl rfl) h0 (fun k hk => of_decide_eq_true (List.all_eq_true.1 hsz0 k (DataW.weights_mem_each (j := 0) (t := 71) (d := d0) (by kernel_rfl) rfl k hk)))
  obtain ⟨x1, w1, R1⟩ := arg_ty (P := Tryz.prog) (d := 23) (t := 65) (ty := .fl (.row (.prod (.int .i64) (.prod (.int .i64) (.prod (.fl (.row (.prod (.int .i64) (.prod (.row (.prod (.int .i64) (.int .i64))) (.prod (.row (.prod (.fl (.int .i64)) (.fl (.row (.prod (.int .i64) (.prod (.int .i64) (.prod (.int .i64) (.prod (.int .i64) .bool)))))))) (.row (.prod (.int .i64) (.prod (.int .i64) (.prod (.int .i64) (.int .i64)))))))))) (.fl (.row (.prod (.int .i64) (.prod (.row (.prod (.int .i64) (.int .i64))) (.prod (.row (.prod (.fl (.int .i64)) (.fl (.row (.prod (.int .i64) (.prod (.int .i64) (.prod (.int .i64) (.prod (.int .i64) .bool)))))))) (.row (.prod (.int .i64) (.prod (.int .i64) (.prod (.int .i64) (.int .i64))))))))))))))) (by kernel_rfl) (by kernel_rfl) (hval 1 65 v1 rfl rfl) h1 (fun k hk => of_decide_eq_true (List.all_eq_true.1 hsz0 k (DataW.weights_mem_each (j := 1) (t := 65) (d := d1) (by kernel_rfl) rfl k hk)))
  obtain ⟨x2, w2, R2⟩ := arg_ty (P := Tryz.prog) (d := 23) (t := 65) (ty := .fl (.row (.prod (.int .i64) (.prod (.int .i64) (.prod (.fl (.row (.prod (.int .i64) (.prod (.row (.prod (.int .i64) (.int .i64))) (.prod (.row (.prod (.fl (.int .i64)) (.fl (.row (.prod (.int .i64) (.prod (.int .i64) (.prod (.int .i64) (.prod (.int .i64) .bool)))))))) (.row (.prod (.int .i64) (.prod (.int .i64) (.prod (.int .i64) (.int .i64)))))))))) (.fl (.row (.prod (.int .i64) (.prod (.row (.prod (.int .i64) (.int .i64))) (.prod (.row (.prod (.fl (.int .i64)) (.fl (.row (.prod (.int .i64) (.prod (.int .i64) (.prod (.int .i64) (.prod (.int .i64) .bool)))))))) (.row (.prod (.int .i64) (.prod (.int .i64) (.prod (.int .i64) (.int .i64))))))))))))))) (by kernel_rfl) (by kernel_rfl) (hval 2 65 v2 rfl rfl) h2 (fun k hk => of_decide_eq_true (List.all_eq_true.1 hsz0 k (DataW.weights_mem_each (j := 2) (t := 65) (d := d2) (by kernel_rfl) rfl k hk)))
  have hl := towerFits_pure x0 x1 x2 w0 w1 w2
  have hfn : (withylaw27_TowerFits).fn (x0, x1, x2, ()) = ((withylaw27_TowerFits_r x0 x1 x2).1, ((withylaw27_TowerFits_r x0 x1 x2).2, ())) := rfl
  refine (calls_law (w := W) (vals := #[v0, v1, v2]) withylaw27_TowerFits_ok (f := 8) rfl rfl rfl rfl (x0, x1, x2, ()) _ (by rfl) rfl ((congrArg Prod.fst hfn).trans (by rw [hl])) (by rw [hfn, hl]; rfl) rfl (fun t ht => by match t, ht with | 0, _ => exact R0 _ _ | 1, _ => exact R1 _ _ | 2, _ => exact R2 _ _)).mono fun e W' ⟨he, bel⟩ => ?_
  subst he
  exact ⟨_, rfl, _, _, _, [], _, [], hW', trodAll_mk1 (shut_bool Tryz.underlying4 _), (trodAll_cons_mk (Below.trod laidOut (by kernel_rfl) (of_decide_eq_true (by kernel_rfl)) h0 bel hlt0) (trodAll_cons_mk (Below.trod laidOut (by kernel_rfl) (of_decide_eq_true (by kernel_rfl)) h1 bel hlt1) (trodAll_cons_mk (Below.trod laidOut (by kernel_rfl) (of_decide_eq_true (by kernel_rfl)) h2 bel hlt2) trodAll_mk0))), rfl, bel.frame _, fun h => by cases h⟩
theorem over : Rows.towerFitsRow.holds Tryz.pinned (OpenSpec.ofChange Rows.towerFitsSpec) :=
  OpenClaim.holds_of_wide 8 Tryz.f8 rfl rfl rfl rfl rfl rfl rfl ⟨rfl, rfl, rfl, rfl, rfl⟩ rfl rfl rfl rfl rfl (by kernel_rfl) Tryz.func8 (by kernel_rfl)
    (of_decide_eq_true (by kernel_rfl)) (by unfold Func.isWrapper; first | (rw [if_pos (by decide +kernel)]; kernel_rfl) | (rw [if_neg (by decide +kernel)]; exact ⟨rfl, rfl⟩))
    (fun os started H enc _ => lifted os started H enc)
theorem proved : Rows.TowerFitsSaid := over
end Go.Proofs.YtdcachkoimgieaaGreat.towerFits
namespace Go.Proofs.YtdcachkoimgieaaGreat
/-- The row, under a short name, for the claim. -/
theorem towerFits_holds : Rows.TowerFitsSaid := towerFits.proved
end Go.Proofs.YtdcachkoimgieaaGreat
