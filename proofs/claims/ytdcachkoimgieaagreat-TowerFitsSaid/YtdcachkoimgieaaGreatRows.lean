/-
  No cell of these rows narrows 'for every input' (looked for: loops, veiled, ifaces, maps, wideKeys, modest, calm, conditions, laid).
  DERIVED. THE GIVEN ROWS OF THIS SEAT. 6 by the template 'for every input the law returns true; each argument reads behind the call as it read before'; 0 by the template 'total and deterministic' (their statements: YtdcachkoimgieaaGreatTotals.lean).
  GIVEN WITH THE SEED: the statements are not yours to turn. If you find one false, say at which input.
  Laid BY PROGRAM, IN A SANDBOX (cutbox-rows.mjs): the forced cells as the released guide's own fill.sh prints them over the translation 510e1c60b0d66ec7… (all of the seat's roots in one cut). By AI agents, Wed Nov 11 2026. No macro, syntax, notation, axiom, sorry.
-/
import Derived.Test.YtdcachkoimgieaaGreatChecked
import GoSem.Claim
import GoSem.ClaimJoined
import GoSem.ClaimMapViews
import Derived.JoinedTies
import Derived.KernelRfl
namespace Go.Proofs.YtdcachkoimgieaaGreat
/- THE CELL 'sum', in the pinned program and in every row, IS THE sha256 OF THE DUMP (.gsa) THAT YtdcachkoimgieaaGreatProg.lean LOADS. Nothing in Lean hashes anything: it is a label: what it is worth is what the hold of that sum in a sandbox is worth. -/
noncomputable def Tryz.pinned : Pinned := { name := "ytdcachkoimgieaagreat", sum := "510e1c60b0d66ec78458c0f70e19ddd1a908537b4d8afe6c87964003efb973e4", checked := Tryz.checked }
namespace Rows
def none {H : Type} : Left H := { results := [], args := [] }

/-- 'withylaw22.CoreNew': WHATEVER THE INPUT: true; the input reads as it did. -/
def coreNewSpec : ChangeSpec := { name := "coreNew", fn := fun _ => fun
  | [d1, d2] => { results := [.lit (.bool true)], args := [d1, d2] }
  | _ => none }
def coreNewRow : OpenClaim := { program := "ytdcachkoimgieaagreat", sum := "510e1c60b0d66ec78458c0f70e19ddd1a908537b4d8afe6c87964003efb973e4", func := "withy/withylaw22.CoreNew", spec := "coreNew", unfollowed := true, recurses := true, plainKeys := false, apart := false }
def CoreNewSaid : Prop := coreNewRow.holds Tryz.pinned (OpenSpec.ofChange coreNewSpec)

/-- ITS FALSE NEIGHBOUR: 'it returns false'. Refute it at one input. -/
def coreNewWrong : ChangeSpec := { name := "coreNew", fn := fun _ => fun
  | [d1, d2] => { results := [.lit (.bool false)], args := [d1, d2] }
  | _ => none }
def CoreNewWrongFalsely : Prop := coreNewRow.holds Tryz.pinned (OpenSpec.ofChange coreNewWrong)

/-- 'withylaw22.CoreGrows': WHATEVER THE INPUT: true; the input reads as it did. -/
def coreGrowsSpec : ChangeSpec := { name := "coreGrows", fn := fun _ => fun
  | [d1, d2, d3] => { results := [.lit (.bool true)], args := [d1, d2, d3] }
  | _ => none }
def coreGrowsRow : OpenClaim := { program := "ytdcachkoimgieaagreat", sum := "510e1c60b0d66ec78458c0f70e19ddd1a908537b4d8afe6c87964003efb973e4", func := "withy/withylaw22.CoreGrows", spec := "coreGrows", inPlace := ["slices.overlaps[withy/api.Tie]"], unfollowed := true, recurses := true, plainKeys := false, apart := false }
def CoreGrowsSaid : Prop := coreGrowsRow.holds Tryz.pinned (OpenSpec.ofChange coreGrowsSpec)

/-- ITS FALSE NEIGHBOUR: 'it returns false'. Refute it at one input. -/
def coreGrowsWrong : ChangeSpec := { name := "coreGrows", fn := fun _ => fun
  | [d1, d2, d3] => { results := [.lit (.bool false)], args := [d1, d2, d3] }
  | _ => none }
def CoreGrowsWrongFalsely : Prop := coreGrowsRow.holds Tryz.pinned (OpenSpec.ofChange coreGrowsWrong)

/-- 'withylaw22.CoreDeaf': WHATEVER THE INPUT: true; the input reads as it did. -/
def coreDeafSpec : ChangeSpec := { name := "coreDeaf", fn := fun _ => fun
  | [d1, d2, d3] => { results := [.lit (.bool true)], args := [d1, d2, d3] }
  | _ => none }
def coreDeafRow : OpenClaim := { program := "ytdcachkoimgieaagreat", sum := "510e1c60b0d66ec78458c0f70e19ddd1a908537b4d8afe6c87964003efb973e4", func := "withy/withylaw22.CoreDeaf", spec := "coreDeaf", inPlace := ["slices.overlaps[withy/api.Tie]"], unfollowed := true, recurses := true, plainKeys := false, apart := false }
def CoreDeafSaid : Prop := coreDeafRow.holds Tryz.pinned (OpenSpec.ofChange coreDeafSpec)

/-- ITS FALSE NEIGHBOUR: 'it returns false'. Refute it at one input. -/
def coreDeafWrong : ChangeSpec := { name := "coreDeaf", fn := fun _ => fun
  | [d1, d2, d3] => { results := [.lit (.bool false)], args := [d1, d2, d3] }
  | _ => none }
def CoreDeafWrongFalsely : Prop := coreDeafRow.holds Tryz.pinned (OpenSpec.ofChange coreDeafWrong)

/-- 'withylaw22.CoreSteps': WHATEVER THE INPUT: true; the input reads as it did. -/
def coreStepsSpec : ChangeSpec := { name := "coreSteps", fn := fun _ => fun
  | [d1, d2, d3] => { results := [.lit (.bool true)], args := [d1, d2, d3] }
  | _ => none }
def coreStepsRow : OpenClaim := { program := "ytdcachkoimgieaagreat", sum := "510e1c60b0d66ec78458c0f70e19ddd1a908537b4d8afe6c87964003efb973e4", func := "withy/withylaw22.CoreSteps", spec := "coreSteps", inPlace := ["slices.overlaps[withy/api.Tie]"], unfollowed := true, recurses := true, plainKeys := false, apart := false }
def CoreStepsSaid : Prop := coreStepsRow.holds Tryz.pinned (OpenSpec.ofChange coreStepsSpec)

/-- ITS FALSE NEIGHBOUR: 'it returns false'. Refute it at one input. -/
def coreStepsWrong : ChangeSpec := { name := "coreSteps", fn := fun _ => fun
  | [d1, d2, d3] => { results := [.lit (.bool false)], args := [d1, d2, d3] }
  | _ => none }
def CoreStepsWrongFalsely : Prop := coreStepsRow.holds Tryz.pinned (OpenSpec.ofChange coreStepsWrong)

/-- 'withylaw27.TowerWays': WHATEVER THE INPUT: true; the input reads as it did. -/
def towerWaysSpec : ChangeSpec := { name := "towerWays", fn := fun _ => fun
  | [d1, d2, d3] => { results := [.lit (.bool true)], args := [d1, d2, d3] }
  | _ => none }
def towerWaysRow : OpenClaim := { program := "ytdcachkoimgieaagreat", sum := "510e1c60b0d66ec78458c0f70e19ddd1a908537b4d8afe6c87964003efb973e4", func := "withy/withylaw27.TowerWays", spec := "towerWays", inPlace := ["slices.overlaps[withy/api.Tie]"], unfollowed := true, recurses := true, plainKeys := false, apart := false }
def TowerWaysSaid : Prop := towerWaysRow.holds Tryz.pinned (OpenSpec.ofChange towerWaysSpec)

/-- ITS FALSE NEIGHBOUR: 'it returns false'. Refute it at one input. -/
def towerWaysWrong : ChangeSpec := { name := "towerWays", fn := fun _ => fun
  | [d1, d2, d3] => { results := [.lit (.bool false)], args := [d1, d2, d3] }
  | _ => none }
def TowerWaysWrongFalsely : Prop := towerWaysRow.holds Tryz.pinned (OpenSpec.ofChange towerWaysWrong)

/-- 'withylaw27.TowerFits': WHATEVER THE INPUT: true; the input reads as it did. -/
def towerFitsSpec : ChangeSpec := { name := "towerFits", fn := fun _ => fun
  | [d1, d2, d3] => { results := [.lit (.bool true)], args := [d1, d2, d3] }
  | _ => none }
def towerFitsRow : OpenClaim := { program := "ytdcachkoimgieaagreat", sum := "510e1c60b0d66ec78458c0f70e19ddd1a908537b4d8afe6c87964003efb973e4", func := "withy/withylaw27.TowerFits", spec := "towerFits", inPlace := ["slices.overlaps[withy/api.Tie]"], unfollowed := true, recurses := true, plainKeys := false, apart := false }
def TowerFitsSaid : Prop := towerFitsRow.holds Tryz.pinned (OpenSpec.ofChange towerFitsSpec)

/-- ITS FALSE NEIGHBOUR: 'it returns false'. Refute it at one input. -/
def towerFitsWrong : ChangeSpec := { name := "towerFits", fn := fun _ => fun
  | [d1, d2, d3] => { results := [.lit (.bool false)], args := [d1, d2, d3] }
  | _ => none }
def TowerFitsWrongFalsely : Prop := towerFitsRow.holds Tryz.pinned (OpenSpec.ofChange towerFitsWrong)

/- THE SECOND FORM. 'bulk': how many values and letters a reading holds, each counted each time it is reached (what is shared counts as often as it is met; a slice's spare places count too). A statement '..UptoSaid' is the law's where the arguments, and the package variables that the reading takes, are together of bulk at most 1048576: NARROWER than '..Said'. Prove '..Said' where nothing that the law and all that it calls make is longer than what came in: it says more and counts as full. Else prove '..UptoSaid'. A law counts once. -/
mutual
def uptoBulk {H : Type} : DataW H → Nat
  | .lit (.string bytes) => bytes.length + 1
  | .lit _ => 1
  | .nil => 1
  | .ptr d => uptoBulk d + 1
  | .slice elems spare => uptoBulkAll elems + uptoBulkAll spare + 1
  | .agg parts => uptoBulkAll parts + 1
  | .iface _ d => uptoBulk d + 1
  | .map entries => uptoBulkEntries entries + 1
  | .held _ => 1
def uptoBulkAll {H : Type} : List (DataW H) → Nat
  | [] => 0
  | d :: r => uptoBulk d + uptoBulkAll r
def uptoBulkEntries {H : Type} : List (Lit × DataW H) → Nat
  | [] => 0
  | x :: r => uptoBulkEntry x + uptoBulkEntries r
def uptoBulkEntry {H : Type} : Lit × DataW H → Nat
  | (.string bytes, d) => bytes.length + uptoBulk d + 1
  | (_, d) => uptoBulk d + 1
 end
def uptoSmall : (H : Type) → List (DataW H) → Bool := fun _ ds => decide (uptoBulkAll ds ≤ 1048576)
def OpenSpec.upto (s : _root_.Go.ChangeSpec) : _root_.Go.OpenSpec := { _root_.Go.OpenSpec.ofChange s with cond := some uptoSmall }

/-- 'withylaw22.CoreNew', WHERE WHAT IT READS IS OF BULK AT MOST 1048576: true; the input reads as it did. -/
def coreNewUptoRow : OpenClaim := { program := "ytdcachkoimgieaagreat", sum := "510e1c60b0d66ec78458c0f70e19ddd1a908537b4d8afe6c87964003efb973e4", func := "withy/withylaw22.CoreNew", spec := "coreNew", unfollowed := true, recurses := true, plainKeys := false, apart := false, narrowed := true }
def CoreNewUptoSaid : Prop := coreNewUptoRow.holds Tryz.pinned (OpenSpec.upto coreNewSpec)

/-- 'withylaw22.CoreGrows', WHERE WHAT IT READS IS OF BULK AT MOST 1048576: true; the input reads as it did. -/
def coreGrowsUptoRow : OpenClaim := { program := "ytdcachkoimgieaagreat", sum := "510e1c60b0d66ec78458c0f70e19ddd1a908537b4d8afe6c87964003efb973e4", func := "withy/withylaw22.CoreGrows", spec := "coreGrows", inPlace := ["slices.overlaps[withy/api.Tie]"], unfollowed := true, recurses := true, plainKeys := false, apart := false, narrowed := true }
def CoreGrowsUptoSaid : Prop := coreGrowsUptoRow.holds Tryz.pinned (OpenSpec.upto coreGrowsSpec)

/-- 'withylaw22.CoreDeaf', WHERE WHAT IT READS IS OF BULK AT MOST 1048576: true; the input reads as it did. -/
def coreDeafUptoRow : OpenClaim := { program := "ytdcachkoimgieaagreat", sum := "510e1c60b0d66ec78458c0f70e19ddd1a908537b4d8afe6c87964003efb973e4", func := "withy/withylaw22.CoreDeaf", spec := "coreDeaf", inPlace := ["slices.overlaps[withy/api.Tie]"], unfollowed := true, recurses := true, plainKeys := false, apart := false, narrowed := true }
def CoreDeafUptoSaid : Prop := coreDeafUptoRow.holds Tryz.pinned (OpenSpec.upto coreDeafSpec)

/-- 'withylaw22.CoreSteps', WHERE WHAT IT READS IS OF BULK AT MOST 1048576: true; the input reads as it did. -/
def coreStepsUptoRow : OpenClaim := { program := "ytdcachkoimgieaagreat", sum := "510e1c60b0d66ec78458c0f70e19ddd1a908537b4d8afe6c87964003efb973e4", func := "withy/withylaw22.CoreSteps", spec := "coreSteps", inPlace := ["slices.overlaps[withy/api.Tie]"], unfollowed := true, recurses := true, plainKeys := false, apart := false, narrowed := true }
def CoreStepsUptoSaid : Prop := coreStepsUptoRow.holds Tryz.pinned (OpenSpec.upto coreStepsSpec)

/-- 'withylaw27.TowerWays', WHERE WHAT IT READS IS OF BULK AT MOST 1048576: true; the input reads as it did. -/
def towerWaysUptoRow : OpenClaim := { program := "ytdcachkoimgieaagreat", sum := "510e1c60b0d66ec78458c0f70e19ddd1a908537b4d8afe6c87964003efb973e4", func := "withy/withylaw27.TowerWays", spec := "towerWays", inPlace := ["slices.overlaps[withy/api.Tie]"], unfollowed := true, recurses := true, plainKeys := false, apart := false, narrowed := true }
def TowerWaysUptoSaid : Prop := towerWaysUptoRow.holds Tryz.pinned (OpenSpec.upto towerWaysSpec)

/-- 'withylaw27.TowerFits', WHERE WHAT IT READS IS OF BULK AT MOST 1048576: true; the input reads as it did. -/
def towerFitsUptoRow : OpenClaim := { program := "ytdcachkoimgieaagreat", sum := "510e1c60b0d66ec78458c0f70e19ddd1a908537b4d8afe6c87964003efb973e4", func := "withy/withylaw27.TowerFits", spec := "towerFits", inPlace := ["slices.overlaps[withy/api.Tie]"], unfollowed := true, recurses := true, plainKeys := false, apart := false, narrowed := true }
def TowerFitsUptoSaid : Prop := towerFitsUptoRow.holds Tryz.pinned (OpenSpec.upto towerFitsSpec)

end Rows
end Go.Proofs.YtdcachkoimgieaaGreat
