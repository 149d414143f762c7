/-
  No cell of these rows narrows 'for every input' (looked for: loops, veiled, ifaces, maps, wideKeys, modest, calm, conditions, laid).
  DERIVED. THE GIVEN ROWS OF THIS SEAT. 12 by the template 'for every input the law returns true; each argument reads behind the call as it read before'; 0 by the template 'total and deterministic' (their statements: YtfeepbajipdfaaaTotals.lean).
  GIVEN WITH THE SEED: the statements are not yours to turn. If you find one false, say at which input.
  Laid BY PROGRAM, IN A SANDBOX (cutbox-rows.mjs): the forced cells as the released guide's own fill.sh prints them over the translation 61c9c7b78f19fac5… (all of the seat's roots in one cut). By AI agents, Wed Nov 11 2026. No macro, syntax, notation, axiom, sorry.
-/
import Derived.Test.YtfeepbajipdfaaaChecked
import GoSem.Claim
import GoSem.ClaimJoined
import GoSem.ClaimMapViews
import Derived.JoinedTies
import Derived.KernelRfl
namespace Go.Proofs.Ytfeepbajipdfaaa
/- THE CELL 'sum', in the pinned program and in every row, IS THE sha256 OF THE DUMP (.gsa) THAT YtfeepbajipdfaaaProg.lean LOADS. Nothing in Lean hashes anything: it is a label: what it is worth is what the hold of that sum in a sandbox is worth. -/
noncomputable def Try.pinned : Pinned := { name := "ytfeepbajipdfaaa", sum := "61c9c7b78f19fac506a0e001e8a8c11adc410e6a0ffb185ef91798b56622dd8a", checked := Try.checked }
namespace Rows
def none {H : Type} : Left H := { results := [], args := [] }

/-- 'withylaw24.AskTells': WHATEVER THE INPUT: true; the input reads as it did. -/
def askTellsSpec : ChangeSpec := { name := "askTells", fn := fun _ => fun
  | [d1, d2] => { results := [.lit (.bool true)], args := [d1, d2] }
  | _ => none }
def askTellsRow : OpenClaim := { program := "ytfeepbajipdfaaa", sum := "61c9c7b78f19fac506a0e001e8a8c11adc410e6a0ffb185ef91798b56622dd8a", func := "withy/withylaw24.AskTells", spec := "askTells", unfollowed := true, recurses := true, plainKeys := false, apart := false }
def AskTellsSaid : Prop := askTellsRow.holds Try.pinned (OpenSpec.ofChange askTellsSpec)

/-- ITS FALSE NEIGHBOUR: 'it returns false'. Refute it at one input. -/
def askTellsWrong : ChangeSpec := { name := "askTells", fn := fun _ => fun
  | [d1, d2] => { results := [.lit (.bool false)], args := [d1, d2] }
  | _ => none }
def AskTellsWrongFalsely : Prop := askTellsRow.holds Try.pinned (OpenSpec.ofChange askTellsWrong)

/-- 'withylaw20.AirDoes': WHATEVER THE INPUT: true; the input reads as it did. -/
def airDoesSpec : ChangeSpec := { name := "airDoes", fn := fun _ => fun
  | [d1, d2] => { results := [.lit (.bool true)], args := [d1, d2] }
  | _ => none }
def airDoesRow : OpenClaim := { program := "ytfeepbajipdfaaa", sum := "61c9c7b78f19fac506a0e001e8a8c11adc410e6a0ffb185ef91798b56622dd8a", func := "withy/withylaw20.AirDoes", spec := "airDoes", inPlace := ["slices.overlaps[withy/api.Edge]"], unfollowed := true, recurses := true, plainKeys := false, apart := false }
def AirDoesSaid : Prop := airDoesRow.holds Try.pinned (OpenSpec.ofChange airDoesSpec)

/-- ITS FALSE NEIGHBOUR: 'it returns false'. Refute it at one input. -/
def airDoesWrong : ChangeSpec := { name := "airDoes", fn := fun _ => fun
  | [d1, d2] => { results := [.lit (.bool false)], args := [d1, d2] }
  | _ => none }
def AirDoesWrongFalsely : Prop := airDoesRow.holds Try.pinned (OpenSpec.ofChange airDoesWrong)

/-- 'withylaw20.AirTrue': WHATEVER THE INPUT: true; the input reads as it did. -/
def airTrueSpec : ChangeSpec := { name := "airTrue", fn := fun _ => fun
  | [d1, d2, d3] => { results := [.lit (.bool true)], args := [d1, d2, d3] }
  | _ => none }
def airTrueRow : OpenClaim := { program := "ytfeepbajipdfaaa", sum := "61c9c7b78f19fac506a0e001e8a8c11adc410e6a0ffb185ef91798b56622dd8a", func := "withy/withylaw20.AirTrue", spec := "airTrue", inPlace := ["slices.overlaps[withy/api.Edge]"], unfollowed := true, recurses := true, plainKeys := false, apart := false }
def AirTrueSaid : Prop := airTrueRow.holds Try.pinned (OpenSpec.ofChange airTrueSpec)

/-- ITS FALSE NEIGHBOUR: 'it returns false'. Refute it at one input. -/
def airTrueWrong : ChangeSpec := { name := "airTrue", fn := fun _ => fun
  | [d1, d2, d3] => { results := [.lit (.bool false)], args := [d1, d2, d3] }
  | _ => none }
def AirTrueWrongFalsely : Prop := airTrueRow.holds Try.pinned (OpenSpec.ofChange airTrueWrong)

/-- 'withylaw20.AirBends': WHATEVER THE INPUT: true; the input reads as it did. -/
def airBendsSpec : ChangeSpec := { name := "airBends", fn := fun _ => fun
  | [d1, d2, d3] => { results := [.lit (.bool true)], args := [d1, d2, d3] }
  | _ => none }
def airBendsRow : OpenClaim := { program := "ytfeepbajipdfaaa", sum := "61c9c7b78f19fac506a0e001e8a8c11adc410e6a0ffb185ef91798b56622dd8a", func := "withy/withylaw20.AirBends", spec := "airBends", inPlace := ["slices.overlaps[withy/api.Edge]"], unfollowed := true, recurses := true, plainKeys := false, apart := false }
def AirBendsSaid : Prop := airBendsRow.holds Try.pinned (OpenSpec.ofChange airBendsSpec)

/-- ITS FALSE NEIGHBOUR: 'it returns false'. Refute it at one input. -/
def airBendsWrong : ChangeSpec := { name := "airBends", fn := fun _ => fun
  | [d1, d2, d3] => { results := [.lit (.bool false)], args := [d1, d2, d3] }
  | _ => none }
def AirBendsWrongFalsely : Prop := airBendsRow.holds Try.pinned (OpenSpec.ofChange airBendsWrong)

/-- 'withylaw20.AirFalls': WHATEVER THE INPUT: true; the input reads as it did. -/
def airFallsSpec : ChangeSpec := { name := "airFalls", fn := fun _ => fun
  | [d1, d2] => { results := [.lit (.bool true)], args := [d1, d2] }
  | _ => none }
def airFallsRow : OpenClaim := { program := "ytfeepbajipdfaaa", sum := "61c9c7b78f19fac506a0e001e8a8c11adc410e6a0ffb185ef91798b56622dd8a", func := "withy/withylaw20.AirFalls", spec := "airFalls", inPlace := ["slices.overlaps[withy/api.Edge]"], unfollowed := true, recurses := true, plainKeys := false, apart := false }
def AirFallsSaid : Prop := airFallsRow.holds Try.pinned (OpenSpec.ofChange airFallsSpec)

/-- ITS FALSE NEIGHBOUR: 'it returns false'. Refute it at one input. -/
def airFallsWrong : ChangeSpec := { name := "airFalls", fn := fun _ => fun
  | [d1, d2] => { results := [.lit (.bool false)], args := [d1, d2] }
  | _ => none }
def AirFallsWrongFalsely : Prop := airFallsRow.holds Try.pinned (OpenSpec.ofChange airFallsWrong)

/-- 'withylaw20.AirPuts': WHATEVER THE INPUT: true; the input reads as it did. -/
def airPutsSpec : ChangeSpec := { name := "airPuts", fn := fun _ => fun
  | [d1, d2] => { results := [.lit (.bool true)], args := [d1, d2] }
  | _ => none }
def airPutsRow : OpenClaim := { program := "ytfeepbajipdfaaa", sum := "61c9c7b78f19fac506a0e001e8a8c11adc410e6a0ffb185ef91798b56622dd8a", func := "withy/withylaw20.AirPuts", spec := "airPuts", inPlace := ["slices.overlaps[withy/api.Edge]"], unfollowed := true, recurses := true, plainKeys := false, apart := false }
def AirPutsSaid : Prop := airPutsRow.holds Try.pinned (OpenSpec.ofChange airPutsSpec)

/-- ITS FALSE NEIGHBOUR: 'it returns false'. Refute it at one input. -/
def airPutsWrong : ChangeSpec := { name := "airPuts", fn := fun _ => fun
  | [d1, d2] => { results := [.lit (.bool false)], args := [d1, d2] }
  | _ => none }
def AirPutsWrongFalsely : Prop := airPutsRow.holds Try.pinned (OpenSpec.ofChange airPutsWrong)

/-- 'withylaw05.EdgeLists': WHATEVER THE INPUT: true; the input reads as it did. -/
def edgeListsSpec : ChangeSpec := { name := "edgeLists", fn := fun _ => fun
  | [d1, d2] => { results := [.lit (.bool true)], args := [d1, d2] }
  | _ => none }
def edgeListsRow : OpenClaim := { program := "ytfeepbajipdfaaa", sum := "61c9c7b78f19fac506a0e001e8a8c11adc410e6a0ffb185ef91798b56622dd8a", func := "withy/withylaw05.EdgeLists", spec := "edgeLists", unfollowed := true, recurses := true, plainKeys := false, apart := false }
def EdgeListsSaid : Prop := edgeListsRow.holds Try.pinned (OpenSpec.ofChange edgeListsSpec)

/-- ITS FALSE NEIGHBOUR: 'it returns false'. Refute it at one input. -/
def edgeListsWrong : ChangeSpec := { name := "edgeLists", fn := fun _ => fun
  | [d1, d2] => { results := [.lit (.bool false)], args := [d1, d2] }
  | _ => none }
def EdgeListsWrongFalsely : Prop := edgeListsRow.holds Try.pinned (OpenSpec.ofChange edgeListsWrong)

/-- 'withylaw07.SpanBest': WHATEVER THE INPUT: true; the input reads as it did. -/
def spanBestSpec : ChangeSpec := { name := "spanBest", fn := fun _ => fun
  | [d1, d2] => { results := [.lit (.bool true)], args := [d1, d2] }
  | _ => none }
def spanBestRow : OpenClaim := { program := "ytfeepbajipdfaaa", sum := "61c9c7b78f19fac506a0e001e8a8c11adc410e6a0ffb185ef91798b56622dd8a", func := "withy/withylaw07.SpanBest", spec := "spanBest", unfollowed := true, recurses := true, plainKeys := false, apart := false }
def SpanBestSaid : Prop := spanBestRow.holds Try.pinned (OpenSpec.ofChange spanBestSpec)

/-- ITS FALSE NEIGHBOUR: 'it returns false'. Refute it at one input. -/
def spanBestWrong : ChangeSpec := { name := "spanBest", fn := fun _ => fun
  | [d1, d2] => { results := [.lit (.bool false)], args := [d1, d2] }
  | _ => none }
def SpanBestWrongFalsely : Prop := spanBestRow.holds Try.pinned (OpenSpec.ofChange spanBestWrong)

/-- 'withylaw07.SpanGrows': WHATEVER THE INPUT: true; the input reads as it did. -/
def spanGrowsSpec : ChangeSpec := { name := "spanGrows", fn := fun _ => fun
  | [d1, d2] => { results := [.lit (.bool true)], args := [d1, d2] }
  | _ => none }
def spanGrowsRow : OpenClaim := { program := "ytfeepbajipdfaaa", sum := "61c9c7b78f19fac506a0e001e8a8c11adc410e6a0ffb185ef91798b56622dd8a", func := "withy/withylaw07.SpanGrows", spec := "spanGrows", unfollowed := true, recurses := true, plainKeys := false, apart := false }
def SpanGrowsSaid : Prop := spanGrowsRow.holds Try.pinned (OpenSpec.ofChange spanGrowsSpec)

/-- ITS FALSE NEIGHBOUR: 'it returns false'. Refute it at one input. -/
def spanGrowsWrong : ChangeSpec := { name := "spanGrows", fn := fun _ => fun
  | [d1, d2] => { results := [.lit (.bool false)], args := [d1, d2] }
  | _ => none }
def SpanGrowsWrongFalsely : Prop := spanGrowsRow.holds Try.pinned (OpenSpec.ofChange spanGrowsWrong)

/-- 'withylaw07.SpanLoses': WHATEVER THE INPUT: true; the input reads as it did. -/
def spanLosesSpec : ChangeSpec := { name := "spanLoses", fn := fun _ => fun
  | [d1, d2] => { results := [.lit (.bool true)], args := [d1, d2] }
  | _ => none }
def spanLosesRow : OpenClaim := { program := "ytfeepbajipdfaaa", sum := "61c9c7b78f19fac506a0e001e8a8c11adc410e6a0ffb185ef91798b56622dd8a", func := "withy/withylaw07.SpanLoses", spec := "spanLoses", unfollowed := true, recurses := true, plainKeys := false, apart := false }
def SpanLosesSaid : Prop := spanLosesRow.holds Try.pinned (OpenSpec.ofChange spanLosesSpec)

/-- ITS FALSE NEIGHBOUR: 'it returns false'. Refute it at one input. -/
def spanLosesWrong : ChangeSpec := { name := "spanLoses", fn := fun _ => fun
  | [d1, d2] => { results := [.lit (.bool false)], args := [d1, d2] }
  | _ => none }
def SpanLosesWrongFalsely : Prop := spanLosesRow.holds Try.pinned (OpenSpec.ofChange spanLosesWrong)

/-- 'withylaw07.SpanLeast': WHATEVER THE INPUT: true; the input reads as it did. -/
def spanLeastSpec : ChangeSpec := { name := "spanLeast", fn := fun _ => fun
  | [d] => { results := [.lit (.bool true)], args := [d] }
  | _ => none }
def spanLeastRow : OpenClaim := { program := "ytfeepbajipdfaaa", sum := "61c9c7b78f19fac506a0e001e8a8c11adc410e6a0ffb185ef91798b56622dd8a", func := "withy/withylaw07.SpanLeast", spec := "spanLeast", unfollowed := true, recurses := true, plainKeys := false, apart := false }
def SpanLeastSaid : Prop := spanLeastRow.holds Try.pinned (OpenSpec.ofChange spanLeastSpec)

/-- ITS FALSE NEIGHBOUR: 'it returns false'. Refute it at one input. -/
def spanLeastWrong : ChangeSpec := { name := "spanLeast", fn := fun _ => fun
  | [d] => { results := [.lit (.bool false)], args := [d] }
  | _ => none }
def SpanLeastWrongFalsely : Prop := spanLeastRow.holds Try.pinned (OpenSpec.ofChange spanLeastWrong)

/-- 'withylaw05.EdgeSorts': WHATEVER THE INPUT: true; the input reads as it did. -/
def edgeSortsSpec : ChangeSpec := { name := "edgeSorts", fn := fun _ => fun
  | [d] => { results := [.lit (.bool true)], args := [d] }
  | _ => none }
def edgeSortsRow : OpenClaim := { program := "ytfeepbajipdfaaa", sum := "61c9c7b78f19fac506a0e001e8a8c11adc410e6a0ffb185ef91798b56622dd8a", func := "withy/withylaw05.EdgeSorts", spec := "edgeSorts", unfollowed := true, recurses := true, plainKeys := false, apart := false }
def EdgeSortsSaid : Prop := edgeSortsRow.holds Try.pinned (OpenSpec.ofChange edgeSortsSpec)

/-- ITS FALSE NEIGHBOUR: 'it returns false'. Refute it at one input. -/
def edgeSortsWrong : ChangeSpec := { name := "edgeSorts", fn := fun _ => fun
  | [d] => { results := [.lit (.bool false)], args := [d] }
  | _ => none }
def EdgeSortsWrongFalsely : Prop := edgeSortsRow.holds Try.pinned (OpenSpec.ofChange edgeSortsWrong)

/- THE SECOND FORM. 'bulk': how many values and letters a reading holds, each counted each time it is reached (what is shared counts as often as it is met; a slice's spare places count too). A statement '..UptoSaid' is the law's where the arguments, and the package variables that the reading takes, are together of bulk at most 1048576: NARROWER than '..Said'. Prove '..Said' where nothing that the law and all that it calls make is longer than what came in: it says more and counts as full. Else prove '..UptoSaid'. A law counts once. -/
mutual
def uptoBulk {H : Type} : DataW H → Nat
  | .lit (.string bytes) => bytes.length + 1
  | .lit _ => 1
  | .nil => 1
  | .ptr d => uptoBulk d + 1
  | .slice elems spare => uptoBulkAll elems + uptoBulkAll spare + 1
  | .agg parts => uptoBulkAll parts + 1
  | .iface _ d => uptoBulk d + 1
  | .map entries => uptoBulkEntries entries + 1
  | .held _ => 1
def uptoBulkAll {H : Type} : List (DataW H) → Nat
  | [] => 0
  | d :: r => uptoBulk d + uptoBulkAll r
def uptoBulkEntries {H : Type} : List (Lit × DataW H) → Nat
  | [] => 0
  | x :: r => uptoBulkEntry x + uptoBulkEntries r
def uptoBulkEntry {H : Type} : Lit × DataW H → Nat
  | (.string bytes, d) => bytes.length + uptoBulk d + 1
  | (_, d) => uptoBulk d + 1
 end
def uptoSmall : (H : Type) → List (DataW H) → Bool := fun _ ds => decide (uptoBulkAll ds ≤ 1048576)
def OpenSpec.upto (s : _root_.Go.ChangeSpec) : _root_.Go.OpenSpec := { _root_.Go.OpenSpec.ofChange s with cond := some uptoSmall }

/-- 'withylaw24.AskTells', WHERE WHAT IT READS IS OF BULK AT MOST 1048576: true; the input reads as it did. -/
def askTellsUptoRow : OpenClaim := { program := "ytfeepbajipdfaaa", sum := "61c9c7b78f19fac506a0e001e8a8c11adc410e6a0ffb185ef91798b56622dd8a", func := "withy/withylaw24.AskTells", spec := "askTells", unfollowed := true, recurses := true, plainKeys := false, apart := false, narrowed := true }
def AskTellsUptoSaid : Prop := askTellsUptoRow.holds Try.pinned (OpenSpec.upto askTellsSpec)

/-- 'withylaw20.AirDoes', WHERE WHAT IT READS IS OF BULK AT MOST 1048576: true; the input reads as it did. -/
def airDoesUptoRow : OpenClaim := { program := "ytfeepbajipdfaaa", sum := "61c9c7b78f19fac506a0e001e8a8c11adc410e6a0ffb185ef91798b56622dd8a", func := "withy/withylaw20.AirDoes", spec := "airDoes", inPlace := ["slices.overlaps[withy/api.Edge]"], unfollowed := true, recurses := true, plainKeys := false, apart := false, narrowed := true }
def AirDoesUptoSaid : Prop := airDoesUptoRow.holds Try.pinned (OpenSpec.upto airDoesSpec)

/-- 'withylaw20.AirTrue', WHERE WHAT IT READS IS OF BULK AT MOST 1048576: true; the input reads as it did. -/
def airTrueUptoRow : OpenClaim := { program := "ytfeepbajipdfaaa", sum := "61c9c7b78f19fac506a0e001e8a8c11adc410e6a0ffb185ef91798b56622dd8a", func := "withy/withylaw20.AirTrue", spec := "airTrue", inPlace := ["slices.overlaps[withy/api.Edge]"], unfollowed := true, recurses := true, plainKeys := false, apart := false, narrowed := true }
def AirTrueUptoSaid : Prop := airTrueUptoRow.holds Try.pinned (OpenSpec.upto airTrueSpec)

/-- 'withylaw20.AirBends', WHERE WHAT IT READS IS OF BULK AT MOST 1048576: true; the input reads as it did. -/
def airBendsUptoRow : OpenClaim := { program := "ytfeepbajipdfaaa", sum := "61c9c7b78f19fac506a0e001e8a8c11adc410e6a0ffb185ef91798b56622dd8a", func := "withy/withylaw20.AirBends", spec := "airBends", inPlace := ["slices.overlaps[withy/api.Edge]"], unfollowed := true, recurses := true, plainKeys := false, apart := false, narrowed := true }
def AirBendsUptoSaid : Prop := airBendsUptoRow.holds Try.pinned (OpenSpec.upto airBendsSpec)

/-- 'withylaw20.AirFalls', WHERE WHAT IT READS IS OF BULK AT MOST 1048576: true; the input reads as it did. -/
def airFallsUptoRow : OpenClaim := { program := "ytfeepbajipdfaaa", sum := "61c9c7b78f19fac506a0e001e8a8c11adc410e6a0ffb185ef91798b56622dd8a", func := "withy/withylaw20.AirFalls", spec := "airFalls", inPlace := ["slices.overlaps[withy/api.Edge]"], unfollowed := true, recurses := true, plainKeys := false, apart := false, narrowed := true }
def AirFallsUptoSaid : Prop := airFallsUptoRow.holds Try.pinned (OpenSpec.upto airFallsSpec)

/-- 'withylaw20.AirPuts', WHERE WHAT IT READS IS OF BULK AT MOST 1048576: true; the input reads as it did. -/
def airPutsUptoRow : OpenClaim := { program := "ytfeepbajipdfaaa", sum := "61c9c7b78f19fac506a0e001e8a8c11adc410e6a0ffb185ef91798b56622dd8a", func := "withy/withylaw20.AirPuts", spec := "airPuts", inPlace := ["slices.overlaps[withy/api.Edge]"], unfollowed := true, recurses := true, plainKeys := false, apart := false, narrowed := true }
def AirPutsUptoSaid : Prop := airPutsUptoRow.holds Try.pinned (OpenSpec.upto airPutsSpec)

/-- 'withylaw05.EdgeLists', WHERE WHAT IT READS IS OF BULK AT MOST 1048576: true; the input reads as it did. -/
def edgeListsUptoRow : OpenClaim := { program := "ytfeepbajipdfaaa", sum := "61c9c7b78f19fac506a0e001e8a8c11adc410e6a0ffb185ef91798b56622dd8a", func := "withy/withylaw05.EdgeLists", spec := "edgeLists", unfollowed := true, recurses := true, plainKeys := false, apart := false, narrowed := true }
def EdgeListsUptoSaid : Prop := edgeListsUptoRow.holds Try.pinned (OpenSpec.upto edgeListsSpec)

/-- 'withylaw07.SpanBest', WHERE WHAT IT READS IS OF BULK AT MOST 1048576: true; the input reads as it did. -/
def spanBestUptoRow : OpenClaim := { program := "ytfeepbajipdfaaa", sum := "61c9c7b78f19fac506a0e001e8a8c11adc410e6a0ffb185ef91798b56622dd8a", func := "withy/withylaw07.SpanBest", spec := "spanBest", unfollowed := true, recurses := true, plainKeys := false, apart := false, narrowed := true }
def SpanBestUptoSaid : Prop := spanBestUptoRow.holds Try.pinned (OpenSpec.upto spanBestSpec)

/-- 'withylaw07.SpanGrows', WHERE WHAT IT READS IS OF BULK AT MOST 1048576: true; the input reads as it did. -/
def spanGrowsUptoRow : OpenClaim := { program := "ytfeepbajipdfaaa", sum := "61c9c7b78f19fac506a0e001e8a8c11adc410e6a0ffb185ef91798b56622dd8a", func := "withy/withylaw07.SpanGrows", spec := "spanGrows", unfollowed := true, recurses := true, plainKeys := false, apart := false, narrowed := true }
def SpanGrowsUptoSaid : Prop := spanGrowsUptoRow.holds Try.pinned (OpenSpec.upto spanGrowsSpec)

/-- 'withylaw07.SpanLoses', WHERE WHAT IT READS IS OF BULK AT MOST 1048576: true; the input reads as it did. -/
def spanLosesUptoRow : OpenClaim := { program := "ytfeepbajipdfaaa", sum := "61c9c7b78f19fac506a0e001e8a8c11adc410e6a0ffb185ef91798b56622dd8a", func := "withy/withylaw07.SpanLoses", spec := "spanLoses", unfollowed := true, recurses := true, plainKeys := false, apart := false, narrowed := true }
def SpanLosesUptoSaid : Prop := spanLosesUptoRow.holds Try.pinned (OpenSpec.upto spanLosesSpec)

/-- 'withylaw07.SpanLeast', WHERE WHAT IT READS IS OF BULK AT MOST 1048576: true; the input reads as it did. -/
def spanLeastUptoRow : OpenClaim := { program := "ytfeepbajipdfaaa", sum := "61c9c7b78f19fac506a0e001e8a8c11adc410e6a0ffb185ef91798b56622dd8a", func := "withy/withylaw07.SpanLeast", spec := "spanLeast", unfollowed := true, recurses := true, plainKeys := false, apart := false, narrowed := true }
def SpanLeastUptoSaid : Prop := spanLeastUptoRow.holds Try.pinned (OpenSpec.upto spanLeastSpec)

/-- 'withylaw05.EdgeSorts', WHERE WHAT IT READS IS OF BULK AT MOST 1048576: true; the input reads as it did. -/
def edgeSortsUptoRow : OpenClaim := { program := "ytfeepbajipdfaaa", sum := "61c9c7b78f19fac506a0e001e8a8c11adc410e6a0ffb185ef91798b56622dd8a", func := "withy/withylaw05.EdgeSorts", spec := "edgeSorts", unfollowed := true, recurses := true, plainKeys := false, apart := false, narrowed := true }
def EdgeSortsUptoSaid : Prop := edgeSortsUptoRow.holds Try.pinned (OpenSpec.upto edgeSortsSpec)

end Rows
end Go.Proofs.Ytfeepbajipdfaaa
