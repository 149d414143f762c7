/-
  No cell of these rows narrows 'for every input' (looked for: loops, veiled, ifaces, maps, wideKeys, modest, calm, conditions, laid).
  DERIVED. THE GIVEN ROWS OF THIS SEAT. 12 by the template 'for every input the law returns true; each argument reads behind the call as it read before'; 0 by the template 'total and deterministic' (their statements: YtjeeofakogoboaaTotals.lean).
  GIVEN WITH THE SEED: the statements are not yours to turn. If you find one false, say at which input.
  Laid BY PROGRAM, IN A SANDBOX (cutbox-rows.mjs): the forced cells as the released guide's own fill.sh prints them over the translation d762839aaac12077… (all of the seat's roots in one cut). By AI agents, Wed Nov 11 2026. No macro, syntax, notation, axiom, sorry.
-/
import Derived.Test.YtjeeofakogoboaaChecked
import GoSem.Claim
import GoSem.ClaimJoined
import GoSem.ClaimMapViews
import Derived.JoinedTies
import Derived.KernelRfl
namespace Go.Proofs.Ytjeeofakogoboaa
/- THE CELL 'sum', in the pinned program and in every row, IS THE sha256 OF THE DUMP (.gsa) THAT YtjeeofakogoboaaProg.lean LOADS. Nothing in Lean hashes anything: it is a label: what it is worth is what the hold of that sum in a sandbox is worth. -/
noncomputable def Try.pinned : Pinned := { name := "ytjeeofakogoboaa", sum := "d762839aaac12077f278bc291bf5f93c4de2a3f80e686df5198fdc7629617469", checked := Try.checked }
namespace Rows
def none {H : Type} : Left H := { results := [], args := [] }

/-- 'withylaw05.EdgeOf': WHATEVER THE INPUT: true; the input reads as it did. -/
def edgeOfSpec : ChangeSpec := { name := "edgeOf", fn := fun _ => fun
  | [d1, d2, d3] => { results := [.lit (.bool true)], args := [d1, d2, d3] }
  | _ => none }
def edgeOfRow : OpenClaim := { program := "ytjeeofakogoboaa", sum := "d762839aaac12077f278bc291bf5f93c4de2a3f80e686df5198fdc7629617469", func := "withy/withylaw05.EdgeOf", spec := "edgeOf", apart := false }
def EdgeOfSaid : Prop := edgeOfRow.holds Try.pinned (OpenSpec.ofChange edgeOfSpec)

/-- ITS FALSE NEIGHBOUR: 'it returns false'. Refute it at one input. -/
def edgeOfWrong : ChangeSpec := { name := "edgeOf", fn := fun _ => fun
  | [d1, d2, d3] => { results := [.lit (.bool false)], args := [d1, d2, d3] }
  | _ => none }
def EdgeOfWrongFalsely : Prop := edgeOfRow.holds Try.pinned (OpenSpec.ofChange edgeOfWrong)

/-- 'withylaw18.BeatTicks': WHATEVER THE INPUT: true; the input reads as it did. -/
def beatTicksSpec : ChangeSpec := { name := "beatTicks", fn := fun _ => fun
  | [d] => { results := [.lit (.bool true)], args := [d] }
  | _ => none }
def beatTicksRow : OpenClaim := { program := "ytjeeofakogoboaa", sum := "d762839aaac12077f278bc291bf5f93c4de2a3f80e686df5198fdc7629617469", func := "withy/withylaw18.BeatTicks", spec := "beatTicks", apart := false }
def BeatTicksSaid : Prop := beatTicksRow.holds Try.pinned (OpenSpec.ofChange beatTicksSpec)

/-- ITS FALSE NEIGHBOUR: 'it returns false'. Refute it at one input. -/
def beatTicksWrong : ChangeSpec := { name := "beatTicks", fn := fun _ => fun
  | [d] => { results := [.lit (.bool false)], args := [d] }
  | _ => none }
def BeatTicksWrongFalsely : Prop := beatTicksRow.holds Try.pinned (OpenSpec.ofChange beatTicksWrong)

/-- 'withylaw18.BeatCounts': WHATEVER THE INPUT: true; the input reads as it did. -/
def beatCountsSpec : ChangeSpec := { name := "beatCounts", fn := fun _ => fun
  | [d] => { results := [.lit (.bool true)], args := [d] }
  | _ => none }
def beatCountsRow : OpenClaim := { program := "ytjeeofakogoboaa", sum := "d762839aaac12077f278bc291bf5f93c4de2a3f80e686df5198fdc7629617469", func := "withy/withylaw18.BeatCounts", spec := "beatCounts", apart := false }
def BeatCountsSaid : Prop := beatCountsRow.holds Try.pinned (OpenSpec.ofChange beatCountsSpec)

/-- ITS FALSE NEIGHBOUR: 'it returns false'. Refute it at one input. -/
def beatCountsWrong : ChangeSpec := { name := "beatCounts", fn := fun _ => fun
  | [d] => { results := [.lit (.bool false)], args := [d] }
  | _ => none }
def BeatCountsWrongFalsely : Prop := beatCountsRow.holds Try.pinned (OpenSpec.ofChange beatCountsWrong)

/-- 'withylaw18.BeatSilence': WHATEVER THE INPUT: true; the input reads as it did. -/
def beatSilenceSpec : ChangeSpec := { name := "beatSilence", fn := fun _ => fun
  | [d] => { results := [.lit (.bool true)], args := [d] }
  | _ => none }
def beatSilenceRow : OpenClaim := { program := "ytjeeofakogoboaa", sum := "d762839aaac12077f278bc291bf5f93c4de2a3f80e686df5198fdc7629617469", func := "withy/withylaw18.BeatSilence", spec := "beatSilence", apart := false }
def BeatSilenceSaid : Prop := beatSilenceRow.holds Try.pinned (OpenSpec.ofChange beatSilenceSpec)

/-- ITS FALSE NEIGHBOUR: 'it returns false'. Refute it at one input. -/
def beatSilenceWrong : ChangeSpec := { name := "beatSilence", fn := fun _ => fun
  | [d] => { results := [.lit (.bool false)], args := [d] }
  | _ => none }
def BeatSilenceWrongFalsely : Prop := beatSilenceRow.holds Try.pinned (OpenSpec.ofChange beatSilenceWrong)

/-- 'withylaw18.BeatLate': WHATEVER THE INPUT: true; the input reads as it did. -/
def beatLateSpec : ChangeSpec := { name := "beatLate", fn := fun _ => fun
  | [d1, d2] => { results := [.lit (.bool true)], args := [d1, d2] }
  | _ => none }
def beatLateRow : OpenClaim := { program := "ytjeeofakogoboaa", sum := "d762839aaac12077f278bc291bf5f93c4de2a3f80e686df5198fdc7629617469", func := "withy/withylaw18.BeatLate", spec := "beatLate", apart := false }
def BeatLateSaid : Prop := beatLateRow.holds Try.pinned (OpenSpec.ofChange beatLateSpec)

/-- ITS FALSE NEIGHBOUR: 'it returns false'. Refute it at one input. -/
def beatLateWrong : ChangeSpec := { name := "beatLate", fn := fun _ => fun
  | [d1, d2] => { results := [.lit (.bool false)], args := [d1, d2] }
  | _ => none }
def BeatLateWrongFalsely : Prop := beatLateRow.holds Try.pinned (OpenSpec.ofChange beatLateWrong)

/-- 'withylaw05.EdgeOrders': WHATEVER THE INPUT: true; the input reads as it did. -/
def edgeOrdersSpec : ChangeSpec := { name := "edgeOrders", fn := fun _ => fun
  | [d1, d2, d3] => { results := [.lit (.bool true)], args := [d1, d2, d3] }
  | _ => none }
def edgeOrdersRow : OpenClaim := { program := "ytjeeofakogoboaa", sum := "d762839aaac12077f278bc291bf5f93c4de2a3f80e686df5198fdc7629617469", func := "withy/withylaw05.EdgeOrders", spec := "edgeOrders", apart := false }
def EdgeOrdersSaid : Prop := edgeOrdersRow.holds Try.pinned (OpenSpec.ofChange edgeOrdersSpec)

/-- ITS FALSE NEIGHBOUR: 'it returns false'. Refute it at one input. -/
def edgeOrdersWrong : ChangeSpec := { name := "edgeOrders", fn := fun _ => fun
  | [d1, d2, d3] => { results := [.lit (.bool false)], args := [d1, d2, d3] }
  | _ => none }
def EdgeOrdersWrongFalsely : Prop := edgeOrdersRow.holds Try.pinned (OpenSpec.ofChange edgeOrdersWrong)

/-- 'withylaw21.VowSteps': WHATEVER THE INPUT: true; the input reads as it did. -/
def vowStepsSpec : ChangeSpec := { name := "vowSteps", fn := fun _ => fun
  | [d1, d2] => { results := [.lit (.bool true)], args := [d1, d2] }
  | _ => none }
def vowStepsRow : OpenClaim := { program := "ytjeeofakogoboaa", sum := "d762839aaac12077f278bc291bf5f93c4de2a3f80e686df5198fdc7629617469", func := "withy/withylaw21.VowSteps", spec := "vowSteps", apart := false }
def VowStepsSaid : Prop := vowStepsRow.holds Try.pinned (OpenSpec.ofChange vowStepsSpec)

/-- ITS FALSE NEIGHBOUR: 'it returns false'. Refute it at one input. -/
def vowStepsWrong : ChangeSpec := { name := "vowSteps", fn := fun _ => fun
  | [d1, d2] => { results := [.lit (.bool false)], args := [d1, d2] }
  | _ => none }
def VowStepsWrongFalsely : Prop := vowStepsRow.holds Try.pinned (OpenSpec.ofChange vowStepsWrong)

/-- 'withylaw21.VowDances': WHATEVER THE INPUT: true; the input reads as it did. -/
def vowDancesSpec : ChangeSpec := { name := "vowDances", fn := fun _ => fun
  | [d] => { results := [.lit (.bool true)], args := [d] }
  | _ => none }
def vowDancesRow : OpenClaim := { program := "ytjeeofakogoboaa", sum := "d762839aaac12077f278bc291bf5f93c4de2a3f80e686df5198fdc7629617469", func := "withy/withylaw21.VowDances", spec := "vowDances", apart := false }
def VowDancesSaid : Prop := vowDancesRow.holds Try.pinned (OpenSpec.ofChange vowDancesSpec)

/-- ITS FALSE NEIGHBOUR: 'it returns false'. Refute it at one input. -/
def vowDancesWrong : ChangeSpec := { name := "vowDances", fn := fun _ => fun
  | [d] => { results := [.lit (.bool false)], args := [d] }
  | _ => none }
def VowDancesWrongFalsely : Prop := vowDancesRow.holds Try.pinned (OpenSpec.ofChange vowDancesWrong)

/-- 'withylaw21.VowTogether': WHATEVER THE INPUT: true; the input reads as it did. -/
def vowTogetherSpec : ChangeSpec := { name := "vowTogether", fn := fun _ => fun
  | [d1, d2] => { results := [.lit (.bool true)], args := [d1, d2] }
  | _ => none }
def vowTogetherRow : OpenClaim := { program := "ytjeeofakogoboaa", sum := "d762839aaac12077f278bc291bf5f93c4de2a3f80e686df5198fdc7629617469", func := "withy/withylaw21.VowTogether", spec := "vowTogether", apart := false }
def VowTogetherSaid : Prop := vowTogetherRow.holds Try.pinned (OpenSpec.ofChange vowTogetherSpec)

/-- ITS FALSE NEIGHBOUR: 'it returns false'. Refute it at one input. -/
def vowTogetherWrong : ChangeSpec := { name := "vowTogether", fn := fun _ => fun
  | [d1, d2] => { results := [.lit (.bool false)], args := [d1, d2] }
  | _ => none }
def VowTogetherWrongFalsely : Prop := vowTogetherRow.holds Try.pinned (OpenSpec.ofChange vowTogetherWrong)

/-- 'withylaw21.VowAlone': WHATEVER THE INPUT: true; the input reads as it did. -/
def vowAloneSpec : ChangeSpec := { name := "vowAlone", fn := fun _ => fun
  | [d] => { results := [.lit (.bool true)], args := [d] }
  | _ => none }
def vowAloneRow : OpenClaim := { program := "ytjeeofakogoboaa", sum := "d762839aaac12077f278bc291bf5f93c4de2a3f80e686df5198fdc7629617469", func := "withy/withylaw21.VowAlone", spec := "vowAlone", apart := false }
def VowAloneSaid : Prop := vowAloneRow.holds Try.pinned (OpenSpec.ofChange vowAloneSpec)

/-- ITS FALSE NEIGHBOUR: 'it returns false'. Refute it at one input. -/
def vowAloneWrong : ChangeSpec := { name := "vowAlone", fn := fun _ => fun
  | [d] => { results := [.lit (.bool false)], args := [d] }
  | _ => none }
def VowAloneWrongFalsely : Prop := vowAloneRow.holds Try.pinned (OpenSpec.ofChange vowAloneWrong)

/-- 'withylaw09.ViewLinks': WHATEVER THE INPUT: true; the input reads as it did. -/
def viewLinksSpec : ChangeSpec := { name := "viewLinks", fn := fun _ => fun
  | [d] => { results := [.lit (.bool true)], args := [d] }
  | _ => none }
def viewLinksRow : OpenClaim := { program := "ytjeeofakogoboaa", sum := "d762839aaac12077f278bc291bf5f93c4de2a3f80e686df5198fdc7629617469", func := "withy/withylaw09.ViewLinks", spec := "viewLinks", unfollowed := true, recurses := true, apart := false }
def ViewLinksSaid : Prop := viewLinksRow.holds Try.pinned (OpenSpec.ofChange viewLinksSpec)

/-- ITS FALSE NEIGHBOUR: 'it returns false'. Refute it at one input. -/
def viewLinksWrong : ChangeSpec := { name := "viewLinks", fn := fun _ => fun
  | [d] => { results := [.lit (.bool false)], args := [d] }
  | _ => none }
def ViewLinksWrongFalsely : Prop := viewLinksRow.holds Try.pinned (OpenSpec.ofChange viewLinksWrong)

/-- 'withylaw09.ViewTells': WHATEVER THE INPUT: true; the input reads as it did. -/
def viewTellsSpec : ChangeSpec := { name := "viewTells", fn := fun _ => fun
  | [d] => { results := [.lit (.bool true)], args := [d] }
  | _ => none }
def viewTellsRow : OpenClaim := { program := "ytjeeofakogoboaa", sum := "d762839aaac12077f278bc291bf5f93c4de2a3f80e686df5198fdc7629617469", func := "withy/withylaw09.ViewTells", spec := "viewTells", unfollowed := true, recurses := true, apart := false }
def ViewTellsSaid : Prop := viewTellsRow.holds Try.pinned (OpenSpec.ofChange viewTellsSpec)

/-- ITS FALSE NEIGHBOUR: 'it returns false'. Refute it at one input. -/
def viewTellsWrong : ChangeSpec := { name := "viewTells", fn := fun _ => fun
  | [d] => { results := [.lit (.bool false)], args := [d] }
  | _ => none }
def ViewTellsWrongFalsely : Prop := viewTellsRow.holds Try.pinned (OpenSpec.ofChange viewTellsWrong)

/- THE SECOND FORM. 'bulk': how many values and letters a reading holds, each counted each time it is reached (what is shared counts as often as it is met; a slice's spare places count too). A statement '..UptoSaid' is the law's where the arguments, and the package variables that the reading takes, are together of bulk at most 1048576: NARROWER than '..Said'. Prove '..Said' where nothing that the law and all that it calls make is longer than what came in: it says more and counts as full. Else prove '..UptoSaid'. A law counts once. -/
mutual
def uptoBulk {H : Type} : DataW H → Nat
  | .lit (.string bytes) => bytes.length + 1
  | .lit _ => 1
  | .nil => 1
  | .ptr d => uptoBulk d + 1
  | .slice elems spare => uptoBulkAll elems + uptoBulkAll spare + 1
  | .agg parts => uptoBulkAll parts + 1
  | .iface _ d => uptoBulk d + 1
  | .map entries => uptoBulkEntries entries + 1
  | .held _ => 1
def uptoBulkAll {H : Type} : List (DataW H) → Nat
  | [] => 0
  | d :: r => uptoBulk d + uptoBulkAll r
def uptoBulkEntries {H : Type} : List (Lit × DataW H) → Nat
  | [] => 0
  | x :: r => uptoBulkEntry x + uptoBulkEntries r
def uptoBulkEntry {H : Type} : Lit × DataW H → Nat
  | (.string bytes, d) => bytes.length + uptoBulk d + 1
  | (_, d) => uptoBulk d + 1
 end
def uptoSmall : (H : Type) → List (DataW H) → Bool := fun _ ds => decide (uptoBulkAll ds ≤ 1048576)
def OpenSpec.upto (s : _root_.Go.ChangeSpec) : _root_.Go.OpenSpec := { _root_.Go.OpenSpec.ofChange s with cond := some uptoSmall }

/-- 'withylaw05.EdgeOf', WHERE WHAT IT READS IS OF BULK AT MOST 1048576: true; the input reads as it did. -/
def edgeOfUptoRow : OpenClaim := { program := "ytjeeofakogoboaa", sum := "d762839aaac12077f278bc291bf5f93c4de2a3f80e686df5198fdc7629617469", func := "withy/withylaw05.EdgeOf", spec := "edgeOf", apart := false, narrowed := true }
def EdgeOfUptoSaid : Prop := edgeOfUptoRow.holds Try.pinned (OpenSpec.upto edgeOfSpec)

/-- 'withylaw18.BeatTicks', WHERE WHAT IT READS IS OF BULK AT MOST 1048576: true; the input reads as it did. -/
def beatTicksUptoRow : OpenClaim := { program := "ytjeeofakogoboaa", sum := "d762839aaac12077f278bc291bf5f93c4de2a3f80e686df5198fdc7629617469", func := "withy/withylaw18.BeatTicks", spec := "beatTicks", apart := false, narrowed := true }
def BeatTicksUptoSaid : Prop := beatTicksUptoRow.holds Try.pinned (OpenSpec.upto beatTicksSpec)

/-- 'withylaw18.BeatCounts', WHERE WHAT IT READS IS OF BULK AT MOST 1048576: true; the input reads as it did. -/
def beatCountsUptoRow : OpenClaim := { program := "ytjeeofakogoboaa", sum := "d762839aaac12077f278bc291bf5f93c4de2a3f80e686df5198fdc7629617469", func := "withy/withylaw18.BeatCounts", spec := "beatCounts", apart := false, narrowed := true }
def BeatCountsUptoSaid : Prop := beatCountsUptoRow.holds Try.pinned (OpenSpec.upto beatCountsSpec)

/-- 'withylaw18.BeatSilence', WHERE WHAT IT READS IS OF BULK AT MOST 1048576: true; the input reads as it did. -/
def beatSilenceUptoRow : OpenClaim := { program := "ytjeeofakogoboaa", sum := "d762839aaac12077f278bc291bf5f93c4de2a3f80e686df5198fdc7629617469", func := "withy/withylaw18.BeatSilence", spec := "beatSilence", apart := false, narrowed := true }
def BeatSilenceUptoSaid : Prop := beatSilenceUptoRow.holds Try.pinned (OpenSpec.upto beatSilenceSpec)

/-- 'withylaw18.BeatLate', WHERE WHAT IT READS IS OF BULK AT MOST 1048576: true; the input reads as it did. -/
def beatLateUptoRow : OpenClaim := { program := "ytjeeofakogoboaa", sum := "d762839aaac12077f278bc291bf5f93c4de2a3f80e686df5198fdc7629617469", func := "withy/withylaw18.BeatLate", spec := "beatLate", apart := false, narrowed := true }
def BeatLateUptoSaid : Prop := beatLateUptoRow.holds Try.pinned (OpenSpec.upto beatLateSpec)

/-- 'withylaw05.EdgeOrders', WHERE WHAT IT READS IS OF BULK AT MOST 1048576: true; the input reads as it did. -/
def edgeOrdersUptoRow : OpenClaim := { program := "ytjeeofakogoboaa", sum := "d762839aaac12077f278bc291bf5f93c4de2a3f80e686df5198fdc7629617469", func := "withy/withylaw05.EdgeOrders", spec := "edgeOrders", apart := false, narrowed := true }
def EdgeOrdersUptoSaid : Prop := edgeOrdersUptoRow.holds Try.pinned (OpenSpec.upto edgeOrdersSpec)

/-- 'withylaw21.VowSteps', WHERE WHAT IT READS IS OF BULK AT MOST 1048576: true; the input reads as it did. -/
def vowStepsUptoRow : OpenClaim := { program := "ytjeeofakogoboaa", sum := "d762839aaac12077f278bc291bf5f93c4de2a3f80e686df5198fdc7629617469", func := "withy/withylaw21.VowSteps", spec := "vowSteps", apart := false, narrowed := true }
def VowStepsUptoSaid : Prop := vowStepsUptoRow.holds Try.pinned (OpenSpec.upto vowStepsSpec)

/-- 'withylaw21.VowDances', WHERE WHAT IT READS IS OF BULK AT MOST 1048576: true; the input reads as it did. -/
def vowDancesUptoRow : OpenClaim := { program := "ytjeeofakogoboaa", sum := "d762839aaac12077f278bc291bf5f93c4de2a3f80e686df5198fdc7629617469", func := "withy/withylaw21.VowDances", spec := "vowDances", apart := false, narrowed := true }
def VowDancesUptoSaid : Prop := vowDancesUptoRow.holds Try.pinned (OpenSpec.upto vowDancesSpec)

/-- 'withylaw21.VowTogether', WHERE WHAT IT READS IS OF BULK AT MOST 1048576: true; the input reads as it did. -/
def vowTogetherUptoRow : OpenClaim := { program := "ytjeeofakogoboaa", sum := "d762839aaac12077f278bc291bf5f93c4de2a3f80e686df5198fdc7629617469", func := "withy/withylaw21.VowTogether", spec := "vowTogether", apart := false, narrowed := true }
def VowTogetherUptoSaid : Prop := vowTogetherUptoRow.holds Try.pinned (OpenSpec.upto vowTogetherSpec)

/-- 'withylaw21.VowAlone', WHERE WHAT IT READS IS OF BULK AT MOST 1048576: true; the input reads as it did. -/
def vowAloneUptoRow : OpenClaim := { program := "ytjeeofakogoboaa", sum := "d762839aaac12077f278bc291bf5f93c4de2a3f80e686df5198fdc7629617469", func := "withy/withylaw21.VowAlone", spec := "vowAlone", apart := false, narrowed := true }
def VowAloneUptoSaid : Prop := vowAloneUptoRow.holds Try.pinned (OpenSpec.upto vowAloneSpec)

/-- 'withylaw09.ViewLinks', WHERE WHAT IT READS IS OF BULK AT MOST 1048576: true; the input reads as it did. -/
def viewLinksUptoRow : OpenClaim := { program := "ytjeeofakogoboaa", sum := "d762839aaac12077f278bc291bf5f93c4de2a3f80e686df5198fdc7629617469", func := "withy/withylaw09.ViewLinks", spec := "viewLinks", unfollowed := true, recurses := true, apart := false, narrowed := true }
def ViewLinksUptoSaid : Prop := viewLinksUptoRow.holds Try.pinned (OpenSpec.upto viewLinksSpec)

/-- 'withylaw09.ViewTells', WHERE WHAT IT READS IS OF BULK AT MOST 1048576: true; the input reads as it did. -/
def viewTellsUptoRow : OpenClaim := { program := "ytjeeofakogoboaa", sum := "d762839aaac12077f278bc291bf5f93c4de2a3f80e686df5198fdc7629617469", func := "withy/withylaw09.ViewTells", spec := "viewTells", unfollowed := true, recurses := true, apart := false, narrowed := true }
def ViewTellsUptoSaid : Prop := viewTellsUptoRow.holds Try.pinned (OpenSpec.upto viewTellsSpec)

end Rows
end Go.Proofs.Ytjeeofakogoboaa
