/-
  No cell of these rows narrows 'for every input' (looked for: loops, veiled, ifaces, maps, wideKeys, modest, calm, conditions, laid).
  DERIVED. THE GIVEN ROWS OF THIS SEAT. 7 by the template 'for every input the law returns true; each argument reads behind the call as it read before'; 0 by the template 'total and deterministic' (their statements: YtceohmbjajhlcaaTotals.lean).
  GIVEN WITH THE SEED: the statements are not yours to turn. If you find one false, say at which input.
  Laid BY PROGRAM, IN A SANDBOX (cutbox-rows.mjs): the forced cells as the released guide's own fill.sh prints them over the translation 5efd0cd23132e613… (all of the seat's roots in one cut). By AI agents, Wed Nov 11 2026. No macro, syntax, notation, axiom, sorry.
-/
import Derived.Test.YtceohmbjajhlcaaChecked
import GoSem.Claim
import GoSem.ClaimJoined
import GoSem.ClaimMapViews
import Derived.JoinedTies
import Derived.KernelRfl
namespace Go.Proofs.Ytceohmbjajhlcaa
/- THE CELL 'sum', in the pinned program and in every row, IS THE sha256 OF THE DUMP (.gsa) THAT YtceohmbjajhlcaaProg.lean LOADS. Nothing in Lean hashes anything: it is a label: what it is worth is what the hold of that sum in a sandbox is worth. -/
noncomputable def Try.pinned : Pinned := { name := "ytceohmbjajhlcaa", sum := "5efd0cd23132e6135e524883f87bb8da67658212e98246408254c1f37f98f553", checked := Try.checked }
namespace Rows
def none {H : Type} : Left H := { results := [], args := [] }

/-- 'viaticumlaw24.DwellRuns': WHATEVER THE INPUT: true; the input reads as it did. -/
def dwellRunsSpec : ChangeSpec := { name := "dwellRuns", fn := fun _ => fun
  | [d1, d2] => { results := [.lit (.bool true)], args := [d1, d2] }
  | _ => none }
def dwellRunsRow : OpenClaim := { program := "ytceohmbjajhlcaa", sum := "5efd0cd23132e6135e524883f87bb8da67658212e98246408254c1f37f98f553", func := "viaticum/viaticumlaw24.DwellRuns", spec := "dwellRuns", apart := false }
def DwellRunsSaid : Prop := dwellRunsRow.holds Try.pinned (OpenSpec.ofChange dwellRunsSpec)

/-- ITS FALSE NEIGHBOUR: 'it returns false'. Refute it at one input. -/
def dwellRunsWrong : ChangeSpec := { name := "dwellRuns", fn := fun _ => fun
  | [d1, d2] => { results := [.lit (.bool false)], args := [d1, d2] }
  | _ => none }
def DwellRunsWrongFalsely : Prop := dwellRunsRow.holds Try.pinned (OpenSpec.ofChange dwellRunsWrong)

/-- 'viaticumlaw25.SegmentLegs': WHATEVER THE INPUT: true; the input reads as it did. -/
def segmentLegsSpec : ChangeSpec := { name := "segmentLegs", fn := fun _ => fun
  | [d1, d2] => { results := [.lit (.bool true)], args := [d1, d2] }
  | _ => none }
def segmentLegsRow : OpenClaim := { program := "ytceohmbjajhlcaa", sum := "5efd0cd23132e6135e524883f87bb8da67658212e98246408254c1f37f98f553", func := "viaticum/viaticumlaw25.SegmentLegs", spec := "segmentLegs", unfollowed := true, recurses := true, apart := false }
def SegmentLegsSaid : Prop := segmentLegsRow.holds Try.pinned (OpenSpec.ofChange segmentLegsSpec)

/-- ITS FALSE NEIGHBOUR: 'it returns false'. Refute it at one input. -/
def segmentLegsWrong : ChangeSpec := { name := "segmentLegs", fn := fun _ => fun
  | [d1, d2] => { results := [.lit (.bool false)], args := [d1, d2] }
  | _ => none }
def SegmentLegsWrongFalsely : Prop := segmentLegsRow.holds Try.pinned (OpenSpec.ofChange segmentLegsWrong)

/-- 'viaticumlaw24.DwellTells': WHATEVER THE INPUT: true; the input reads as it did. -/
def dwellTellsSpec : ChangeSpec := { name := "dwellTells", fn := fun _ => fun
  | [d1, d2, d3] => { results := [.lit (.bool true)], args := [d1, d2, d3] }
  | _ => none }
def dwellTellsRow : OpenClaim := { program := "ytceohmbjajhlcaa", sum := "5efd0cd23132e6135e524883f87bb8da67658212e98246408254c1f37f98f553", func := "viaticum/viaticumlaw24.DwellTells", spec := "dwellTells", apart := false }
def DwellTellsSaid : Prop := dwellTellsRow.holds Try.pinned (OpenSpec.ofChange dwellTellsSpec)

/-- ITS FALSE NEIGHBOUR: 'it returns false'. Refute it at one input. -/
def dwellTellsWrong : ChangeSpec := { name := "dwellTells", fn := fun _ => fun
  | [d1, d2, d3] => { results := [.lit (.bool false)], args := [d1, d2, d3] }
  | _ => none }
def DwellTellsWrongFalsely : Prop := dwellTellsRow.holds Try.pinned (OpenSpec.ofChange dwellTellsWrong)

/-- 'viaticumlaw24.DwellFits': WHATEVER THE INPUT: true; the input reads as it did. -/
def dwellFitsSpec : ChangeSpec := { name := "dwellFits", fn := fun _ => fun
  | [d1, d2, d3] => { results := [.lit (.bool true)], args := [d1, d2, d3] }
  | _ => none }
def dwellFitsRow : OpenClaim := { program := "ytceohmbjajhlcaa", sum := "5efd0cd23132e6135e524883f87bb8da67658212e98246408254c1f37f98f553", func := "viaticum/viaticumlaw24.DwellFits", spec := "dwellFits", apart := false }
def DwellFitsSaid : Prop := dwellFitsRow.holds Try.pinned (OpenSpec.ofChange dwellFitsSpec)

/-- ITS FALSE NEIGHBOUR: 'it returns false'. Refute it at one input. -/
def dwellFitsWrong : ChangeSpec := { name := "dwellFits", fn := fun _ => fun
  | [d1, d2, d3] => { results := [.lit (.bool false)], args := [d1, d2, d3] }
  | _ => none }
def DwellFitsWrongFalsely : Prop := dwellFitsRow.holds Try.pinned (OpenSpec.ofChange dwellFitsWrong)

/-- 'viaticumlaw27.BandPrices': WHATEVER THE INPUT: true; the input reads as it did. -/
def bandPricesSpec : ChangeSpec := { name := "bandPrices", fn := fun _ => fun
  | [d1, d2, d3] => { results := [.lit (.bool true)], args := [d1, d2, d3] }
  | _ => none }
def bandPricesRow : OpenClaim := { program := "ytceohmbjajhlcaa", sum := "5efd0cd23132e6135e524883f87bb8da67658212e98246408254c1f37f98f553", func := "viaticum/viaticumlaw27.BandPrices", spec := "bandPrices", apart := false }
def BandPricesSaid : Prop := bandPricesRow.holds Try.pinned (OpenSpec.ofChange bandPricesSpec)

/-- ITS FALSE NEIGHBOUR: 'it returns false'. Refute it at one input. -/
def bandPricesWrong : ChangeSpec := { name := "bandPrices", fn := fun _ => fun
  | [d1, d2, d3] => { results := [.lit (.bool false)], args := [d1, d2, d3] }
  | _ => none }
def BandPricesWrongFalsely : Prop := bandPricesRow.holds Try.pinned (OpenSpec.ofChange bandPricesWrong)

/-- 'viaticumlaw27.BandRises': WHATEVER THE INPUT: true; the input reads as it did. -/
def bandRisesSpec : ChangeSpec := { name := "bandRises", fn := fun _ => fun
  | [d1, d2, d3] => { results := [.lit (.bool true)], args := [d1, d2, d3] }
  | _ => none }
def bandRisesRow : OpenClaim := { program := "ytceohmbjajhlcaa", sum := "5efd0cd23132e6135e524883f87bb8da67658212e98246408254c1f37f98f553", func := "viaticum/viaticumlaw27.BandRises", spec := "bandRises", apart := false }
def BandRisesSaid : Prop := bandRisesRow.holds Try.pinned (OpenSpec.ofChange bandRisesSpec)

/-- ITS FALSE NEIGHBOUR: 'it returns false'. Refute it at one input. -/
def bandRisesWrong : ChangeSpec := { name := "bandRises", fn := fun _ => fun
  | [d1, d2, d3] => { results := [.lit (.bool false)], args := [d1, d2, d3] }
  | _ => none }
def BandRisesWrongFalsely : Prop := bandRisesRow.holds Try.pinned (OpenSpec.ofChange bandRisesWrong)

/-- 'viaticumlaw25.SegmentTells': WHATEVER THE INPUT: true; the input reads as it did. -/
def segmentTellsSpec : ChangeSpec := { name := "segmentTells", fn := fun _ => fun
  | [d] => { results := [.lit (.bool true)], args := [d] }
  | _ => none }
def segmentTellsRow : OpenClaim := { program := "ytceohmbjajhlcaa", sum := "5efd0cd23132e6135e524883f87bb8da67658212e98246408254c1f37f98f553", func := "viaticum/viaticumlaw25.SegmentTells", spec := "segmentTells", unfollowed := true, recurses := true, apart := false }
def SegmentTellsSaid : Prop := segmentTellsRow.holds Try.pinned (OpenSpec.ofChange segmentTellsSpec)

/-- ITS FALSE NEIGHBOUR: 'it returns false'. Refute it at one input. -/
def segmentTellsWrong : ChangeSpec := { name := "segmentTells", fn := fun _ => fun
  | [d] => { results := [.lit (.bool false)], args := [d] }
  | _ => none }
def SegmentTellsWrongFalsely : Prop := segmentTellsRow.holds Try.pinned (OpenSpec.ofChange segmentTellsWrong)

/- THE SECOND FORM. 'bulk': how many values and letters a reading holds, each counted each time it is reached (what is shared counts as often as it is met; a slice's spare places count too). A statement '..UptoSaid' is the law's where the arguments, and the package variables that the reading takes, are together of bulk at most 1048576: NARROWER than '..Said'. Prove '..Said' where nothing that the law and all that it calls make is longer than what came in: it says more and counts as full. Else prove '..UptoSaid'. A law counts once. -/
mutual
def uptoBulk {H : Type} : DataW H → Nat
  | .lit (.string bytes) => bytes.length + 1
  | .lit _ => 1
  | .nil => 1
  | .ptr d => uptoBulk d + 1
  | .slice elems spare => uptoBulkAll elems + uptoBulkAll spare + 1
  | .agg parts => uptoBulkAll parts + 1
  | .iface _ d => uptoBulk d + 1
  | .map entries => uptoBulkEntries entries + 1
  | .held _ => 1
def uptoBulkAll {H : Type} : List (DataW H) → Nat
  | [] => 0
  | d :: r => uptoBulk d + uptoBulkAll r
def uptoBulkEntries {H : Type} : List (Lit × DataW H) → Nat
  | [] => 0
  | x :: r => uptoBulkEntry x + uptoBulkEntries r
def uptoBulkEntry {H : Type} : Lit × DataW H → Nat
  | (.string bytes, d) => bytes.length + uptoBulk d + 1
  | (_, d) => uptoBulk d + 1
 end
def uptoSmall : (H : Type) → List (DataW H) → Bool := fun _ ds => decide (uptoBulkAll ds ≤ 1048576)
def OpenSpec.upto (s : _root_.Go.ChangeSpec) : _root_.Go.OpenSpec := { _root_.Go.OpenSpec.ofChange s with cond := some uptoSmall }

/-- 'viaticumlaw24.DwellRuns', WHERE WHAT IT READS IS OF BULK AT MOST 1048576: true; the input reads as it did. -/
def dwellRunsUptoRow : OpenClaim := { program := "ytceohmbjajhlcaa", sum := "5efd0cd23132e6135e524883f87bb8da67658212e98246408254c1f37f98f553", func := "viaticum/viaticumlaw24.DwellRuns", spec := "dwellRuns", apart := false, narrowed := true }
def DwellRunsUptoSaid : Prop := dwellRunsUptoRow.holds Try.pinned (OpenSpec.upto dwellRunsSpec)

/-- 'viaticumlaw25.SegmentLegs', WHERE WHAT IT READS IS OF BULK AT MOST 1048576: true; the input reads as it did. -/
def segmentLegsUptoRow : OpenClaim := { program := "ytceohmbjajhlcaa", sum := "5efd0cd23132e6135e524883f87bb8da67658212e98246408254c1f37f98f553", func := "viaticum/viaticumlaw25.SegmentLegs", spec := "segmentLegs", unfollowed := true, recurses := true, apart := false, narrowed := true }
def SegmentLegsUptoSaid : Prop := segmentLegsUptoRow.holds Try.pinned (OpenSpec.upto segmentLegsSpec)

/-- 'viaticumlaw24.DwellTells', WHERE WHAT IT READS IS OF BULK AT MOST 1048576: true; the input reads as it did. -/
def dwellTellsUptoRow : OpenClaim := { program := "ytceohmbjajhlcaa", sum := "5efd0cd23132e6135e524883f87bb8da67658212e98246408254c1f37f98f553", func := "viaticum/viaticumlaw24.DwellTells", spec := "dwellTells", apart := false, narrowed := true }
def DwellTellsUptoSaid : Prop := dwellTellsUptoRow.holds Try.pinned (OpenSpec.upto dwellTellsSpec)

/-- 'viaticumlaw24.DwellFits', WHERE WHAT IT READS IS OF BULK AT MOST 1048576: true; the input reads as it did. -/
def dwellFitsUptoRow : OpenClaim := { program := "ytceohmbjajhlcaa", sum := "5efd0cd23132e6135e524883f87bb8da67658212e98246408254c1f37f98f553", func := "viaticum/viaticumlaw24.DwellFits", spec := "dwellFits", apart := false, narrowed := true }
def DwellFitsUptoSaid : Prop := dwellFitsUptoRow.holds Try.pinned (OpenSpec.upto dwellFitsSpec)

/-- 'viaticumlaw27.BandPrices', WHERE WHAT IT READS IS OF BULK AT MOST 1048576: true; the input reads as it did. -/
def bandPricesUptoRow : OpenClaim := { program := "ytceohmbjajhlcaa", sum := "5efd0cd23132e6135e524883f87bb8da67658212e98246408254c1f37f98f553", func := "viaticum/viaticumlaw27.BandPrices", spec := "bandPrices", apart := false, narrowed := true }
def BandPricesUptoSaid : Prop := bandPricesUptoRow.holds Try.pinned (OpenSpec.upto bandPricesSpec)

/-- 'viaticumlaw27.BandRises', WHERE WHAT IT READS IS OF BULK AT MOST 1048576: true; the input reads as it did. -/
def bandRisesUptoRow : OpenClaim := { program := "ytceohmbjajhlcaa", sum := "5efd0cd23132e6135e524883f87bb8da67658212e98246408254c1f37f98f553", func := "viaticum/viaticumlaw27.BandRises", spec := "bandRises", apart := false, narrowed := true }
def BandRisesUptoSaid : Prop := bandRisesUptoRow.holds Try.pinned (OpenSpec.upto bandRisesSpec)

/-- 'viaticumlaw25.SegmentTells', WHERE WHAT IT READS IS OF BULK AT MOST 1048576: true; the input reads as it did. -/
def segmentTellsUptoRow : OpenClaim := { program := "ytceohmbjajhlcaa", sum := "5efd0cd23132e6135e524883f87bb8da67658212e98246408254c1f37f98f553", func := "viaticum/viaticumlaw25.SegmentTells", spec := "segmentTells", unfollowed := true, recurses := true, apart := false, narrowed := true }
def SegmentTellsUptoSaid : Prop := segmentTellsUptoRow.holds Try.pinned (OpenSpec.upto segmentTellsSpec)

end Rows
end Go.Proofs.Ytceohmbjajhlcaa
