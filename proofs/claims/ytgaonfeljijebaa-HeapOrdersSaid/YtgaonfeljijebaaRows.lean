/-
  No cell of these rows narrows 'for every input' (looked for: loops, veiled, ifaces, maps, wideKeys, modest, calm, conditions, laid).
  DERIVED. THE GIVEN ROWS OF THIS SEAT. 8 by the template 'for every input the law returns true; each argument reads behind the call as it read before'; 0 by the template 'total and deterministic' (their statements: YtgaonfeljijebaaTotals.lean).
  GIVEN WITH THE SEED: the statements are not yours to turn. If you find one false, say at which input.
  Laid BY PROGRAM, IN A SANDBOX (cutbox-rows.mjs): the forced cells as the released guide's own fill.sh prints them over the translation cffad3c6f8aa3885… (all of the seat's roots in one cut). By AI agents, Wed Nov 11 2026. No macro, syntax, notation, axiom, sorry.
-/
import Derived.Test.YtgaonfeljijebaaChecked
import GoSem.Claim
import GoSem.ClaimJoined
import GoSem.ClaimMapViews
import Derived.JoinedTies
import Derived.KernelRfl
namespace Go.Proofs.Ytgaonfeljijebaa
/- THE CELL 'sum', in the pinned program and in every row, IS THE sha256 OF THE DUMP (.gsa) THAT YtgaonfeljijebaaProg.lean LOADS. Nothing in Lean hashes anything: it is a label: what it is worth is what the hold of that sum in a sandbox is worth. -/
noncomputable def Try.pinned : Pinned := { name := "ytgaonfeljijebaa", sum := "cffad3c6f8aa38851203e6be5e6cac89554e7f7142a74c696e1d7e449955f36c", checked := Try.checked }
namespace Rows
def none {H : Type} : Left H := { results := [], args := [] }

/-- 'viaticumlaw13.GeoRings': WHATEVER THE INPUT: true; the input reads as it did. -/
def geoRingsSpec : ChangeSpec := { name := "geoRings", fn := fun _ => fun
  | [d] => { results := [.lit (.bool true)], args := [d] }
  | _ => none }
def geoRingsRow : OpenClaim := { program := "ytgaonfeljijebaa", sum := "cffad3c6f8aa38851203e6be5e6cac89554e7f7142a74c696e1d7e449955f36c", func := "viaticum/viaticumlaw13.GeoRings", spec := "geoRings", apart := false }
def GeoRingsSaid : Prop := geoRingsRow.holds Try.pinned (OpenSpec.ofChange geoRingsSpec)

/-- ITS FALSE NEIGHBOUR: 'it returns false'. Refute it at one input. -/
def geoRingsWrong : ChangeSpec := { name := "geoRings", fn := fun _ => fun
  | [d] => { results := [.lit (.bool false)], args := [d] }
  | _ => none }
def GeoRingsWrongFalsely : Prop := geoRingsRow.holds Try.pinned (OpenSpec.ofChange geoRingsWrong)

/-- 'viaticumlaw20.CleanKeeps': WHATEVER THE INPUT: true; the input reads as it did. -/
def cleanKeepsSpec : ChangeSpec := { name := "cleanKeeps", fn := fun _ => fun
  | [d1, d2] => { results := [.lit (.bool true)], args := [d1, d2] }
  | _ => none }
def cleanKeepsRow : OpenClaim := { program := "ytgaonfeljijebaa", sum := "cffad3c6f8aa38851203e6be5e6cac89554e7f7142a74c696e1d7e449955f36c", func := "viaticum/viaticumlaw20.CleanKeeps", spec := "cleanKeeps", apart := false }
def CleanKeepsSaid : Prop := cleanKeepsRow.holds Try.pinned (OpenSpec.ofChange cleanKeepsSpec)

/-- ITS FALSE NEIGHBOUR: 'it returns false'. Refute it at one input. -/
def cleanKeepsWrong : ChangeSpec := { name := "cleanKeeps", fn := fun _ => fun
  | [d1, d2] => { results := [.lit (.bool false)], args := [d1, d2] }
  | _ => none }
def CleanKeepsWrongFalsely : Prop := cleanKeepsRow.holds Try.pinned (OpenSpec.ofChange cleanKeepsWrong)

/-- 'viaticumlaw20.CleanAgain': WHATEVER THE INPUT: true; the input reads as it did. -/
def cleanAgainSpec : ChangeSpec := { name := "cleanAgain", fn := fun _ => fun
  | [d1, d2] => { results := [.lit (.bool true)], args := [d1, d2] }
  | _ => none }
def cleanAgainRow : OpenClaim := { program := "ytgaonfeljijebaa", sum := "cffad3c6f8aa38851203e6be5e6cac89554e7f7142a74c696e1d7e449955f36c", func := "viaticum/viaticumlaw20.CleanAgain", spec := "cleanAgain", apart := false }
def CleanAgainSaid : Prop := cleanAgainRow.holds Try.pinned (OpenSpec.ofChange cleanAgainSpec)

/-- ITS FALSE NEIGHBOUR: 'it returns false'. Refute it at one input. -/
def cleanAgainWrong : ChangeSpec := { name := "cleanAgain", fn := fun _ => fun
  | [d1, d2] => { results := [.lit (.bool false)], args := [d1, d2] }
  | _ => none }
def CleanAgainWrongFalsely : Prop := cleanAgainRow.holds Try.pinned (OpenSpec.ofChange cleanAgainWrong)

/-- 'viaticumlaw16.HeapSorts': WHATEVER THE INPUT: true; the input reads as it did. -/
def heapSortsSpec : ChangeSpec := { name := "heapSorts", fn := fun _ => fun
  | [d] => { results := [.lit (.bool true)], args := [d] }
  | _ => none }
def heapSortsRow : OpenClaim := { program := "ytgaonfeljijebaa", sum := "cffad3c6f8aa38851203e6be5e6cac89554e7f7142a74c696e1d7e449955f36c", func := "viaticum/viaticumlaw16.HeapSorts", spec := "heapSorts", unfollowed := true, recurses := true, apart := false }
def HeapSortsSaid : Prop := heapSortsRow.holds Try.pinned (OpenSpec.ofChange heapSortsSpec)

/-- ITS FALSE NEIGHBOUR: 'it returns false'. Refute it at one input. -/
def heapSortsWrong : ChangeSpec := { name := "heapSorts", fn := fun _ => fun
  | [d] => { results := [.lit (.bool false)], args := [d] }
  | _ => none }
def HeapSortsWrongFalsely : Prop := heapSortsRow.holds Try.pinned (OpenSpec.ofChange heapSortsWrong)

/-- 'viaticumlaw16.HeapPlays': WHATEVER THE INPUT: true; the input reads as it did. -/
def heapPlaysSpec : ChangeSpec := { name := "heapPlays", fn := fun _ => fun
  | [d] => { results := [.lit (.bool true)], args := [d] }
  | _ => none }
def heapPlaysRow : OpenClaim := { program := "ytgaonfeljijebaa", sum := "cffad3c6f8aa38851203e6be5e6cac89554e7f7142a74c696e1d7e449955f36c", func := "viaticum/viaticumlaw16.HeapPlays", spec := "heapPlays", unfollowed := true, recurses := true, apart := false }
def HeapPlaysSaid : Prop := heapPlaysRow.holds Try.pinned (OpenSpec.ofChange heapPlaysSpec)

/-- ITS FALSE NEIGHBOUR: 'it returns false'. Refute it at one input. -/
def heapPlaysWrong : ChangeSpec := { name := "heapPlays", fn := fun _ => fun
  | [d] => { results := [.lit (.bool false)], args := [d] }
  | _ => none }
def HeapPlaysWrongFalsely : Prop := heapPlaysRow.holds Try.pinned (OpenSpec.ofChange heapPlaysWrong)

/-- 'viaticumlaw16.HeapOrders': WHATEVER THE INPUT: true; the input reads as it did. -/
def heapOrdersSpec : ChangeSpec := { name := "heapOrders", fn := fun _ => fun
  | [d1, d2] => { results := [.lit (.bool true)], args := [d1, d2] }
  | _ => none }
def heapOrdersRow : OpenClaim := { program := "ytgaonfeljijebaa", sum := "cffad3c6f8aa38851203e6be5e6cac89554e7f7142a74c696e1d7e449955f36c", func := "viaticum/viaticumlaw16.HeapOrders", spec := "heapOrders", unfollowed := true, recurses := true, apart := false }
def HeapOrdersSaid : Prop := heapOrdersRow.holds Try.pinned (OpenSpec.ofChange heapOrdersSpec)

/-- ITS FALSE NEIGHBOUR: 'it returns false'. Refute it at one input. -/
def heapOrdersWrong : ChangeSpec := { name := "heapOrders", fn := fun _ => fun
  | [d1, d2] => { results := [.lit (.bool false)], args := [d1, d2] }
  | _ => none }
def HeapOrdersWrongFalsely : Prop := heapOrdersRow.holds Try.pinned (OpenSpec.ofChange heapOrdersWrong)

/-- 'viaticumlaw13.GeoTells': WHATEVER THE INPUT: true; the input reads as it did. -/
def geoTellsSpec : ChangeSpec := { name := "geoTells", fn := fun _ => fun
  | [d1, d2, d3] => { results := [.lit (.bool true)], args := [d1, d2, d3] }
  | _ => none }
def geoTellsRow : OpenClaim := { program := "ytgaonfeljijebaa", sum := "cffad3c6f8aa38851203e6be5e6cac89554e7f7142a74c696e1d7e449955f36c", func := "viaticum/viaticumlaw13.GeoTells", spec := "geoTells", apart := false }
def GeoTellsSaid : Prop := geoTellsRow.holds Try.pinned (OpenSpec.ofChange geoTellsSpec)

/-- ITS FALSE NEIGHBOUR: 'it returns false'. Refute it at one input. -/
def geoTellsWrong : ChangeSpec := { name := "geoTells", fn := fun _ => fun
  | [d1, d2, d3] => { results := [.lit (.bool false)], args := [d1, d2, d3] }
  | _ => none }
def GeoTellsWrongFalsely : Prop := geoTellsRow.holds Try.pinned (OpenSpec.ofChange geoTellsWrong)

/-- 'viaticumlaw13.GeoFits': WHATEVER THE INPUT: true; the input reads as it did. -/
def geoFitsSpec : ChangeSpec := { name := "geoFits", fn := fun _ => fun
  | [d1, d2, d3] => { results := [.lit (.bool true)], args := [d1, d2, d3] }
  | _ => none }
def geoFitsRow : OpenClaim := { program := "ytgaonfeljijebaa", sum := "cffad3c6f8aa38851203e6be5e6cac89554e7f7142a74c696e1d7e449955f36c", func := "viaticum/viaticumlaw13.GeoFits", spec := "geoFits", apart := false }
def GeoFitsSaid : Prop := geoFitsRow.holds Try.pinned (OpenSpec.ofChange geoFitsSpec)

/-- ITS FALSE NEIGHBOUR: 'it returns false'. Refute it at one input. -/
def geoFitsWrong : ChangeSpec := { name := "geoFits", fn := fun _ => fun
  | [d1, d2, d3] => { results := [.lit (.bool false)], args := [d1, d2, d3] }
  | _ => none }
def GeoFitsWrongFalsely : Prop := geoFitsRow.holds Try.pinned (OpenSpec.ofChange geoFitsWrong)

/- THE SECOND FORM. 'bulk': how many values and letters a reading holds, each counted each time it is reached (what is shared counts as often as it is met; a slice's spare places count too). A statement '..UptoSaid' is the law's where the arguments, and the package variables that the reading takes, are together of bulk at most 1048576: NARROWER than '..Said'. Prove '..Said' where nothing that the law and all that it calls make is longer than what came in: it says more and counts as full. Else prove '..UptoSaid'. A law counts once. -/
mutual
def uptoBulk {H : Type} : DataW H → Nat
  | .lit (.string bytes) => bytes.length + 1
  | .lit _ => 1
  | .nil => 1
  | .ptr d => uptoBulk d + 1
  | .slice elems spare => uptoBulkAll elems + uptoBulkAll spare + 1
  | .agg parts => uptoBulkAll parts + 1
  | .iface _ d => uptoBulk d + 1
  | .map entries => uptoBulkEntries entries + 1
  | .held _ => 1
def uptoBulkAll {H : Type} : List (DataW H) → Nat
  | [] => 0
  | d :: r => uptoBulk d + uptoBulkAll r
def uptoBulkEntries {H : Type} : List (Lit × DataW H) → Nat
  | [] => 0
  | x :: r => uptoBulkEntry x + uptoBulkEntries r
def uptoBulkEntry {H : Type} : Lit × DataW H → Nat
  | (.string bytes, d) => bytes.length + uptoBulk d + 1
  | (_, d) => uptoBulk d + 1
 end
def uptoSmall : (H : Type) → List (DataW H) → Bool := fun _ ds => decide (uptoBulkAll ds ≤ 1048576)
def OpenSpec.upto (s : _root_.Go.ChangeSpec) : _root_.Go.OpenSpec := { _root_.Go.OpenSpec.ofChange s with cond := some uptoSmall }

/-- 'viaticumlaw13.GeoRings', WHERE WHAT IT READS IS OF BULK AT MOST 1048576: true; the input reads as it did. -/
def geoRingsUptoRow : OpenClaim := { program := "ytgaonfeljijebaa", sum := "cffad3c6f8aa38851203e6be5e6cac89554e7f7142a74c696e1d7e449955f36c", func := "viaticum/viaticumlaw13.GeoRings", spec := "geoRings", apart := false, narrowed := true }
def GeoRingsUptoSaid : Prop := geoRingsUptoRow.holds Try.pinned (OpenSpec.upto geoRingsSpec)

/-- 'viaticumlaw20.CleanKeeps', WHERE WHAT IT READS IS OF BULK AT MOST 1048576: true; the input reads as it did. -/
def cleanKeepsUptoRow : OpenClaim := { program := "ytgaonfeljijebaa", sum := "cffad3c6f8aa38851203e6be5e6cac89554e7f7142a74c696e1d7e449955f36c", func := "viaticum/viaticumlaw20.CleanKeeps", spec := "cleanKeeps", apart := false, narrowed := true }
def CleanKeepsUptoSaid : Prop := cleanKeepsUptoRow.holds Try.pinned (OpenSpec.upto cleanKeepsSpec)

/-- 'viaticumlaw20.CleanAgain', WHERE WHAT IT READS IS OF BULK AT MOST 1048576: true; the input reads as it did. -/
def cleanAgainUptoRow : OpenClaim := { program := "ytgaonfeljijebaa", sum := "cffad3c6f8aa38851203e6be5e6cac89554e7f7142a74c696e1d7e449955f36c", func := "viaticum/viaticumlaw20.CleanAgain", spec := "cleanAgain", apart := false, narrowed := true }
def CleanAgainUptoSaid : Prop := cleanAgainUptoRow.holds Try.pinned (OpenSpec.upto cleanAgainSpec)

/-- 'viaticumlaw16.HeapSorts', WHERE WHAT IT READS IS OF BULK AT MOST 1048576: true; the input reads as it did. -/
def heapSortsUptoRow : OpenClaim := { program := "ytgaonfeljijebaa", sum := "cffad3c6f8aa38851203e6be5e6cac89554e7f7142a74c696e1d7e449955f36c", func := "viaticum/viaticumlaw16.HeapSorts", spec := "heapSorts", unfollowed := true, recurses := true, apart := false, narrowed := true }
def HeapSortsUptoSaid : Prop := heapSortsUptoRow.holds Try.pinned (OpenSpec.upto heapSortsSpec)

/-- 'viaticumlaw16.HeapPlays', WHERE WHAT IT READS IS OF BULK AT MOST 1048576: true; the input reads as it did. -/
def heapPlaysUptoRow : OpenClaim := { program := "ytgaonfeljijebaa", sum := "cffad3c6f8aa38851203e6be5e6cac89554e7f7142a74c696e1d7e449955f36c", func := "viaticum/viaticumlaw16.HeapPlays", spec := "heapPlays", unfollowed := true, recurses := true, apart := false, narrowed := true }
def HeapPlaysUptoSaid : Prop := heapPlaysUptoRow.holds Try.pinned (OpenSpec.upto heapPlaysSpec)

/-- 'viaticumlaw16.HeapOrders', WHERE WHAT IT READS IS OF BULK AT MOST 1048576: true; the input reads as it did. -/
def heapOrdersUptoRow : OpenClaim := { program := "ytgaonfeljijebaa", sum := "cffad3c6f8aa38851203e6be5e6cac89554e7f7142a74c696e1d7e449955f36c", func := "viaticum/viaticumlaw16.HeapOrders", spec := "heapOrders", unfollowed := true, recurses := true, apart := false, narrowed := true }
def HeapOrdersUptoSaid : Prop := heapOrdersUptoRow.holds Try.pinned (OpenSpec.upto heapOrdersSpec)

/-- 'viaticumlaw13.GeoTells', WHERE WHAT IT READS IS OF BULK AT MOST 1048576: true; the input reads as it did. -/
def geoTellsUptoRow : OpenClaim := { program := "ytgaonfeljijebaa", sum := "cffad3c6f8aa38851203e6be5e6cac89554e7f7142a74c696e1d7e449955f36c", func := "viaticum/viaticumlaw13.GeoTells", spec := "geoTells", apart := false, narrowed := true }
def GeoTellsUptoSaid : Prop := geoTellsUptoRow.holds Try.pinned (OpenSpec.upto geoTellsSpec)

/-- 'viaticumlaw13.GeoFits', WHERE WHAT IT READS IS OF BULK AT MOST 1048576: true; the input reads as it did. -/
def geoFitsUptoRow : OpenClaim := { program := "ytgaonfeljijebaa", sum := "cffad3c6f8aa38851203e6be5e6cac89554e7f7142a74c696e1d7e449955f36c", func := "viaticum/viaticumlaw13.GeoFits", spec := "geoFits", apart := false, narrowed := true }
def GeoFitsUptoSaid : Prop := geoFitsUptoRow.holds Try.pinned (OpenSpec.upto geoFitsSpec)

end Rows
end Go.Proofs.Ytgaonfeljijebaa
