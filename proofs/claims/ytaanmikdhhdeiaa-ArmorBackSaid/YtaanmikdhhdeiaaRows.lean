/-
  No cell of these rows narrows 'for every input' (looked for: loops, veiled, ifaces, maps, wideKeys, modest, calm, conditions, laid).
  DERIVED. THE GIVEN ROWS OF THIS SEAT. 3 by the template 'for every input the law returns true; each argument reads behind the call as it read before'; 0 by the template 'total and deterministic' (their statements: YtaanmikdhhdeiaaTotals.lean).
  GIVEN WITH THE SEED: the statements are not yours to turn. If you find one false, say at which input.
  Laid BY PROGRAM, IN A SANDBOX (cutbox-rows.mjs): the forced cells as the released guide's own fill.sh prints them over the translation 664992bfcfbaf9d0… (all of the seat's roots in one cut). By AI agents, Wed Nov 11 2026. No macro, syntax, notation, axiom, sorry.
-/
import Derived.Test.YtaanmikdhhdeiaaChecked
import GoSem.Claim
import GoSem.ClaimJoined
import GoSem.ClaimMapViews
import Derived.JoinedTies
import Derived.KernelRfl
namespace Go.Proofs.Ytaanmikdhhdeiaa
/- THE CELL 'sum', in the pinned program and in every row, IS THE sha256 OF THE DUMP (.gsa) THAT YtaanmikdhhdeiaaProg.lean LOADS. Nothing in Lean hashes anything: it is a label: what it is worth is what the hold of that sum in a sandbox is worth. -/
noncomputable def Try.pinned : Pinned := { name := "ytaanmikdhhdeiaa", sum := "664992bfcfbaf9d066d003b6b1024fb4d838972a931ae6a36f1490c5915c1e03", checked := Try.checked }
namespace Rows
def none {H : Type} : Left H := { results := [], args := [] }

/-- 'viaticumlaw47.ArmorTexts': WHATEVER THE INPUT: true; the input reads as it did. -/
def armorTextsSpec : ChangeSpec := { name := "armorTexts", fn := fun _ => fun
  | [d] => { results := [.lit (.bool true)], args := [d] }
  | _ => none }
def armorTextsRow : OpenClaim := { program := "ytaanmikdhhdeiaa", sum := "664992bfcfbaf9d066d003b6b1024fb4d838972a931ae6a36f1490c5915c1e03", func := "viaticum/viaticumlaw47.ArmorTexts", spec := "armorTexts", inPlace := ["internal/abi.NoEscape"], apart := false }
def ArmorTextsSaid : Prop := armorTextsRow.holds Try.pinned (OpenSpec.ofChange armorTextsSpec)

/-- ITS FALSE NEIGHBOUR: 'it returns false'. Refute it at one input. -/
def armorTextsWrong : ChangeSpec := { name := "armorTexts", fn := fun _ => fun
  | [d] => { results := [.lit (.bool false)], args := [d] }
  | _ => none }
def ArmorTextsWrongFalsely : Prop := armorTextsRow.holds Try.pinned (OpenSpec.ofChange armorTextsWrong)

/-- 'viaticumlaw47.ArmorReads': WHATEVER THE INPUT: true; the input reads as it did. -/
def armorReadsSpec : ChangeSpec := { name := "armorReads", fn := fun _ => fun
  | [d] => { results := [.lit (.bool true)], args := [d] }
  | _ => none }
def armorReadsRow : OpenClaim := { program := "ytaanmikdhhdeiaa", sum := "664992bfcfbaf9d066d003b6b1024fb4d838972a931ae6a36f1490c5915c1e03", func := "viaticum/viaticumlaw47.ArmorReads", spec := "armorReads", inPlace := ["internal/abi.NoEscape"], apart := false }
def ArmorReadsSaid : Prop := armorReadsRow.holds Try.pinned (OpenSpec.ofChange armorReadsSpec)

/-- ITS FALSE NEIGHBOUR: 'it returns false'. Refute it at one input. -/
def armorReadsWrong : ChangeSpec := { name := "armorReads", fn := fun _ => fun
  | [d] => { results := [.lit (.bool false)], args := [d] }
  | _ => none }
def ArmorReadsWrongFalsely : Prop := armorReadsRow.holds Try.pinned (OpenSpec.ofChange armorReadsWrong)

/-- 'viaticumlaw47.ArmorBack': WHATEVER THE INPUT: true; the input reads as it did. -/
def armorBackSpec : ChangeSpec := { name := "armorBack", fn := fun _ => fun
  | [d1, d2] => { results := [.lit (.bool true)], args := [d1, d2] }
  | _ => none }
def armorBackRow : OpenClaim := { program := "ytaanmikdhhdeiaa", sum := "664992bfcfbaf9d066d003b6b1024fb4d838972a931ae6a36f1490c5915c1e03", func := "viaticum/viaticumlaw47.ArmorBack", spec := "armorBack", inPlace := ["internal/abi.NoEscape"], apart := false }
def ArmorBackSaid : Prop := armorBackRow.holds Try.pinned (OpenSpec.ofChange armorBackSpec)

/-- ITS FALSE NEIGHBOUR: 'it returns false'. Refute it at one input. -/
def armorBackWrong : ChangeSpec := { name := "armorBack", fn := fun _ => fun
  | [d1, d2] => { results := [.lit (.bool false)], args := [d1, d2] }
  | _ => none }
def ArmorBackWrongFalsely : Prop := armorBackRow.holds Try.pinned (OpenSpec.ofChange armorBackWrong)

/- THE SECOND FORM. 'bulk': how many values and letters a reading holds, each counted each time it is reached (what is shared counts as often as it is met; a slice's spare places count too). A statement '..UptoSaid' is the law's where the arguments, and the package variables that the reading takes, are together of bulk at most 1048576: NARROWER than '..Said'. Prove '..Said' where nothing that the law and all that it calls make is longer than what came in: it says more and counts as full. Else prove '..UptoSaid'. A law counts once. -/
mutual
def uptoBulk {H : Type} : DataW H → Nat
  | .lit (.string bytes) => bytes.length + 1
  | .lit _ => 1
  | .nil => 1
  | .ptr d => uptoBulk d + 1
  | .slice elems spare => uptoBulkAll elems + uptoBulkAll spare + 1
  | .agg parts => uptoBulkAll parts + 1
  | .iface _ d => uptoBulk d + 1
  | .map entries => uptoBulkEntries entries + 1
  | .held _ => 1
def uptoBulkAll {H : Type} : List (DataW H) → Nat
  | [] => 0
  | d :: r => uptoBulk d + uptoBulkAll r
def uptoBulkEntries {H : Type} : List (Lit × DataW H) → Nat
  | [] => 0
  | x :: r => uptoBulkEntry x + uptoBulkEntries r
def uptoBulkEntry {H : Type} : Lit × DataW H → Nat
  | (.string bytes, d) => bytes.length + uptoBulk d + 1
  | (_, d) => uptoBulk d + 1
 end
def uptoSmall : (H : Type) → List (DataW H) → Bool := fun _ ds => decide (uptoBulkAll ds ≤ 1048576)
def OpenSpec.upto (s : _root_.Go.ChangeSpec) : _root_.Go.OpenSpec := { _root_.Go.OpenSpec.ofChange s with cond := some uptoSmall }

/-- 'viaticumlaw47.ArmorTexts', WHERE WHAT IT READS IS OF BULK AT MOST 1048576: true; the input reads as it did. -/
def armorTextsUptoRow : OpenClaim := { program := "ytaanmikdhhdeiaa", sum := "664992bfcfbaf9d066d003b6b1024fb4d838972a931ae6a36f1490c5915c1e03", func := "viaticum/viaticumlaw47.ArmorTexts", spec := "armorTexts", inPlace := ["internal/abi.NoEscape"], apart := false, narrowed := true }
def ArmorTextsUptoSaid : Prop := armorTextsUptoRow.holds Try.pinned (OpenSpec.upto armorTextsSpec)

/-- 'viaticumlaw47.ArmorReads', WHERE WHAT IT READS IS OF BULK AT MOST 1048576: true; the input reads as it did. -/
def armorReadsUptoRow : OpenClaim := { program := "ytaanmikdhhdeiaa", sum := "664992bfcfbaf9d066d003b6b1024fb4d838972a931ae6a36f1490c5915c1e03", func := "viaticum/viaticumlaw47.ArmorReads", spec := "armorReads", inPlace := ["internal/abi.NoEscape"], apart := false, narrowed := true }
def ArmorReadsUptoSaid : Prop := armorReadsUptoRow.holds Try.pinned (OpenSpec.upto armorReadsSpec)

/-- 'viaticumlaw47.ArmorBack', WHERE WHAT IT READS IS OF BULK AT MOST 1048576: true; the input reads as it did. -/
def armorBackUptoRow : OpenClaim := { program := "ytaanmikdhhdeiaa", sum := "664992bfcfbaf9d066d003b6b1024fb4d838972a931ae6a36f1490c5915c1e03", func := "viaticum/viaticumlaw47.ArmorBack", spec := "armorBack", inPlace := ["internal/abi.NoEscape"], apart := false, narrowed := true }
def ArmorBackUptoSaid : Prop := armorBackUptoRow.holds Try.pinned (OpenSpec.upto armorBackSpec)

end Rows
end Go.Proofs.Ytaanmikdhhdeiaa
