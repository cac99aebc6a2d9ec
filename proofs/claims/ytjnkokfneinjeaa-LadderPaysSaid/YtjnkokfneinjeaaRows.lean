/-
  No cell of these rows narrows 'for every input' (looked for: loops, veiled, ifaces, maps, wideKeys, modest, calm, conditions, laid).
  DERIVED. THE GIVEN ROWS OF THIS SEAT. 8 by the template 'for every input the law returns true; each argument reads behind the call as it read before'; 0 by the template 'total and deterministic' (their statements: YtjnkokfneinjeaaTotals.lean).
  GIVEN WITH THE SEED: the statements are not yours to turn. If you find one false, say at which input.
  Laid BY PROGRAM, IN A SANDBOX (cutbox-rows.mjs): the forced cells as the released guide's own fill.sh prints them over the translation ac5006350a48e478… (all of the seat's roots in one cut). By AI agents, Wed Nov 11 2026. No macro, syntax, notation, axiom, sorry.
-/
import Derived.Test.YtjnkokfneinjeaaChecked
import GoSem.Claim
import GoSem.ClaimJoined
import GoSem.ClaimMapViews
import Derived.JoinedTies
import Derived.KernelRfl
namespace Go.Proofs.Ytjnkokfneinjeaa
/- THE CELL 'sum', in the pinned program and in every row, IS THE sha256 OF THE DUMP (.gsa) THAT YtjnkokfneinjeaaProg.lean LOADS. Nothing in Lean hashes anything: it is a label: what it is worth is what the hold of that sum in a sandbox is worth. -/
noncomputable def Try.pinned : Pinned := { name := "ytjnkokfneinjeaa", sum := "ac5006350a48e47843649452dd6099a36c5e7d798022957304a2d4ad849bea87", checked := Try.checked }
namespace Rows
def none {H : Type} : Left H := { results := [], args := [] }

/-- 'viaticumlaw28.ConcessionApplies': WHATEVER THE INPUT: true; the input reads as it did. -/
def concessionAppliesSpec : ChangeSpec := { name := "concessionApplies", fn := fun _ => fun
  | [d1, d2, d3] => { results := [.lit (.bool true)], args := [d1, d2, d3] }
  | _ => none }
def concessionAppliesRow : OpenClaim := { program := "ytjnkokfneinjeaa", sum := "ac5006350a48e47843649452dd6099a36c5e7d798022957304a2d4ad849bea87", func := "viaticum/viaticumlaw28.ConcessionApplies", spec := "concessionApplies", apart := false }
def ConcessionAppliesSaid : Prop := concessionAppliesRow.holds Try.pinned (OpenSpec.ofChange concessionAppliesSpec)

/-- ITS FALSE NEIGHBOUR: 'it returns false'. Refute it at one input. -/
def concessionAppliesWrong : ChangeSpec := { name := "concessionApplies", fn := fun _ => fun
  | [d1, d2, d3] => { results := [.lit (.bool false)], args := [d1, d2, d3] }
  | _ => none }
def ConcessionAppliesWrongFalsely : Prop := concessionAppliesRow.holds Try.pinned (OpenSpec.ofChange concessionAppliesWrong)

/-- 'viaticumlaw28.ConcessionFits': WHATEVER THE INPUT: true; the input reads as it did. -/
def concessionFitsSpec : ChangeSpec := { name := "concessionFits", fn := fun _ => fun
  | [d1, d2, d3] => { results := [.lit (.bool true)], args := [d1, d2, d3] }
  | _ => none }
def concessionFitsRow : OpenClaim := { program := "ytjnkokfneinjeaa", sum := "ac5006350a48e47843649452dd6099a36c5e7d798022957304a2d4ad849bea87", func := "viaticum/viaticumlaw28.ConcessionFits", spec := "concessionFits", apart := false }
def ConcessionFitsSaid : Prop := concessionFitsRow.holds Try.pinned (OpenSpec.ofChange concessionFitsSpec)

/-- ITS FALSE NEIGHBOUR: 'it returns false'. Refute it at one input. -/
def concessionFitsWrong : ChangeSpec := { name := "concessionFits", fn := fun _ => fun
  | [d1, d2, d3] => { results := [.lit (.bool false)], args := [d1, d2, d3] }
  | _ => none }
def ConcessionFitsWrongFalsely : Prop := concessionFitsRow.holds Try.pinned (OpenSpec.ofChange concessionFitsWrong)

/-- 'viaticumlaw30.RoundingRounds': WHATEVER THE INPUT: true; the input reads as it did. -/
def roundingRoundsSpec : ChangeSpec := { name := "roundingRounds", fn := fun _ => fun
  | [d1, d2, d3] => { results := [.lit (.bool true)], args := [d1, d2, d3] }
  | _ => none }
def roundingRoundsRow : OpenClaim := { program := "ytjnkokfneinjeaa", sum := "ac5006350a48e47843649452dd6099a36c5e7d798022957304a2d4ad849bea87", func := "viaticum/viaticumlaw30.RoundingRounds", spec := "roundingRounds", apart := false }
def RoundingRoundsSaid : Prop := roundingRoundsRow.holds Try.pinned (OpenSpec.ofChange roundingRoundsSpec)

/-- ITS FALSE NEIGHBOUR: 'it returns false'. Refute it at one input. -/
def roundingRoundsWrong : ChangeSpec := { name := "roundingRounds", fn := fun _ => fun
  | [d1, d2, d3] => { results := [.lit (.bool false)], args := [d1, d2, d3] }
  | _ => none }
def RoundingRoundsWrongFalsely : Prop := roundingRoundsRow.holds Try.pinned (OpenSpec.ofChange roundingRoundsWrong)

/-- 'viaticumlaw30.RoundingNear': WHATEVER THE INPUT: true; the input reads as it did. -/
def roundingNearSpec : ChangeSpec := { name := "roundingNear", fn := fun _ => fun
  | [d1, d2] => { results := [.lit (.bool true)], args := [d1, d2] }
  | _ => none }
def roundingNearRow : OpenClaim := { program := "ytjnkokfneinjeaa", sum := "ac5006350a48e47843649452dd6099a36c5e7d798022957304a2d4ad849bea87", func := "viaticum/viaticumlaw30.RoundingNear", spec := "roundingNear", apart := false }
def RoundingNearSaid : Prop := roundingNearRow.holds Try.pinned (OpenSpec.ofChange roundingNearSpec)

/-- ITS FALSE NEIGHBOUR: 'it returns false'. Refute it at one input. -/
def roundingNearWrong : ChangeSpec := { name := "roundingNear", fn := fun _ => fun
  | [d1, d2] => { results := [.lit (.bool false)], args := [d1, d2] }
  | _ => none }
def RoundingNearWrongFalsely : Prop := roundingNearRow.holds Try.pinned (OpenSpec.ofChange roundingNearWrong)

/-- 'viaticumlaw28.ConcessionBest': WHATEVER THE INPUT: true; the input reads as it did. -/
def concessionBestSpec : ChangeSpec := { name := "concessionBest", fn := fun _ => fun
  | [d1, d2, d3] => { results := [.lit (.bool true)], args := [d1, d2, d3] }
  | _ => none }
def concessionBestRow : OpenClaim := { program := "ytjnkokfneinjeaa", sum := "ac5006350a48e47843649452dd6099a36c5e7d798022957304a2d4ad849bea87", func := "viaticum/viaticumlaw28.ConcessionBest", spec := "concessionBest", apart := false }
def ConcessionBestSaid : Prop := concessionBestRow.holds Try.pinned (OpenSpec.ofChange concessionBestSpec)

/-- ITS FALSE NEIGHBOUR: 'it returns false'. Refute it at one input. -/
def concessionBestWrong : ChangeSpec := { name := "concessionBest", fn := fun _ => fun
  | [d1, d2, d3] => { results := [.lit (.bool false)], args := [d1, d2, d3] }
  | _ => none }
def ConcessionBestWrongFalsely : Prop := concessionBestRow.holds Try.pinned (OpenSpec.ofChange concessionBestWrong)

/-- 'viaticumlaw30.RoundingSplits': WHATEVER THE INPUT: true; the input reads as it did. -/
def roundingSplitsSpec : ChangeSpec := { name := "roundingSplits", fn := fun _ => fun
  | [d1, d2] => { results := [.lit (.bool true)], args := [d1, d2] }
  | _ => none }
def roundingSplitsRow : OpenClaim := { program := "ytjnkokfneinjeaa", sum := "ac5006350a48e47843649452dd6099a36c5e7d798022957304a2d4ad849bea87", func := "viaticum/viaticumlaw30.RoundingSplits", spec := "roundingSplits", apart := false }
def RoundingSplitsSaid : Prop := roundingSplitsRow.holds Try.pinned (OpenSpec.ofChange roundingSplitsSpec)

/-- ITS FALSE NEIGHBOUR: 'it returns false'. Refute it at one input. -/
def roundingSplitsWrong : ChangeSpec := { name := "roundingSplits", fn := fun _ => fun
  | [d1, d2] => { results := [.lit (.bool false)], args := [d1, d2] }
  | _ => none }
def RoundingSplitsWrongFalsely : Prop := roundingSplitsRow.holds Try.pinned (OpenSpec.ofChange roundingSplitsWrong)

/-- 'viaticumlaw31.LadderFits': WHATEVER THE INPUT: true; the input reads as it did. -/
def ladderFitsSpec : ChangeSpec := { name := "ladderFits", fn := fun _ => fun
  | [d1, d2] => { results := [.lit (.bool true)], args := [d1, d2] }
  | _ => none }
def ladderFitsRow : OpenClaim := { program := "ytjnkokfneinjeaa", sum := "ac5006350a48e47843649452dd6099a36c5e7d798022957304a2d4ad849bea87", func := "viaticum/viaticumlaw31.LadderFits", spec := "ladderFits", unfollowed := true, recurses := true, apart := false }
def LadderFitsSaid : Prop := ladderFitsRow.holds Try.pinned (OpenSpec.ofChange ladderFitsSpec)

/-- ITS FALSE NEIGHBOUR: 'it returns false'. Refute it at one input. -/
def ladderFitsWrong : ChangeSpec := { name := "ladderFits", fn := fun _ => fun
  | [d1, d2] => { results := [.lit (.bool false)], args := [d1, d2] }
  | _ => none }
def LadderFitsWrongFalsely : Prop := ladderFitsRow.holds Try.pinned (OpenSpec.ofChange ladderFitsWrong)

/-- 'viaticumlaw31.LadderPays': WHATEVER THE INPUT: true; the input reads as it did. -/
def ladderPaysSpec : ChangeSpec := { name := "ladderPays", fn := fun _ => fun
  | [d1, d2] => { results := [.lit (.bool true)], args := [d1, d2] }
  | _ => none }
def ladderPaysRow : OpenClaim := { program := "ytjnkokfneinjeaa", sum := "ac5006350a48e47843649452dd6099a36c5e7d798022957304a2d4ad849bea87", func := "viaticum/viaticumlaw31.LadderPays", spec := "ladderPays", unfollowed := true, recurses := true, apart := false }
def LadderPaysSaid : Prop := ladderPaysRow.holds Try.pinned (OpenSpec.ofChange ladderPaysSpec)

/-- ITS FALSE NEIGHBOUR: 'it returns false'. Refute it at one input. -/
def ladderPaysWrong : ChangeSpec := { name := "ladderPays", fn := fun _ => fun
  | [d1, d2] => { results := [.lit (.bool false)], args := [d1, d2] }
  | _ => none }
def LadderPaysWrongFalsely : Prop := ladderPaysRow.holds Try.pinned (OpenSpec.ofChange ladderPaysWrong)

/- THE SECOND FORM. 'bulk': how many values and letters a reading holds, each counted each time it is reached (what is shared counts as often as it is met; a slice's spare places count too). A statement '..UptoSaid' is the law's where the arguments, and the package variables that the reading takes, are together of bulk at most 1048576: NARROWER than '..Said'. Prove '..Said' where nothing that the law and all that it calls make is longer than what came in: it says more and counts as full. Else prove '..UptoSaid'. A law counts once. -/
mutual
def uptoBulk {H : Type} : DataW H → Nat
  | .lit (.string bytes) => bytes.length + 1
  | .lit _ => 1
  | .nil => 1
  | .ptr d => uptoBulk d + 1
  | .slice elems spare => uptoBulkAll elems + uptoBulkAll spare + 1
  | .agg parts => uptoBulkAll parts + 1
  | .iface _ d => uptoBulk d + 1
  | .map entries => uptoBulkEntries entries + 1
  | .held _ => 1
def uptoBulkAll {H : Type} : List (DataW H) → Nat
  | [] => 0
  | d :: r => uptoBulk d + uptoBulkAll r
def uptoBulkEntries {H : Type} : List (Lit × DataW H) → Nat
  | [] => 0
  | x :: r => uptoBulkEntry x + uptoBulkEntries r
def uptoBulkEntry {H : Type} : Lit × DataW H → Nat
  | (.string bytes, d) => bytes.length + uptoBulk d + 1
  | (_, d) => uptoBulk d + 1
 end
def uptoSmall : (H : Type) → List (DataW H) → Bool := fun _ ds => decide (uptoBulkAll ds ≤ 1048576)
def OpenSpec.upto (s : _root_.Go.ChangeSpec) : _root_.Go.OpenSpec := { _root_.Go.OpenSpec.ofChange s with cond := some uptoSmall }

/-- 'viaticumlaw28.ConcessionApplies', WHERE WHAT IT READS IS OF BULK AT MOST 1048576: true; the input reads as it did. -/
def concessionAppliesUptoRow : OpenClaim := { program := "ytjnkokfneinjeaa", sum := "ac5006350a48e47843649452dd6099a36c5e7d798022957304a2d4ad849bea87", func := "viaticum/viaticumlaw28.ConcessionApplies", spec := "concessionApplies", apart := false, narrowed := true }
def ConcessionAppliesUptoSaid : Prop := concessionAppliesUptoRow.holds Try.pinned (OpenSpec.upto concessionAppliesSpec)

/-- 'viaticumlaw28.ConcessionFits', WHERE WHAT IT READS IS OF BULK AT MOST 1048576: true; the input reads as it did. -/
def concessionFitsUptoRow : OpenClaim := { program := "ytjnkokfneinjeaa", sum := "ac5006350a48e47843649452dd6099a36c5e7d798022957304a2d4ad849bea87", func := "viaticum/viaticumlaw28.ConcessionFits", spec := "concessionFits", apart := false, narrowed := true }
def ConcessionFitsUptoSaid : Prop := concessionFitsUptoRow.holds Try.pinned (OpenSpec.upto concessionFitsSpec)

/-- 'viaticumlaw30.RoundingRounds', WHERE WHAT IT READS IS OF BULK AT MOST 1048576: true; the input reads as it did. -/
def roundingRoundsUptoRow : OpenClaim := { program := "ytjnkokfneinjeaa", sum := "ac5006350a48e47843649452dd6099a36c5e7d798022957304a2d4ad849bea87", func := "viaticum/viaticumlaw30.RoundingRounds", spec := "roundingRounds", apart := false, narrowed := true }
def RoundingRoundsUptoSaid : Prop := roundingRoundsUptoRow.holds Try.pinned (OpenSpec.upto roundingRoundsSpec)

/-- 'viaticumlaw30.RoundingNear', WHERE WHAT IT READS IS OF BULK AT MOST 1048576: true; the input reads as it did. -/
def roundingNearUptoRow : OpenClaim := { program := "ytjnkokfneinjeaa", sum := "ac5006350a48e47843649452dd6099a36c5e7d798022957304a2d4ad849bea87", func := "viaticum/viaticumlaw30.RoundingNear", spec := "roundingNear", apart := false, narrowed := true }
def RoundingNearUptoSaid : Prop := roundingNearUptoRow.holds Try.pinned (OpenSpec.upto roundingNearSpec)

/-- 'viaticumlaw28.ConcessionBest', WHERE WHAT IT READS IS OF BULK AT MOST 1048576: true; the input reads as it did. -/
def concessionBestUptoRow : OpenClaim := { program := "ytjnkokfneinjeaa", sum := "ac5006350a48e47843649452dd6099a36c5e7d798022957304a2d4ad849bea87", func := "viaticum/viaticumlaw28.ConcessionBest", spec := "concessionBest", apart := false, narrowed := true }
def ConcessionBestUptoSaid : Prop := concessionBestUptoRow.holds Try.pinned (OpenSpec.upto concessionBestSpec)

/-- 'viaticumlaw30.RoundingSplits', WHERE WHAT IT READS IS OF BULK AT MOST 1048576: true; the input reads as it did. -/
def roundingSplitsUptoRow : OpenClaim := { program := "ytjnkokfneinjeaa", sum := "ac5006350a48e47843649452dd6099a36c5e7d798022957304a2d4ad849bea87", func := "viaticum/viaticumlaw30.RoundingSplits", spec := "roundingSplits", apart := false, narrowed := true }
def RoundingSplitsUptoSaid : Prop := roundingSplitsUptoRow.holds Try.pinned (OpenSpec.upto roundingSplitsSpec)

/-- 'viaticumlaw31.LadderFits', WHERE WHAT IT READS IS OF BULK AT MOST 1048576: true; the input reads as it did. -/
def ladderFitsUptoRow : OpenClaim := { program := "ytjnkokfneinjeaa", sum := "ac5006350a48e47843649452dd6099a36c5e7d798022957304a2d4ad849bea87", func := "viaticum/viaticumlaw31.LadderFits", spec := "ladderFits", unfollowed := true, recurses := true, apart := false, narrowed := true }
def LadderFitsUptoSaid : Prop := ladderFitsUptoRow.holds Try.pinned (OpenSpec.upto ladderFitsSpec)

/-- 'viaticumlaw31.LadderPays', WHERE WHAT IT READS IS OF BULK AT MOST 1048576: true; the input reads as it did. -/
def ladderPaysUptoRow : OpenClaim := { program := "ytjnkokfneinjeaa", sum := "ac5006350a48e47843649452dd6099a36c5e7d798022957304a2d4ad849bea87", func := "viaticum/viaticumlaw31.LadderPays", spec := "ladderPays", unfollowed := true, recurses := true, apart := false, narrowed := true }
def LadderPaysUptoSaid : Prop := ladderPaysUptoRow.holds Try.pinned (OpenSpec.upto ladderPaysSpec)

end Rows
end Go.Proofs.Ytjnkokfneinjeaa
