/-
  NARROWER THAN 'FOR EVERY INPUT', by the rows' own cells (each row's printed sentence says how): CalendarDays: laid · CalendarTexts: laid · CalendarBack: laid.
  DERIVED. THE GIVEN ROWS OF THIS SEAT. 3 by the template 'for every input the law returns true; each argument reads behind the call as it read before'; 0 by the template 'total and deterministic' (their statements: YtaanmikdhhdeiaaDoorTotals.lean).
  GIVEN WITH THE SEED: the statements are not yours to turn. If you find one false, say at which input.
  Laid BY PROGRAM, IN A SANDBOX (cutbox-rows.mjs): the forced cells as the released guide's own fill.sh prints them over the translation ab766746463dbd11… (all of the seat's roots in one cut). By AI agents, Wed Nov 11 2026. No macro, syntax, notation, axiom, sorry.
-/
import Derived.Test.YtaanmikdhhdeiaaDoorChecked
import GoSem.Claim
import GoSem.ClaimJoined
import GoSem.ClaimMapViews
import Derived.JoinedTies
import Derived.KernelRfl
namespace Go.Proofs.YtaanmikdhhdeiaaDoor
/- THE CELL 'sum', in the pinned program and in every row, IS THE sha256 OF THE DUMP (.gsa) THAT YtaanmikdhhdeiaaDoorProg.lean LOADS. Nothing in Lean hashes anything: it is a label: what it is worth is what the hold of that sum in a sandbox is worth. -/
noncomputable def Tryd.pinned : Pinned := { name := "ytaanmikdhhdeiaadoor", sum := "ab766746463dbd110dc8c9d9ed9725c7b49ea140e26ef7669b06331b649bb161", checked := Tryd.checked }
namespace Rows
def none {H : Type} : Left H := { results := [], args := [] }

/- WHAT THE LISTED PACKAGE-LEVEL VARIABLES READ AS WHEN THE CALL BEGINS. Each datum BY PROGRAM (the guide's laid-datum.mjs) off the statement by which the dump's own 'gosem.cut.vars' lays the variable. In a bare row this is a premise. The card (YtaanmikdhhdeiaaDoorCards.lean) ties it to the program's text. -/
def laid_viaticum_calendar_days {H : Type} : DataW H := .agg [.lit (.int .i64 0), .lit (.int .i64 31), .lit (.int .i64 28), .lit (.int .i64 31), .lit (.int .i64 30), .lit (.int .i64 31), .lit (.int .i64 30), .lit (.int .i64 31), .lit (.int .i64 31), .lit (.int .i64 30), .lit (.int .i64 31), .lit (.int .i64 30), .lit (.int .i64 31)]

/-- 'viaticumlaw54.CalendarDays': WHATEVER THE INPUT: true; the input reads as it did. -/
def calendarDaysSpec : ChangeSpec := { name := "calendarDays", fn := fun _ => fun
  | [d1, d2] => { results := [.lit (.bool true)], args := [d1, d2] }
  | _ => none }
def calendarDaysRow : OpenClaim := { program := "ytaanmikdhhdeiaadoor", sum := "ab766746463dbd110dc8c9d9ed9725c7b49ea140e26ef7669b06331b649bb161", func := "viaticum/viaticumlaw54.CalendarDays", spec := "calendarDays", named := ["viaticum/calendar.days"], apart := false, laid := [("viaticum/calendar.days", laid_viaticum_calendar_days)] }
def CalendarDaysSaid : Prop := calendarDaysRow.holds Tryd.pinned (OpenSpec.ofChange calendarDaysSpec)

/-- ITS FALSE NEIGHBOUR: 'it returns false'. Refute it at one input. -/
def calendarDaysWrong : ChangeSpec := { name := "calendarDays", fn := fun _ => fun
  | [d1, d2] => { results := [.lit (.bool false)], args := [d1, d2] }
  | _ => none }
def CalendarDaysWrongFalsely : Prop := calendarDaysRow.holds Tryd.pinned (OpenSpec.ofChange calendarDaysWrong)

/-- 'viaticumlaw54.CalendarTexts': WHATEVER THE INPUT: true; the input reads as it did. -/
def calendarTextsSpec : ChangeSpec := { name := "calendarTexts", fn := fun _ => fun
  | [d1, d2] => { results := [.lit (.bool true)], args := [d1, d2] }
  | _ => none }
def calendarTextsRow : OpenClaim := { program := "ytaanmikdhhdeiaadoor", sum := "ab766746463dbd110dc8c9d9ed9725c7b49ea140e26ef7669b06331b649bb161", func := "viaticum/viaticumlaw54.CalendarTexts", spec := "calendarTexts", named := ["viaticum/calendar.days"], apart := false, laid := [("viaticum/calendar.days", laid_viaticum_calendar_days)] }
def CalendarTextsSaid : Prop := calendarTextsRow.holds Tryd.pinned (OpenSpec.ofChange calendarTextsSpec)

/-- ITS FALSE NEIGHBOUR: 'it returns false'. Refute it at one input. -/
def calendarTextsWrong : ChangeSpec := { name := "calendarTexts", fn := fun _ => fun
  | [d1, d2] => { results := [.lit (.bool false)], args := [d1, d2] }
  | _ => none }
def CalendarTextsWrongFalsely : Prop := calendarTextsRow.holds Tryd.pinned (OpenSpec.ofChange calendarTextsWrong)

/-- 'viaticumlaw54.CalendarBack': WHATEVER THE INPUT: true; the input reads as it did. -/
def calendarBackSpec : ChangeSpec := { name := "calendarBack", fn := fun _ => fun
  | [d] => { results := [.lit (.bool true)], args := [d] }
  | _ => none }
def calendarBackRow : OpenClaim := { program := "ytaanmikdhhdeiaadoor", sum := "ab766746463dbd110dc8c9d9ed9725c7b49ea140e26ef7669b06331b649bb161", func := "viaticum/viaticumlaw54.CalendarBack", spec := "calendarBack", named := ["viaticum/calendar.days"], apart := false, laid := [("viaticum/calendar.days", laid_viaticum_calendar_days)] }
def CalendarBackSaid : Prop := calendarBackRow.holds Tryd.pinned (OpenSpec.ofChange calendarBackSpec)

/-- ITS FALSE NEIGHBOUR: 'it returns false'. Refute it at one input. -/
def calendarBackWrong : ChangeSpec := { name := "calendarBack", fn := fun _ => fun
  | [d] => { results := [.lit (.bool false)], args := [d] }
  | _ => none }
def CalendarBackWrongFalsely : Prop := calendarBackRow.holds Tryd.pinned (OpenSpec.ofChange calendarBackWrong)

/- THE SECOND FORM. 'bulk': how many values and letters a reading holds, each counted each time it is reached (what is shared counts as often as it is met; a slice's spare places count too). A statement '..UptoSaid' is the law's where the arguments, and the package variables that the reading takes, are together of bulk at most 1048576: NARROWER than '..Said'. Prove '..Said' where nothing that the law and all that it calls make is longer than what came in: it says more and counts as full. Else prove '..UptoSaid'. A law counts once. -/
mutual
def uptoBulk {H : Type} : DataW H → Nat
  | .lit (.string bytes) => bytes.length + 1
  | .lit _ => 1
  | .nil => 1
  | .ptr d => uptoBulk d + 1
  | .slice elems spare => uptoBulkAll elems + uptoBulkAll spare + 1
  | .agg parts => uptoBulkAll parts + 1
  | .iface _ d => uptoBulk d + 1
  | .map entries => uptoBulkEntries entries + 1
  | .held _ => 1
def uptoBulkAll {H : Type} : List (DataW H) → Nat
  | [] => 0
  | d :: r => uptoBulk d + uptoBulkAll r
def uptoBulkEntries {H : Type} : List (Lit × DataW H) → Nat
  | [] => 0
  | x :: r => uptoBulkEntry x + uptoBulkEntries r
def uptoBulkEntry {H : Type} : Lit × DataW H → Nat
  | (.string bytes, d) => bytes.length + uptoBulk d + 1
  | (_, d) => uptoBulk d + 1
 end
def uptoSmall : (H : Type) → List (DataW H) → Bool := fun _ ds => decide (uptoBulkAll ds ≤ 1048576)
def OpenSpec.upto (s : _root_.Go.ChangeSpec) : _root_.Go.OpenSpec := { _root_.Go.OpenSpec.ofChange s with cond := some uptoSmall }

/-- 'viaticumlaw54.CalendarDays', WHERE WHAT IT READS IS OF BULK AT MOST 1048576: true; the input reads as it did. -/
def calendarDaysUptoRow : OpenClaim := { program := "ytaanmikdhhdeiaadoor", sum := "ab766746463dbd110dc8c9d9ed9725c7b49ea140e26ef7669b06331b649bb161", func := "viaticum/viaticumlaw54.CalendarDays", spec := "calendarDays", named := ["viaticum/calendar.days"], apart := false, laid := [("viaticum/calendar.days", laid_viaticum_calendar_days)], narrowed := true }
def CalendarDaysUptoSaid : Prop := calendarDaysUptoRow.holds Tryd.pinned (OpenSpec.upto calendarDaysSpec)

/-- 'viaticumlaw54.CalendarTexts', WHERE WHAT IT READS IS OF BULK AT MOST 1048576: true; the input reads as it did. -/
def calendarTextsUptoRow : OpenClaim := { program := "ytaanmikdhhdeiaadoor", sum := "ab766746463dbd110dc8c9d9ed9725c7b49ea140e26ef7669b06331b649bb161", func := "viaticum/viaticumlaw54.CalendarTexts", spec := "calendarTexts", named := ["viaticum/calendar.days"], apart := false, laid := [("viaticum/calendar.days", laid_viaticum_calendar_days)], narrowed := true }
def CalendarTextsUptoSaid : Prop := calendarTextsUptoRow.holds Tryd.pinned (OpenSpec.upto calendarTextsSpec)

/-- 'viaticumlaw54.CalendarBack', WHERE WHAT IT READS IS OF BULK AT MOST 1048576: true; the input reads as it did. -/
def calendarBackUptoRow : OpenClaim := { program := "ytaanmikdhhdeiaadoor", sum := "ab766746463dbd110dc8c9d9ed9725c7b49ea140e26ef7669b06331b649bb161", func := "viaticum/viaticumlaw54.CalendarBack", spec := "calendarBack", named := ["viaticum/calendar.days"], apart := false, laid := [("viaticum/calendar.days", laid_viaticum_calendar_days)], narrowed := true }
def CalendarBackUptoSaid : Prop := calendarBackUptoRow.holds Tryd.pinned (OpenSpec.upto calendarBackSpec)

end Rows
end Go.Proofs.YtaanmikdhhdeiaaDoor
