/-
  What the rows' condition on the variable calendar.days gives a walk (Tab), and that the door's own run meets it. No further conditions.
-/
import Derived.Test.YtaanmikdhhdeiaaDoorCalG
import Derived.ProofKit
import Derived.LaidMore
import Derived.OpenShut
import Derived.Stop.Joined
import Derived.Lib.LaidTab
namespace Go.Proofs.YtaanmikdhhdeiaaDoor
open Go.ChangeShapes Go.WideShapes Go.ChangeAt Go.WideMaps Go.WideElems Go.RowKit
set_option linter.unusedVariables false

theorem own : ownKnob Tryd.prog.godebug = none := by kernel_rfl
theorem laidOut : laidOutB Tryd.prog = true := by kernel_rfl
theorem gDays : Tryd.prog.globalNamed "viaticum/calendar.days" = some 0 := by kernel_rfl
theorem tDays : (Tryd.prog.globals[0]?).map (·.type) = some 43 := by kernel_rfl
theorem cDays : Tryd.prog.cellsOf 43 = 13 := by kernel_rfl
theorem c3 : Tryd.prog.cellsOf 3 = 1 := by kernel_rfl
/-- What the rows list. -/
def listed : List (String × DataW Unit) := [("viaticum/calendar.days", Rows.laid_viaticum_calendar_days)]
theorem days_data : Rows.laid_viaticum_calendar_days (H := Unit) = Lib.tabData .i64 [0, 31, 28, 31, 30, 31, 30, 31, 31, 30, 31, 30, 31] := rfl
/-- The door's own heap meets the condition. -/
theorem door_met (os : Os) (args : Array Value) : laidMetH Tryd.prog listed ((World.doorLaid Tryd.prog 14 os).forCall (fun _ _ => 0) ⟨#[], args, []⟩).memory :=
  laidMetH_of_parts3 (fuel := 8) (laidMet_of_run' 8 (by kernel_rfl) (by kernel_rfl)) (by kernel_rfl) (by kernel_rfl)
theorem tab_of_laid {W : World} (h : laidMetH Tryd.prog listed W) : Tab W := by
  rw [MakeChecks.laidMetH_plain _ _ _ (by kernel_rfl)] at h
  rw [listed, days_data] at h
  have hT := Lib.tabIs_of_head gDays tDays Tryd.underlying43 Tryd.underlying3 c3 cDays h
  have hc : ∀ m, m < 13 → W.cell? ⟨0, m, none⟩ = some (.int .i64 (tabD m)) := fun m hm => hT.cell gDays m (by simpa using hm)
  exact ⟨by simpa using lt_of_cell (hc 0 (by omega)), hc⟩
end Go.Proofs.YtaanmikdhhdeiaaDoor
