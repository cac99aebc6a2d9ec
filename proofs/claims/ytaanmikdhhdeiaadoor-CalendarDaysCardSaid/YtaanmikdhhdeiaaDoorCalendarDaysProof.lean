/-
  'Rows.CalendarDaysCardSaid': for every input the law returns true, and its arguments read afterwards as before; what the row lists of calendar.days is tied to the program's text. Conditions: none but the card's own. This text is the frame round the walk (YtaanmikdhhdeiaaDoorCalendarDaysWalk); it was written by program (mkframe.py).
-/
import Derived.Test.YtaanmikdhhdeiaaDoorRows
import Derived.Test.YtaanmikdhhdeiaaDoorCards
import Derived.Test.YtaanmikdhhdeiaaDoorTie
import Derived.Test.YtaanmikdhhdeiaaDoorBase
import Derived.Test.YtaanmikdhhdeiaaDoorLaid
import Derived.Test.YtaanmikdhhdeiaaDoorCalendarDaysWalk
namespace Go.Proofs.YtaanmikdhhdeiaaDoor.calendarDays
open Go.ChangeShapes Go.WideShapes Go.ChangeAt Go.RowKit
open Go.ChangeMaps (open_string shut_string)
set_option linter.unusedVariables false

/- THE WALK's STATEMENT:
theorem walk (a0 : Int) (s1a s1b s1c : Int) (w : World) (w0 : (Lit.int .i64 a0).wf = true) (ws1a : Fits s1a) (ws1b : Fits s1b) (ws1c : Fits s1c) :
    Calls Tryd.prog 3 #[.int .i64 a0, .agg #[.int .i64 s1a, .int .i64 s1b, .int .i64 s1c]] w fun e w' => e = .returned (.bool true) ∧ Below w.heap.size w w'
-/
set_option maxRecDepth 100000 in
theorem lifted (os : Os) (started : os.Started) (H : Type) (enc : TypeId × Value → H) :
    ReturnsInHanded {} Tryd.checked os 3 .any (fun w args => (Rows.calendarDaysSpec.pre enc Tryd.prog Tryd.f3 [] false w args ∧ laidMetH Tryd.prog listed w) ∧ sizedMet enc Tryd.prog Tryd.f3 (OpenSpec.ofChange Rows.calendarDaysSpec) false w args)
      (Rows.calendarDaysSpec.post enc Tryd.prog Tryd.f3 false true false false) := by
  refine returnsInHanded_of_change_and (C := Tryd.checked) (X := fun w _ => laidMetH Tryd.prog listed w) (fun _ _ _ hh h => h.of_heap hh) own started (by kernel_rfl) Tryd.func3
    (ChangeSpec.witness_shaped (enc := enc) (C := Tryd.checked) (os := os) (X := fun w _ => laidMetH Tryd.prog listed w) false (World.doorLaid Tryd.prog 14 os) #[.int .i64 0, .agg #[.int .i64 0, .int .i64 0, .int .i64 0]] 8 rfl (World.shaped_of_RefB (by kernel_rfl) (by kernel_rfl)) (by kernel_rfl) (by kernel_rfl) (by kernel_rfl) (door_met os _)) ?_
  intro W base args ds gs before hval0 hW _ _ hL _
  have hval : ∀ (j : Nat) t v, Tryd.f3.params[j]? = some t → args[j]? = some v → Value.okWide Tryd.prog W .any base t v := hval0
  have hW' := hW
  obtain ⟨p, q, hA0, hV, rfl, hfz, hnd⟩ := hW
  have hA : DataW.TrodAll enc Tryd.prog W 0 (fun _ => true) true Tryd.f3.params.toList args.toList ds p := hA0
  rw [Tryd.params3] at hA hval
  obtain ⟨v0, vs0, d0, ds0, p0, q0, hargs, rfl, rfl, h0, r0⟩ := trodAll_cons hA
  obtain ⟨v1, vs1, d1, ds1, p1, q1, rfl, rfl, rfl, h1, r1⟩ := trodAll_cons r0
  obtain ⟨rfl, rfl, rfl⟩ := trodAll_nil r1
  obtain rfl : args = #[v0, v1] := by cases args; simp_all
  obtain ⟨rfl, rfl⟩ := trodVars_none hV
  have k0 := h0
  have lt0 : ∀ x ∈ p0, x.block < W.heap.size := by obtain ⟨m, hm⟩ := k0; exact DataW.trod_lt m _ _ _ hm
  obtain ⟨a0, rfl, rfl, rfl, w0⟩ := open_int Tryd.underlying3 (hval 0 3 v0 rfl rfl) h0
  have k1 := h1
  have lt1 : ∀ x ∈ p1, x.block < W.heap.size := by obtain ⟨m, hm⟩ := k1; exact DataW.trod_lt m _ _ _ hm
  obtain ⟨xs1, hx1, rfl, hw1⟩ := agg_struct Tryd.underlying23 (by kernel_rfl) (by kernel_rfl) (by intro f hf; simp at hf; rcases hf with rfl | rfl | rfl <;> exact Tryd.underlying3) (hval 1 23 v1 rfl rfl) h1
  obtain ⟨s1a, s1b, s1c, rfl⟩ := list3 hx1
  have ws1a : Fits s1a := hw1 _ (by simp)
  have ws1b : Fits s1b := hw1 _ (by simp)
  have ws1c : Fits s1c := hw1 _ (by simp)
  clear hA0 hval0
  refine (Go.Proofs.YtaanmikdhhdeiaaDoor.calendarDaysWalk.walk a0 s1a s1b s1c W (tab_of_laid hL) w0 ws1a ws1b ws1c).mono fun e W' ⟨he, bel⟩ => ?_
  subst he
  exact ⟨_, rfl, _, _, _, [], _, [], hW', trodAll_mk1 (shut_bool Tryd.underlying4 _), (trodAll_cons_mk (Below.trod laidOut (by kernel_rfl) (of_decide_eq_true (by kernel_rfl)) k0 bel lt0) (trodAll_cons_mk (Below.trod laidOut (by kernel_rfl) (of_decide_eq_true (by kernel_rfl)) k1 bel lt1) trodAll_mk0)), rfl, bel.frame _, fun h => by cases h⟩

theorem over : Rows.calendarDaysRow.holds Tryd.pinned (OpenSpec.ofChange Rows.calendarDaysSpec) :=
  OpenClaim.holds_of_wide 3 Tryd.f3 rfl rfl rfl rfl rfl rfl rfl ⟨rfl, rfl, rfl, rfl, rfl⟩ rfl rfl rfl rfl rfl (by kernel_rfl) Tryd.func3 (by kernel_rfl)
    (of_decide_eq_true (by kernel_rfl)) (by unfold Func.isWrapper; rw [if_neg (of_decide_eq_false (by kernel_rfl))]; exact ⟨rfl, rfl⟩)
    (fun os started H enc _ => lifted os started H enc)

theorem proved : Rows.CalendarDaysCardSaid :=
  Claim7.holds_tied_plain_at .later [] [.data] true (true, "9954f90bfad517d9ae9d50748d3d8ddc272df55e5eab8eb5f688018e60df77f8") false
    over (fun _ h => by cases h) (by kernel_rfl) (fun _ h => by cases h) calendarDays_row_tie rfl ⟨rfl, rfl⟩ (by kernel_rfl) rfl
    (fun f fn hf hfn => by
      obtain rfl : f = 3 := Option.some.inj ((show Tryd.prog.funcNamed "viaticum/viaticumlaw54.CalendarDays" = some 3 by kernel_rfl).symm.trans hf) |>.symm
      obtain rfl : fn = Tryd.f3 := (Option.some.inj (Tryd.func3.symm.trans hfn)).symm
      exact ⟨by kernel_rfl, fun j t ht => by
        rw [Tryd.params3] at ht
        have hm : t ∈ [3, 23] := by simpa using Array.mem_of_getElem? ht
        have hall : ([3, 23].all fun u => !Tryd.prog.wantsStandIn u) = true := by kernel_rfl
        exact (show Tryd.prog.wantsStandIn t = false by simpa using List.all_eq_true.1 hall t hm)⟩)
    (by kernel_rfl)
end Go.Proofs.YtaanmikdhhdeiaaDoor.calendarDays
