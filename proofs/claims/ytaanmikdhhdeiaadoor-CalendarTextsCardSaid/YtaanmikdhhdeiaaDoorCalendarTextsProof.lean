/-
  'Rows.CalendarTextsCardSaid': for every input the law returns true, and its arguments read afterwards as before; what the row lists of calendar.days is tied to the program's text. Conditions: none but the card's own. This text is the frame round the walk (YtaanmikdhhdeiaaDoorCalendarTextsWalk); it was written by program (mkframe.py).
-/
import Derived.Test.YtaanmikdhhdeiaaDoorRows
import Derived.Test.YtaanmikdhhdeiaaDoorCards
import Derived.Test.YtaanmikdhhdeiaaDoorTie
import Derived.Test.YtaanmikdhhdeiaaDoorBase
import Derived.Test.YtaanmikdhhdeiaaDoorLaid
import Derived.Test.YtaanmikdhhdeiaaDoorCalendarTextsWalk
namespace Go.Proofs.YtaanmikdhhdeiaaDoor.calendarTexts
open Go.ChangeShapes Go.WideShapes Go.ChangeAt Go.RowKit
open Go.ChangeMaps (open_string shut_string)
set_option linter.unusedVariables false

/- THE WALK's STATEMENT:
theorem walk (s0a s0b s0c : Int) (a1 : ByteArray) (w : World) (ws0a : Fits s0a) (ws0b : Fits s0b) (ws0c : Fits s0c) (w1 : a1.size ≤ maxLen) :
    Calls Tryd.prog 4 #[.agg #[.int .i64 s0a, .int .i64 s0b, .int .i64 s0c], .string a1] w fun e w' => e = .returned (.bool true) ∧ Below w.heap.size w w'
-/
set_option maxRecDepth 100000 in
theorem lifted (os : Os) (started : os.Started) (H : Type) (enc : TypeId × Value → H) :
    ReturnsInHanded {} Tryd.checked os 4 .any (fun w args => (Rows.calendarTextsSpec.pre enc Tryd.prog Tryd.f4 [] false w args ∧ laidMetH Tryd.prog listed w) ∧ sizedMet enc Tryd.prog Tryd.f4 (OpenSpec.ofChange Rows.calendarTextsSpec) false w args)
      (Rows.calendarTextsSpec.post enc Tryd.prog Tryd.f4 false true false false) := by
  refine returnsInHanded_of_change_and (C := Tryd.checked) (X := fun w _ => laidMetH Tryd.prog listed w) (fun _ _ _ hh h => h.of_heap hh) own started (by kernel_rfl) Tryd.func4
    (ChangeSpec.witness_shaped (enc := enc) (C := Tryd.checked) (os := os) (X := fun w _ => laidMetH Tryd.prog listed w) false (World.doorLaid Tryd.prog 14 os) #[.agg #[.int .i64 0, .int .i64 0, .int .i64 0], .string ByteArray.empty] 8 rfl (World.shaped_of_RefB (by kernel_rfl) (by kernel_rfl)) (by kernel_rfl) (by kernel_rfl) (by kernel_rfl) (door_met os _)) ?_
  intro W base args ds gs before hval0 hW _ _ hL _
  have hval : ∀ (j : Nat) t v, Tryd.f4.params[j]? = some t → args[j]? = some v → Value.okWide Tryd.prog W .any base t v := hval0
  have hW' := hW
  obtain ⟨p, q, hA0, hV, rfl, hfz, hnd⟩ := hW
  have hA : DataW.TrodAll enc Tryd.prog W 0 (fun _ => true) true Tryd.f4.params.toList args.toList ds p := hA0
  rw [Tryd.params4] at hA hval
  obtain ⟨v0, vs0, d0, ds0, p0, q0, hargs, rfl, rfl, h0, r0⟩ := trodAll_cons hA
  obtain ⟨v1, vs1, d1, ds1, p1, q1, rfl, rfl, rfl, h1, r1⟩ := trodAll_cons r0
  obtain ⟨rfl, rfl, rfl⟩ := trodAll_nil r1
  obtain rfl : args = #[v0, v1] := by cases args; simp_all
  obtain ⟨rfl, rfl⟩ := trodVars_none hV
  have k0 := h0
  have lt0 : ∀ x ∈ p0, x.block < W.heap.size := by obtain ⟨m, hm⟩ := k0; exact DataW.trod_lt m _ _ _ hm
  obtain ⟨xs0, hx0, rfl, hw0⟩ := agg_struct Tryd.underlying23 (by kernel_rfl) (by kernel_rfl) (by intro f hf; simp at hf; rcases hf with rfl | rfl | rfl <;> exact Tryd.underlying3) (hval 0 23 v0 rfl rfl) h0
  obtain ⟨s0a, s0b, s0c, rfl⟩ := list3 hx0
  have ws0a : Fits s0a := hw0 _ (by simp)
  have ws0b : Fits s0b := hw0 _ (by simp)
  have ws0c : Fits s0c := hw0 _ (by simp)
  have k1 := h1
  have lt1 : ∀ x ∈ p1, x.block < W.heap.size := by obtain ⟨m, hm⟩ := k1; exact DataW.trod_lt m _ _ _ hm
  obtain ⟨a1, rfl, rfl, rfl, w1⟩ := open_string Tryd.underlying9 (hval 1 9 v1 rfl rfl) h1
  clear hA0 hval0
  refine (Go.Proofs.YtaanmikdhhdeiaaDoor.calendarTextsWalk.walk s0a s0b s0c a1 W (tab_of_laid hL) ws0a ws0b ws0c w1).mono fun e W' ⟨he, bel⟩ => ?_
  subst he
  exact ⟨_, rfl, _, _, _, [], _, [], hW', trodAll_mk1 (shut_bool Tryd.underlying4 _), (trodAll_cons_mk (Below.trod laidOut (by kernel_rfl) (of_decide_eq_true (by kernel_rfl)) k0 bel lt0) (trodAll_cons_mk (Below.trod laidOut (by kernel_rfl) (of_decide_eq_true (by kernel_rfl)) k1 bel lt1) trodAll_mk0)), rfl, bel.frame _, fun h => by cases h⟩

theorem over : Rows.calendarTextsRow.holds Tryd.pinned (OpenSpec.ofChange Rows.calendarTextsSpec) :=
  OpenClaim.holds_of_wide 4 Tryd.f4 rfl rfl rfl rfl rfl rfl rfl ⟨rfl, rfl, rfl, rfl, rfl⟩ rfl rfl rfl rfl rfl (by kernel_rfl) Tryd.func4 (by kernel_rfl)
    (of_decide_eq_true (by kernel_rfl)) (by unfold Func.isWrapper; rw [if_neg (of_decide_eq_false (by kernel_rfl))]; exact ⟨rfl, rfl⟩)
    (fun os started H enc _ => lifted os started H enc)

theorem proved : Rows.CalendarTextsCardSaid :=
  Claim7.holds_tied_plain_at .later [] [.data] true (true, "9954f90bfad517d9ae9d50748d3d8ddc272df55e5eab8eb5f688018e60df77f8") false
    over (fun _ h => by cases h) (by kernel_rfl) (fun _ h => by cases h) calendarTexts_row_tie rfl ⟨rfl, rfl⟩ (by kernel_rfl) rfl
    (fun f fn hf hfn => by
      obtain rfl : f = 4 := Option.some.inj ((show Tryd.prog.funcNamed "viaticum/viaticumlaw54.CalendarTexts" = some 4 by kernel_rfl).symm.trans hf) |>.symm
      obtain rfl : fn = Tryd.f4 := (Option.some.inj (Tryd.func4.symm.trans hfn)).symm
      exact ⟨by kernel_rfl, fun j t ht => by
        rw [Tryd.params4] at ht
        have hm : t ∈ [23, 9] := by simpa using Array.mem_of_getElem? ht
        have hall : ([23, 9].all fun u => !Tryd.prog.wantsStandIn u) = true := by kernel_rfl
        exact (show Tryd.prog.wantsStandIn t = false by simpa using List.all_eq_true.1 hall t hm)⟩)
    (by kernel_rfl)
end Go.Proofs.YtaanmikdhhdeiaaDoor.calendarTexts
