/-
  'Rows.GeoFitsSaid': for every input the law returns true, and its arguments read afterwards as before. Conditions: none but the row's own. This text is the frame round the walk (YtgaonfeljijebaaGeoFitsWalk); it was written by program (mkframe.py).
-/
import Derived.Test.YtgaonfeljijebaaRows
import Derived.Test.YtgaonfeljijebaaBase
import Derived.Test.YtgaonfeljijebaaGeoFitsWalk
namespace Go.Proofs.Ytgaonfeljijebaa.geoFits
open Go.ChangeShapes Go.WideShapes Go.ChangeAt Go.RowKit
open Go.ChangeMaps (open_string shut_string)
set_option linter.unusedVariables false

theorem own : ownKnob Try.prog.godebug = none := by kernel_rfl
theorem laidOut : laidOutB Try.prog = true := by kernel_rfl

/- THE WALK's STATEMENT:
theorem walk (a0 : Int) (s1a s1b s1c s1d s1e s1f : Int) (a2 : Int) (w : World) (w0 : (Lit.int .u8 a0).wf = true) (ws1a : Fits s1a) (ws1b : Fits s1b) (ws1c : Fits s1c) (ws1d : Fits s1d) (ws1e : Fits s1e) (ws1f : Fits s1f) (w2 : (Lit.int .i64 a2).wf = true) :
    Calls Try.prog 10 #[.int .u8 a0, .agg #[.int .i64 s1a, .int .i64 s1b, .int .i64 s1c, .int .i64 s1d, .int .i64 s1e, .int .i64 s1f], .int .i64 a2] w fun e w' => e = .returned (.bool true) ∧ Below w.heap.size w w'
-/
set_option maxRecDepth 100000 in
theorem lifted (os : Os) (started : os.Started) (H : Type) (enc : TypeId × Value → H) :
    ReturnsInHanded {} Try.checked os 10 .any (Rows.geoFitsSpec.pre6 enc Try.prog Try.f10 Rows.geoFitsRow.domain false) (Rows.geoFitsSpec.post enc Try.prog Try.f10 false true false false) := by
  refine returnsInHanded_of_change (C := Try.checked) own started (by kernel_rfl) Try.func10
    (ChangeSpec.witness6 (enc := enc) (C := Try.checked) false ⟨#[], #[.int .u8 0, .agg #[.int .i64 0, .int .i64 0, .int .i64 0, .int .i64 0, .int .i64 0, .int .i64 0], .int .i64 0], []⟩ 8 (by kernel_rfl) (by kernel_rfl) (by kernel_rfl) (by kernel_rfl)) ?_
  intro W base args ds gs before hval0 hW hcnd _
  have hval : ∀ (j : Nat) t v, Try.f10.params[j]? = some t → args[j]? = some v → Value.okWide Try.prog W .any base t v := hval0
  have hW' := hW
  obtain ⟨p, q, hA0, hV, rfl, hfz, hnd⟩ := hW
  have hA : DataW.TrodAll enc Try.prog W 0 (fun _ => true) true Try.f10.params.toList args.toList ds p := hA0
  rw [Try.params10] at hA hval
  obtain ⟨v0, vs0, d0, ds0, p0, q0, hargs, rfl, rfl, h0, r0⟩ := trodAll_cons hA
  obtain ⟨v1, vs1, d1, ds1, p1, q1, rfl, rfl, rfl, h1, r1⟩ := trodAll_cons r0
  obtain ⟨v2, vs2, d2, ds2, p2, q2, rfl, rfl, rfl, h2, r2⟩ := trodAll_cons r1
  obtain ⟨rfl, rfl, rfl⟩ := trodAll_nil r2
  obtain rfl : args = #[v0, v1, v2] := by cases args; simp_all
  obtain ⟨rfl, rfl⟩ := trodVars_none hV
  have k0 := h0
  have lt0 : ∀ x ∈ p0, x.block < W.heap.size := by obtain ⟨m, hm⟩ := k0; exact DataW.trod_lt m _ _ _ hm
  obtain ⟨a0, rfl, rfl, rfl, w0⟩ := open_int Try.underlying5 (hval 0 5 v0 rfl rfl) h0
  have k1 := h1
  have lt1 : ∀ x ∈ p1, x.block < W.heap.size := by obtain ⟨m, hm⟩ := k1; exact DataW.trod_lt m _ _ _ hm
  obtain ⟨xs1, hx1, rfl, hw1⟩ := agg_array_structs Try.underlying74 Try.underlying69 (by kernel_rfl) (by kernel_rfl) (by kernel_rfl) (by intro f hf; simp at hf; rcases hf with rfl | rfl <;> exact Try.underlying3) (hval 1 74 v1 rfl rfl) h1
  obtain ⟨s1a, s1b, s1c, s1d, s1e, s1f, rfl⟩ := list6 hx1
  have ws1a : Fits s1a := hw1 _ (by simp)
  have ws1b : Fits s1b := hw1 _ (by simp)
  have ws1c : Fits s1c := hw1 _ (by simp)
  have ws1d : Fits s1d := hw1 _ (by simp)
  have ws1e : Fits s1e := hw1 _ (by simp)
  have ws1f : Fits s1f := hw1 _ (by simp)
  have k2 := h2
  have lt2 : ∀ x ∈ p2, x.block < W.heap.size := by obtain ⟨m, hm⟩ := k2; exact DataW.trod_lt m _ _ _ hm
  obtain ⟨a2, rfl, rfl, rfl, w2⟩ := open_int Try.underlying3 (hval 2 3 v2 rfl rfl) h2
  clear hA0 hval0
  refine (Go.Proofs.Ytgaonfeljijebaa.geoFitsWalk.walk a0 s1a s1b s1c s1d s1e s1f a2 W w0 ws1a ws1b ws1c ws1d ws1e ws1f w2).mono fun e W' ⟨he, bel⟩ => ?_
  subst he
  exact ⟨_, rfl, _, _, _, [], _, [], hW', trodAll_mk1 (shut_bool Try.underlying4 _), (trodAll_cons_mk (Below.trod laidOut (by kernel_rfl) (of_decide_eq_true (by kernel_rfl)) k0 bel lt0) (trodAll_cons_mk (Below.trod laidOut (by kernel_rfl) (of_decide_eq_true (by kernel_rfl)) k1 bel lt1) (trodAll_cons_mk (Below.trod laidOut (by kernel_rfl) (of_decide_eq_true (by kernel_rfl)) k2 bel lt2) trodAll_mk0))), rfl, bel.frame _, fun h => by cases h⟩

theorem over : Rows.geoFitsRow.holds Try.pinned (OpenSpec.ofChange Rows.geoFitsSpec) :=
  OpenClaim.holds_of_wide 10 Try.f10 rfl rfl rfl rfl rfl rfl rfl ⟨rfl, rfl, rfl, rfl, rfl⟩ rfl rfl rfl rfl rfl (by kernel_rfl) Try.func10 (by kernel_rfl)
    (of_decide_eq_true (by kernel_rfl)) (by unfold Func.isWrapper; rw [if_neg (of_decide_eq_false (by kernel_rfl))]; exact ⟨rfl, rfl⟩)
    (fun os started H enc _ => lifted os started H enc)

theorem proved : Rows.GeoFitsSaid := over
end Go.Proofs.Ytgaonfeljijebaa.geoFits
