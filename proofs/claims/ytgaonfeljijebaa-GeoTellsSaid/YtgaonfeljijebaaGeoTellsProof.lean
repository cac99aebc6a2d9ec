/-
  'Rows.GeoTellsSaid': for every input the law returns true, and its arguments read afterwards as before. Conditions: none but the row's own. This text is the frame round the walk (YtgaonfeljijebaaGeoTellsWalk); it was written by program (mkframe.py).
-/
import Derived.Test.YtgaonfeljijebaaRows
import Derived.Test.YtgaonfeljijebaaBase
import Derived.Test.YtgaonfeljijebaaGeoTellsWalk
namespace Go.Proofs.Ytgaonfeljijebaa.geoTells
open Go.ChangeShapes Go.WideShapes Go.ChangeAt Go.RowKit
open Go.ChangeMaps (open_string shut_string)
set_option linter.unusedVariables false

theorem own : ownKnob Try.prog.godebug = none := by kernel_rfl
theorem laidOut : laidOutB Try.prog = true := by kernel_rfl

/- THE WALK's STATEMENT:
theorem walk (s0a s0b : Int) (s1a s1b : Int) (s2a s2b : Int) (w : World) (ws0a : Fits s0a) (ws0b : Fits s0b) (ws1a : Fits s1a) (ws1b : Fits s1b) (ws2a : Fits s2a) (ws2b : Fits s2b) :
    Calls Try.prog 9 #[.agg #[.int .i64 s0a, .int .i64 s0b], .agg #[.int .i64 s1a, .int .i64 s1b], .agg #[.int .i64 s2a, .int .i64 s2b]] w fun e w' => e = .returned (.bool true) ∧ Below w.heap.size w w'
-/
set_option maxRecDepth 100000 in
theorem lifted (os : Os) (started : os.Started) (H : Type) (enc : TypeId × Value → H) :
    ReturnsInHanded {} Try.checked os 9 .any (Rows.geoTellsSpec.pre6 enc Try.prog Try.f9 Rows.geoTellsRow.domain false) (Rows.geoTellsSpec.post enc Try.prog Try.f9 false true false false) := by
  refine returnsInHanded_of_change (C := Try.checked) own started (by kernel_rfl) Try.func9
    (ChangeSpec.witness6 (enc := enc) (C := Try.checked) false ⟨#[], #[.agg #[.int .i64 0, .int .i64 0], .agg #[.int .i64 0, .int .i64 0], .agg #[.int .i64 0, .int .i64 0]], []⟩ 8 (by kernel_rfl) (by kernel_rfl) (by kernel_rfl) (by kernel_rfl)) ?_
  intro W base args ds gs before hval0 hW hcnd _
  have hval : ∀ (j : Nat) t v, Try.f9.params[j]? = some t → args[j]? = some v → Value.okWide Try.prog W .any base t v := hval0
  have hW' := hW
  obtain ⟨p, q, hA0, hV, rfl, hfz, hnd⟩ := hW
  have hA : DataW.TrodAll enc Try.prog W 0 (fun _ => true) true Try.f9.params.toList args.toList ds p := hA0
  rw [Try.params9] at hA hval
  obtain ⟨v0, vs0, d0, ds0, p0, q0, hargs, rfl, rfl, h0, r0⟩ := trodAll_cons hA
  obtain ⟨v1, vs1, d1, ds1, p1, q1, rfl, rfl, rfl, h1, r1⟩ := trodAll_cons r0
  obtain ⟨v2, vs2, d2, ds2, p2, q2, rfl, rfl, rfl, h2, r2⟩ := trodAll_cons r1
  obtain ⟨rfl, rfl, rfl⟩ := trodAll_nil r2
  obtain rfl : args = #[v0, v1, v2] := by cases args; simp_all
  obtain ⟨rfl, rfl⟩ := trodVars_none hV
  have k0 := h0
  have lt0 : ∀ x ∈ p0, x.block < W.heap.size := by obtain ⟨m, hm⟩ := k0; exact DataW.trod_lt m _ _ _ hm
  obtain ⟨xs0, hx0, rfl, hw0⟩ := agg_struct Try.underlying69 (by kernel_rfl) (by kernel_rfl) (by intro f hf; simp at hf; rcases hf with rfl | rfl <;> exact Try.underlying3) (hval 0 69 v0 rfl rfl) h0
  obtain ⟨s0a, s0b, rfl⟩ := list2 hx0
  have ws0a : Fits s0a := hw0 _ (by simp)
  have ws0b : Fits s0b := hw0 _ (by simp)
  have k1 := h1
  have lt1 : ∀ x ∈ p1, x.block < W.heap.size := by obtain ⟨m, hm⟩ := k1; exact DataW.trod_lt m _ _ _ hm
  obtain ⟨xs1, hx1, rfl, hw1⟩ := agg_struct Try.underlying69 (by kernel_rfl) (by kernel_rfl) (by intro f hf; simp at hf; rcases hf with rfl | rfl <;> exact Try.underlying3) (hval 1 69 v1 rfl rfl) h1
  obtain ⟨s1a, s1b, rfl⟩ := list2 hx1
  have ws1a : Fits s1a := hw1 _ (by simp)
  have ws1b : Fits s1b := hw1 _ (by simp)
  have k2 := h2
  have lt2 : ∀ x ∈ p2, x.block < W.heap.size := by obtain ⟨m, hm⟩ := k2; exact DataW.trod_lt m _ _ _ hm
  obtain ⟨xs2, hx2, rfl, hw2⟩ := agg_struct Try.underlying69 (by kernel_rfl) (by kernel_rfl) (by intro f hf; simp at hf; rcases hf with rfl | rfl <;> exact Try.underlying3) (hval 2 69 v2 rfl rfl) h2
  obtain ⟨s2a, s2b, rfl⟩ := list2 hx2
  have ws2a : Fits s2a := hw2 _ (by simp)
  have ws2b : Fits s2b := hw2 _ (by simp)
  clear hA0 hval0
  refine (Go.Proofs.Ytgaonfeljijebaa.geoTellsWalk.walk s0a s0b s1a s1b s2a s2b W ws0a ws0b ws1a ws1b ws2a ws2b).mono fun e W' ⟨he, bel⟩ => ?_
  subst he
  exact ⟨_, rfl, _, _, _, [], _, [], hW', trodAll_mk1 (shut_bool Try.underlying4 _), (trodAll_cons_mk (Below.trod laidOut (by kernel_rfl) (of_decide_eq_true (by kernel_rfl)) k0 bel lt0) (trodAll_cons_mk (Below.trod laidOut (by kernel_rfl) (of_decide_eq_true (by kernel_rfl)) k1 bel lt1) (trodAll_cons_mk (Below.trod laidOut (by kernel_rfl) (of_decide_eq_true (by kernel_rfl)) k2 bel lt2) trodAll_mk0))), rfl, bel.frame _, fun h => by cases h⟩

theorem over : Rows.geoTellsRow.holds Try.pinned (OpenSpec.ofChange Rows.geoTellsSpec) :=
  OpenClaim.holds_of_wide 9 Try.f9 rfl rfl rfl rfl rfl rfl rfl ⟨rfl, rfl, rfl, rfl, rfl⟩ rfl rfl rfl rfl rfl (by kernel_rfl) Try.func9 (by kernel_rfl)
    (of_decide_eq_true (by kernel_rfl)) (by unfold Func.isWrapper; rw [if_neg (of_decide_eq_false (by kernel_rfl))]; exact ⟨rfl, rfl⟩)
    (fun os started H enc _ => lifted os started H enc)

theorem proved : Rows.GeoTellsSaid := over
end Go.Proofs.Ytgaonfeljijebaa.geoTells
