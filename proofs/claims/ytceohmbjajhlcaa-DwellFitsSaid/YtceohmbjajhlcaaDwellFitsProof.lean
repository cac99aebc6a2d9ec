/-
  'Rows.DwellFitsSaid': for every input the law returns true, and its arguments read afterwards as before. Conditions: none but the row's own. This text is the frame round the walk (YtceohmbjajhlcaaDwellFitsWalk); it was written by program (mkframe.py).
-/
import Derived.Test.YtceohmbjajhlcaaRows
import Derived.Test.YtceohmbjajhlcaaBase
import Derived.Test.YtceohmbjajhlcaaDwellFitsWalk
namespace Go.Proofs.Ytceohmbjajhlcaa.dwellFits
open Go.ChangeShapes Go.WideShapes Go.ChangeAt Go.RowKit
open Go.ChangeMaps (open_string shut_string)
set_option linter.unusedVariables false

theorem own : ownKnob Try.prog.godebug = none := by kernel_rfl
theorem laidOut : laidOutB Try.prog = true := by kernel_rfl

/- THE WALK's STATEMENT:
theorem walk (A0 : Option Addr) (n0 c0 : Nat) (l0 : List Int) (A1 : Option Addr) (n1 c1 : Nat) (l1 : List (Int × Int × Int)) (s2a s2b : Int) (w : World) (rd0 : Rd one 1 w A0 n0 l0) (ft0 : ∀ r ∈ l0, Fits r) (ge0 : n0 ≤ c0) (mx0 : c0 ≤ maxLen) (rd1 : Rd three 3 w A1 n1 l1) (ft1 : ∀ r ∈ l1, ∀ v ∈ three r, Fits v) (ge1 : n1 ≤ c1) (mx1 : c1 ≤ maxLen) (ws2a : (Lit.int .u16 s2a).wf = true) (ws2b : (Lit.int .u16 s2b).wf = true) :
    Calls Try.prog 6 #[.slice A0 n0 c0, .slice A1 n1 c1, .agg #[.int .u16 s2a, .int .u16 s2b]] w fun e w' => e = .returned (.bool true) ∧ Below w.heap.size w w'
-/
set_option maxRecDepth 100000 in
theorem lifted (os : Os) (started : os.Started) (H : Type) (enc : TypeId × Value → H) :
    ReturnsInHanded {} Try.checked os 6 .any (Rows.dwellFitsSpec.pre6 enc Try.prog Try.f6 Rows.dwellFitsRow.domain false) (Rows.dwellFitsSpec.post enc Try.prog Try.f6 false true false false) := by
  refine returnsInHanded_of_change (C := Try.checked) own started (by kernel_rfl) Try.func6
    (ChangeSpec.witness6 (enc := enc) (C := Try.checked) false ⟨#[], #[.slice none 0 0, .slice none 0 0, .agg #[.int .u16 0, .int .u16 0]], []⟩ 8 (by kernel_rfl) (by kernel_rfl) (by kernel_rfl) (by kernel_rfl)) ?_
  intro W base args ds gs before hval0 hW hcnd _
  have hval : ∀ (j : Nat) t v, Try.f6.params[j]? = some t → args[j]? = some v → Value.okWide Try.prog W .any base t v := hval0
  have hW' := hW
  obtain ⟨p, q, hA0, hV, rfl, hfz, hnd⟩ := hW
  have hA : DataW.TrodAll enc Try.prog W 0 (fun _ => true) true Try.f6.params.toList args.toList ds p := hA0
  rw [Try.params6] at hA hval
  obtain ⟨v0, vs0, d0, ds0, p0, q0, hargs, rfl, rfl, h0, r0⟩ := trodAll_cons hA
  obtain ⟨v1, vs1, d1, ds1, p1, q1, rfl, rfl, rfl, h1, r1⟩ := trodAll_cons r0
  obtain ⟨v2, vs2, d2, ds2, p2, q2, rfl, rfl, rfl, h2, r2⟩ := trodAll_cons r1
  obtain ⟨rfl, rfl, rfl⟩ := trodAll_nil r2
  obtain rfl : args = #[v0, v1, v2] := by cases args; simp_all
  obtain ⟨rfl, rfl⟩ := trodVars_none hV
  have k0 := h0
  have lt0 : ∀ x ∈ p0, x.block < W.heap.size := by obtain ⟨m, hm⟩ := k0; exact DataW.trod_lt m _ _ _ hm
  obtain ⟨A0, n0, c0, rfl⟩ := okWide_slice Try.underlying22 (hval 0 22 v0 rfl rfl)
  obtain ⟨fuel0, hf0⟩ := h0
  obtain ⟨l0, rd0, ft0, ge0, mx0⟩ := rd_ints (A := A0) (n := n0) (c := c0) Try.underlying22 Try.underlying3 (by kernel_rfl) hf0
  have k1 := h1
  have lt1 : ∀ x ∈ p1, x.block < W.heap.size := by obtain ⟨m, hm⟩ := k1; exact DataW.trod_lt m _ _ _ hm
  obtain ⟨A1, n1, c1, rfl⟩ := okWide_slice Try.underlying23 (hval 1 23 v1 rfl rfl)
  obtain ⟨fuel1, hf1⟩ := h1
  obtain ⟨l1, rd1, ft1, ge1, mx1⟩ := rd_three (A := A1) (n := n1) (c := c1) Try.underlying23 Try.underlying46 (by kernel_rfl) (by kernel_rfl) (by intro f hf; simp at hf; rcases hf with rfl | rfl | rfl <;> exact Try.underlying3) hf1
  have k2 := h2
  have lt2 : ∀ x ∈ p2, x.block < W.heap.size := by obtain ⟨m, hm⟩ := k2; exact DataW.trod_lt m _ _ _ hm
  obtain ⟨xs2, hx2, rfl, hw2⟩ := agg_array Try.underlying44 Try.underlying43 (by kernel_rfl) (by kernel_rfl) (hval 2 44 v2 rfl rfl) h2
  obtain ⟨s2a, s2b, rfl⟩ := list2 hx2
  have ws2a : (Lit.int .u16 s2a).wf = true := hw2 _ (by simp)
  have ws2b : (Lit.int .u16 s2b).wf = true := hw2 _ (by simp)
  clear hA0 hval0
  refine (Go.Proofs.Ytceohmbjajhlcaa.dwellFitsWalk.walk A0 n0 c0 l0 A1 n1 c1 l1 s2a s2b W rd0 ft0 ge0 mx0 rd1 ft1 ge1 mx1 ws2a ws2b).mono fun e W' ⟨he, bel⟩ => ?_
  subst he
  exact ⟨_, rfl, _, _, _, [], _, [], hW', trodAll_mk1 (shut_bool Try.underlying4 _), (trodAll_cons_mk (Below.trod laidOut (by kernel_rfl) (of_decide_eq_true (by kernel_rfl)) k0 bel lt0) (trodAll_cons_mk (Below.trod laidOut (by kernel_rfl) (of_decide_eq_true (by kernel_rfl)) k1 bel lt1) (trodAll_cons_mk (Below.trod laidOut (by kernel_rfl) (of_decide_eq_true (by kernel_rfl)) k2 bel lt2) trodAll_mk0))), rfl, bel.frame _, fun h => by cases h⟩

theorem over : Rows.dwellFitsRow.holds Try.pinned (OpenSpec.ofChange Rows.dwellFitsSpec) :=
  OpenClaim.holds_of_wide 6 Try.f6 rfl rfl rfl rfl rfl rfl rfl ⟨rfl, rfl, rfl, rfl, rfl⟩ rfl rfl rfl rfl rfl (by kernel_rfl) Try.func6 (by kernel_rfl)
    (of_decide_eq_true (by kernel_rfl)) (by unfold Func.isWrapper; rw [if_neg (of_decide_eq_false (by kernel_rfl))]; exact ⟨rfl, rfl⟩)
    (fun os started H enc _ => lifted os started H enc)

theorem proved : Rows.DwellFitsSaid := over
end Go.Proofs.Ytceohmbjajhlcaa.dwellFits
