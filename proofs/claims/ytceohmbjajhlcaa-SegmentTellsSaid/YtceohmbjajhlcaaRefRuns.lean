/-
  The reference's Runs hands back runsOf and errR. No conditions but the arguments' readings.
-/
import Derived.Test.YtceohmbjajhlcaaRunsP
namespace Go.Proofs.Ytceohmbjajhlcaa
open Go.ChangeShapes Go.WideShapes Go.ChangeAt Go.RowKit
set_option linter.unusedVariables false

def cellsR (rs : List Run) : List Value := (rs.flatMap three).map (Value.int .i64)
theorem cellsR_snoc (o : List Run) (r : Run) : cellsR (o ++ [r]) = cellsR o ++ [.int .i64 r.1, .int .i64 r.2.1, .int .i64 r.2.2] := by simp [cellsR, three]
theorem cellsR_len (o : List Run) : (cellsR o).length = o.length * 3 := by rw [cellsR, List.length_map, flat_len (enc := three) (F := 3) o (fun r _ => rfl)]
theorem cellsR_set (o : List Run) (s f t u : Int) : (cellsR (o ++ [(s, f, t)])).set (o.length * 3 + 2) (.int .i64 u) = cellsR (o ++ [(s, f, u)]) := by
  rw [cellsR_snoc, cellsR_snoc, ← cellsR_len, List.set_append_right _ _ (by omega)]
  congr 1
  rw [show (cellsR o).length + 2 - (cellsR o).length = 2 by omega]
  rfl
theorem Try.info48 : (Try.prog.info? 48).map (fun i => (i.zero, i.size, i.bytes)) = some (some (.agg #[.int .i64 0, .int .i64 0, .int .i64 0]), 3, 24) := by kernel_rfl
theorem rd_cellsR {w : World} {base : Nat} {A : Option Addr} {N c : Nat} {rs : List Run} (h : w.ownsRow base 48 3 (.slice A N c) N (cellsR rs)) : Rd three 3 w A N rs := Rd.own h (fun r _ => rfl) (by omega)

/-- Where the reference's loop stands: the runs so far, in a row of its own. -/
def RefAt (st : List Int) (l : List Run) (w : World) (k : Nat) (v : Value) (wr : World) : Prop :=
  ∃ A c, v = .slice A (runsTo st l k).length c ∧ wr.ownsRow w.heap.size 48 3 v (runsTo st l k).length (cellsR (runsTo st l k)) ∧ Below w.heap.size w wr

theorem runsTo_len (st : List Int) (l : List Run) : ∀ k, (runsTo st l k).length ≤ k
  | 0 => Nat.le_refl _
  | 1 => by simp [runsTo, prs]
  | k + 2 => by
    have h := runsTo_len st l (k + 1)
    simp only [runsTo, List.length_append, List.length_cons, List.length_nil] at h ⊢
    rw [prs]
    split <;> simp <;> omega

theorem refAt_more {st : List Int} {l : List Run} {w w1 : World} {k gg cap : Nat} {s u : Int} (R : runsTo st l (k + 1) = runsTo st l k ++ [(s, u, u)])
    (hown1 : w1.ownsRow w.heap.size 48 3 (.slice (some ⟨gg, 0, none⟩) ((runsTo st l k).length + 1) cap) ((runsTo st l k).length + 1) (cellsR (runsTo st l k) ++ [.int .i64 s, .int .i64 u, .int .i64 u])) (hb : Below w.heap.size w w1) :
    RefAt st l w (k + 1) (.slice (some ⟨gg, 0, none⟩) ((runsTo st l k).length + 1) cap) w1 := by
  unfold RefAt
  rw [R, cellsR_snoc, List.length_append]
  exact ⟨_, _, rfl, hown1, hb⟩

theorem refAt_set {st : List Int} {l : List Run} {w w1 : World} {k g N cap : Nat} {o : List Run} {s f t u : Int} (R : runsTo st l k = o ++ [(s, f, u)]) (hN : N = o.length + 1)
    (hown1 : w1.ownsRow w.heap.size 48 3 (.slice (some ⟨g, 0, none⟩) N cap) N ((cellsR (o ++ [(s, f, t)])).set ((N - 1) * 3 + 2) (.int .i64 u))) (hb : Below w.heap.size w w1) :
    RefAt st l w k (.slice (some ⟨g, 0, none⟩) N cap) w1 := by
  subst hN
  rw [show o.length + 1 - 1 = o.length by omega, cellsR_set] at hown1
  unfold RefAt
  rw [R, List.length_append]
  exact ⟨_, _, rfl, hown1, hb⟩

set_option maxRecDepth 100000 in
set_option maxHeartbeats 4000000 in
theorem refRuns (A B : Option Addr) (n c n' c' : Nat) (st : List Int) (l : List Run) (w : World) (h : Rd one 1 w A n st) (h' : Rd three 3 w B n' l) (hm : n ≤ 9223372036854775807) (hm' : n' ≤ 9223372036854775807) :
    Calls Try.prog 12 #[.slice A n c, .slice B n' c'] w (Gives (runsOf st l) (errR st l) w) := by
  obtain ⟨i0, hi, hz0, hz1, hz2⟩ := info_parts Try.info48
  have hn := h.1
  have hn' := h'.1
  by_cases h3 : 2048 < n'
  · have E : Hid (errR st l = 3) := by show _ = _; rw [errR, if_pos (by omega)]
    have R : Hid (runsOf st l = []) := by show _ = _; rw [runsOf, E.out]; rfl
    clear hn hn'
    go_enter Try.func12, Try.ntmps12
    go_wp2
    go_ret2
    exact ⟨none, 0, 0, by rw [E.out]; rfl, by rw [R.out]; exact Rd.nil _ _ _ _, Below.refl _ _⟩
  by_cases h2 : n = n'
  · subst h2
    rcases hT : traceB l with _ | _
    · have E : Hid (errR st l = 2) := errR_bad (by omega) (trace_bad hT)
      have R : Hid (runsOf st l = []) := by show _ = _; rw [runsOf, E.out]; rfl
      clear hn hn' hi hz0 hz1 hz2
      go_enter Try.func12, Try.ntmps12
      go_wp2_with (go_at_call 37; refine (refTrace _ _ _ _ _ h' hm').mono ?_; rintro e w1 ⟨rfl, hb⟩)
      go_ret2
      exact ⟨none, 0, 0, by rw [E.out]; rfl, by rw [R.out]; exact Rd.nil _ _ _ _, hb⟩
    · clear hn hn'
      go_enter Try.func12, Try.ntmps12
      go_wp2_with (go_at_call 37; refine (refTrace _ _ _ _ _ h' hm').mono ?_; rintro e w1 ⟨rfl, hb⟩)
      go_loopw [7, 6] (fun i v wr => ∃ k : Nat, k ≤ n ∧ i = .int .i64 k ∧ Hid (Sound st l k) ∧ RefAt st l w k v wr) (fun i _ _ => n - (intOf i).toNat)
      case atStart => exact ⟨0, Nat.zero_le _, rfl, fun j hj => absurd hj (by omega), none, 0, rfl, World.ownsRow_nil _ _ _ _, hb⟩
      case round =>
        obtain ⟨k, hk, rfl, hs, A', c2, rfl, hown, hbr⟩ := hrel
        clear hb
        have hS : Rd one 1 wr A n st := h.below hbr (Nat.le_refl _)
        have hL : Rd three 3 wr B n l := h'.below hbr (Nat.le_refl _)
        have hO := Lib.hid hown
        have HRL := Lib.hid (runsTo_len st l k)
        clear hown
        by_cases hlt : k < n
        · have hkl : k < l.length := by rw [← h'.1]; exact hlt
          obtain ⟨s, bs, os, hA, hst, hcs⟩ := hS.at1 hlt
          obtain ⟨u, x, y, bl, ol, hB, hsl, hcu, hcx, hcy⟩ := hL.at3 hlt
          subst hA hB
          have bad : ¬ (0 ≤ s ∧ s ≤ 4095) → Hid (errR st l = 2) := fun hn => errR_bad (by rw [← h'.1]; omega) (allS_bad hkl (by rw [okS_of hst.out]; simp; omega))
          have hR0 : Hid (errR st l = 2 → runsOf st l = []) := fun e => by rw [runsOf, e]; rfl
          by_cases h0 : 0 ≤ s
          · by_cases h4 : s ≤ 4095
            · clear bad hR0
              have G : Hid (Sound st l (k + 1)) := sound_succ hs.out (by rw [okS_of hst.out, trace_in hT hkl]; simp; omega)
              have bsw : bs < w.heap.size := h.lt (by omega)
              have blw : bl < w.heap.size := h'.lt (by omega)
              have szr := hbr.size
              rcases Nat.eq_zero_or_pos k with rfl | hpos
              · have R : Hid (runsTo st l (0 + 1) = runsTo st l 0 ++ [(s, u, u)]) := runsTo_of (prs_zero hst.out hsl.out)
                rw [Nat.zero_mul, Nat.add_zero] at hcu
                rw [Nat.add_zero] at hcs
                clear hcx hcy
                go_wp2
                go_quiet (fail)
                go_wp2_with fail
                go_region_held3 (fun w' => w'.cell? ⟨bs, os, none⟩ = some (.int .i64 s) ∧ w'.cell? ⟨bl, ol, none⟩ = some (.int .i64 u))
                  (first
                    | go_keep
                    | (go_split_ands
                       refine ⟨?_, ?_⟩
                       · (rw [hgrow.cell_far _ (by simp; omega) (fun e => by have := (hO.out.lt _ e.symm).1; simp at this; omega)]; assumption)
                       · (rw [hgrow.cell_far _ (by simp; omega) (fun e => by have := (hO.out.lt _ e.symm).1; simp at this; omega)]; assumption)))
                  ((refine step_append_lies _ (by rfl) _ _ _ (by rfl) w.heap.size 48 i0 _ 3 24 Try.underlying25 hi hz0 hz1 hz2 rfl (by omega) _ _ (cellsR (runsTo st l 0)) (by rfl) ((hO.out.alloc _).drew)
                      ⟨wr.heap.size, 0, none⟩ 1 1 [.int .i64 s, .int .i64 u, .int .i64 u] (by rfl) (by rfl) (World.news_of_block (cs := #[.int .i64 s, .int .i64 u, .int .i64 u]) (t := 48) (fr := (0, 0)) (heap_alloc_new wr _)) (by simp [Value.oneCell'])
                      (by omega) (by have := HRL.out; unfold maxLen; omega) (by have := HRL.out; omega) (by have := hbr.size; simp; omega) (wr.heap.size + 1) (by simp) ?_; intro gg cap w1 hown1 hgrow hat hlt1))
                go_wp2
                go_roundw
                case rel => exact ⟨1, by omega, rfl, G.out, refAt_more R.out hown1 (Below.grown (a := w) ((below_dN hbr _).alloc hbr.size _) hgrow (by simp; omega) (fun k hk => (hO.out.lt k hk).1))⟩
                case measure => simp [intOf]; omega
              · obtain ⟨j, rfl⟩ : ∃ j, k = j + 1 := ⟨k - 1, by omega⟩
                obtain ⟨s0, bs', os', hA2, hst0, hcs0⟩ := hS.at1 (k := j) (by omega)
                obtain ⟨rfl, rfl⟩ : bs = bs' ∧ os = os' := by simpa using hA2
                clear hA2 hpos hcx hcy
                obtain ⟨⟨o, s1, f, t⟩, HP⟩ : ∃ p : List Run × Run, Hid (prs st l j = p) := ⟨_, rfl⟩
                obtain rfl : s1 = s0 := by
                  have := prs_stop st l j
                  rw [HP.out, getD_of hst0.out] at this
                  exact this
                have R0 : Hid (runsTo st l (j + 1) = o ++ [(s1, f, t)]) := runsTo_of HP.out
                have WJ : Hid (IntKind.i64.wrap (j : Int) = (j : Int)) := IntWalk.i64_in _ (by omega)
                have wj0 : (0 : Int) ≤ j := by omega
                have wjn : (j : Int) < n := by omega
                by_cases e : s = s1
                · subst e
                  have R : Hid (runsTo st l (j + 1 + 1) = o ++ [(s, f, u)]) := runsTo_of (prs_on HP.out hst.out hsl.out)
                  obtain ⟨N, HN⟩ : ∃ N, Hid ((runsTo st l (j + 1)).length = N) := ⟨_, rfl⟩
                  have hN : N = o.length + 1 := by rw [← HN.out, R0.out]; simp
                  have hN1 : 1 ≤ N := by omega
                  have hNj : N ≤ j + 1 := by have := HRL.out; rw [HN.out] at this; exact this
                  have hO2 : Hid (wr.ownsRow w.heap.size 48 3 (.slice A' N c2) N (cellsR (o ++ [(s, f, t)]))) := by
                    have := hO.out
                    rw [HN.out, R0.out] at this
                    exact this
                  rw [HN.out]
                  clear HRL hO
                  obtain ⟨g, cp, hv, hg1, hg2⟩ := hO2.out.form (by omega)
                  obtain ⟨rfl, rfl⟩ : A' = some ⟨g, 0, none⟩ ∧ c2 = cp := by simpa using hv
                  clear hv
                  have HNo := Lib.hid hN
                  have hcell : wr.cell? ⟨g, (N - 1) * 3 + 2, none⟩ = some (.int .i64 t) := by
                    rw [hO2.out.cellAt _ (by omega), hN, show o.length + 1 - 1 = o.length by omega, cellsR_snoc, List.getElem?_append_right (by rw [cellsR_len]; omega), cellsR_len, show o.length * 3 + 2 - o.length * 3 = 2 by omega]
                    rfl
                  have hfree := hO2.out.frozenAt ((N - 1) * 3 + 2)
                  clear hN
                  go_wp2
                  have wj := WJ.out
                  go_quiet (fail)
                  clear wj
                  go_wp2
                  go_roundw
                  case rel => exact ⟨j + 1 + 1, by omega, by go_num, G.out, refAt_set R.out HNo.out (hO2.out.stored ((N - 1) * 3 + 2) (.int .i64 u)).1 ((below_dN hbr nq).setCell (p := ⟨g, _, none⟩) hg1 _)⟩
                  case measure => simp [intOf]; omega
                · have R : Hid (runsTo st l (j + 1 + 1) = runsTo st l (j + 1) ++ [(s, u, u)]) := by
                    show _ = _
                    rw [R0.out]
                    exact runsTo_of (prs_off HP.out hst.out e hsl.out)
                  have b1 : (s == s1) = false := by simpa using e
                  clear e
                  go_wp2
                  have wj := WJ.out
                  go_quiet (fail)
                  clear wj
                  go_wp2_with fail
                  go_region_held3 (fun w' => w'.cell? ⟨bs, os + (j + 1), none⟩ = some (.int .i64 s) ∧ w'.cell? ⟨bl, ol + (j + 1) * 3, none⟩ = some (.int .i64 u))
                    (first
                      | go_keep
                      | (go_split_ands
                         refine ⟨?_, ?_⟩
                         · (rw [hgrow.cell_far _ (by simp; omega) (fun e => by have := (hO.out.lt _ e.symm).1; simp at this; omega)]; assumption)
                         · (rw [hgrow.cell_far _ (by simp; omega) (fun e => by have := (hO.out.lt _ e.symm).1; simp at this; omega)]; assumption)))
                    ((refine step_append_lies _ (by rfl) _ _ _ (by rfl) w.heap.size 48 i0 _ 3 24 Try.underlying25 hi hz0 hz1 hz2 rfl (by omega) _ _ (cellsR (runsTo st l (j + 1))) (by rfl) ((hO.out.alloc _).drew)
                        ⟨wr.heap.size, 0, none⟩ 1 1 [.int .i64 s, .int .i64 u, .int .i64 u] (by rfl) (by rfl) (World.news_of_block (cs := #[.int .i64 s, .int .i64 u, .int .i64 u]) (t := 48) (fr := (0, 0)) (heap_alloc_new wr _)) (by simp [Value.oneCell'])
                        (by omega) (by have := HRL.out; unfold maxLen; omega) (by have := HRL.out; omega) (by have := hbr.size; simp; omega) (wr.heap.size + 1) (by simp) ?_; intro gg cap w1 hown1 hgrow hat hlt1))
                  go_wp2
                  go_roundw
                  case rel => exact ⟨j + 1 + 1, by omega, by go_num, G.out, refAt_more R.out hown1 (Below.grown (a := w) ((below_dN hbr _).alloc hbr.size _) hgrow (by simp; omega) (fun k hk => (hO.out.lt k hk).1))⟩
                  case measure => simp [intOf]; omega
            · have E := bad (fun hh => h4 hh.2)
              clear bad hi hz0 hz1 hz2
              go_wp2
              go_ret2
              exact ⟨none, 0, 0, by rw [E.out]; rfl, by rw [hR0.out E.out]; exact Rd.nil _ _ _ _, hbr⟩
          · have E := bad (fun hh => h0 hh.1)
            clear bad hi hz0 hz1 hz2
            go_wp2
            go_ret2
            exact ⟨none, 0, 0, by rw [E.out]; rfl, by rw [hR0.out E.out]; exact Rd.nil _ _ _ _, hbr⟩
        · obtain rfl : k = n := by omega
          have E : Hid (errR st l = 0) := errR_good (by rw [← h'.1]; omega) (by rw [← h'.1]; exact hs.out) (by rw [← h.1, ← h'.1])
          have R : Hid (runsOf st l = runsTo st l k) := by show _ = _; rw [runsOf, if_pos E.out, ← h'.1]
          clear hi hz0 hz1 hz2
          go_wp2
          go_ret2
          exact ⟨A', _, c2, by rw [E.out]; rfl, by rw [R.out]; exact rd_cellsR hO.out, hbr⟩
  · have E : Hid (errR st l = 2) := by show _ = _; rw [errR, if_neg (by omega), if_neg (by rw [← hn, ← hn']; exact fun hh => h2 hh.1)]
    have R : Hid (runsOf st l = []) := by show _ = _; rw [runsOf, E.out]; rfl
    have b : ((n : Int) != (n' : Int)) = true := by simp; omega
    clear hn hn' hi hz0 hz1 hz2
    go_enter Try.func12, Try.ntmps12
    go_wp2
    go_ret2
    exact ⟨none, 0, 0, by rw [E.out]; rfl, by rw [R.out]; exact Rd.nil _ _ _ _, Below.refl _ _⟩
end Go.Proofs.Ytceohmbjajhlcaa
