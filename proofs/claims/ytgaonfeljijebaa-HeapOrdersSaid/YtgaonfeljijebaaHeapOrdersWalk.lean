/-
  HeapOrders, walked: it returns true, whatever the pairs and the order. Conditions: the argument's reading.
-/
import Derived.Test.YtgaonfeljijebaaHeapSortsWalk
import Derived.Test.YtgaonfeljijebaaHeapM
import Derived.Test.YtgaonfeljijebaaHeapN
namespace Go.Proofs.Ytgaonfeljijebaa
open Go.ChangeShapes Go.WideShapes Go.ChangeAt Go.RowKit Go.Shelf
set_option linter.unusedVariables false

theorem Try.info4o : (Try.prog.info? 4).map (fun i => (i.zero, i.size, i.bytes)) = some (some (.bool false), 1, 1) := by kernel_rfl
/-- The row of marks. -/
def MB (B : Nat) (w : World) (g n : Nat) (ms : List Bool) : Prop := w.ownsRow B 4 1 (.slice (some ⟨g, 0, none⟩) n n) n (ms.map Value.bool)
section
variable {B g n k : Nat} {w w' : World} {ms : List Bool}
theorem MB.len (h : MB B w g n ms) : ms.length = n := by have := h.1; simpa using this
theorem MB.cell {b : Bool} (h : MB B w g n ms) (hk : ms[k]? = some b) : w.cell? ⟨g, k, none⟩ = some (.bool b) := by
  have hl := h.len
  have hlt := (List.getElem?_eq_some_iff.1 hk).1
  rw [World.ownsRow.cellAt h k (by omega), List.getElem?_map, hk]
  rfl
theorem MB.free (h : MB B w g n ms) (k : Nat) : w.frozen? ⟨g, k, none⟩ = false := World.ownsRow.frozenAt h k
theorem MB.mark (h : MB B w g n ms) (k : Nat) : MB B (w.setCell ⟨g, k, none⟩ (.bool true)) g n (ms.set k true) := by
  have := (World.ownsRow.stored h k (.bool true)).1
  unfold MB
  rwa [List.map_set]
theorem MB.step {O : Nat → Prop} (h : MB B w g n ms) (hs : Step O w w') (ho : ¬ O g) : MB B w' g n ms := own_step h hs (fun g' hg => by
  simp [Value.ownBlock] at hg
  rw [← hg]
  exact ho)
theorem MB.lt (h : MB B w g n ms) : B ≤ g ∧ g < w.heap.size := World.ownsRow.lt h g rfl
end
theorem took_belowP {tb hb : Nat} {b : Bool} {v : Value} {l lk : List Pair} {W w w' : World} (h : HP tb w hb v lk) (hT : TookP tb b w hb v l w') (hb' : Below W.heap.size W w) (hle : W.heap.size ≤ hb) : Below W.heap.size W w' := by
  obtain ⟨_, _, _, _, _, hs, _⟩ := hT
  exact hs.below (n := W.heap.size) hb' hb'.size (fun k hk => Nat.le_trans hle (h.lt hk).2)
theorem gave_belowP {tb hb : Nat} {b : Bool} {v : Value} {l lk : List Pair} {x : Pair} {W w w' : World} (h : HP tb w hb v lk) (hT : GaveP tb b w hb v l x w') (hb' : Below W.heap.size W w) (hle : W.heap.size ≤ hb) : Below W.heap.size W w' := by
  obtain ⟨_, _, _, _, _, hs, _⟩ := hT
  exact hs.below (n := W.heap.size) hb' hb'.size (fun k hk => Nat.le_trans hle (h.lt hk).2)
namespace heapOrdersWalk
set_option maxRecDepth 100000 in
set_option maxHeartbeats 8000000 in
theorem walk (A0 : Option Addr) (n0 c0 : Nat) (l0 : List (Int × Int)) (a1 : Bool) (w : World) (rd0 : Rd two 2 w A0 n0 l0) (ft0 : ∀ r ∈ l0, ∀ v ∈ two r, Fits v) (ge0 : n0 ≤ c0) (mx0 : c0 ≤ maxLen) :
    Calls Try.prog 8 #[.slice A0 n0 c0, .bool a1] w fun e w' => e = .returned (.bool true) ∧ Below w.heap.size w w' := by
  obtain ⟨i0, hi, hz0, hz1, hz2⟩ := info_parts Try.info4o
  unfold maxLen at mx0
  by_cases h6 : 300 < n0
  · clear rd0
    go_enter Try.func8, Try.ntmps8
    go_wp2_with fail
    refine (awake16 _).mono ?_
    rintro e w1 ⟨rfl, hb1⟩
    have HB1 := Lib.hid (below_boxed hb1)
    clear hb1
    go_wp2_with fail
    go_ret
    exact ⟨rfl, HB1.out⟩
  have n6 : n0 ≤ 300 := by omega
  have RD := Lib.hid rd0
  have FT : Hid (∀ r ∈ l0, Fits r.1) := fun r hr => ft0 r hr r.1 (by simp [two])
  clear rd0 h6 ft0
  go_enter Try.func8, Try.ntmps8
  go_wp2_with fail
  refine (awake16 _).mono ?_
  rintro e w1 ⟨rfl, hb1⟩
  have HB1 := Lib.hid (below_boxed hb1)
  have T1 : Hid (Bk w1 w.heap.size 4 #[.bool a1]) := (Bk.new w 4 #[.bool a1]).below hb1 (by simp)
  have z1 := HB1.out.size
  have z1' := T1.out.lt
  clear hb1
  go_wp2_with fail
  refine (goPushP_nil 0 0 w1).mono ?_
  rintro e w2 ⟨⟨u, rfl⟩, hb2⟩
  have HB2 := Lib.hid (HB1.out.trans (hb2.mono z1))
  have T2 := Lib.hid (T1.out.below hb2 z1')
  have z2 := HB2.out.size
  have z2' := T2.out.lt
  clear hb2 HB1 T1
  go_wp2_with fail
  refine (goPopP_nil w2).mono ?_
  rintro e w3 ⟨rfl, hb3⟩
  have HB3 := Lib.hid (HB2.out.trans (hb3.mono z2))
  have T3 := Lib.hid (T2.out.below hb3 z2')
  have z3 := HB3.out.size
  have z3' := T3.out.lt
  clear hb3 HB2 T2
  go_wp2_with fail
  refine (goLenP_nil _).mono ?_
  rintro e w4 ⟨rfl, hw4⟩
  have HB4 : Hid (Below w.heap.size w w4) := by show Below _ _ _; rw [← hw4]; exact HB3.out.alloc z3 _
  have T4 : Hid (Bk w4 w.heap.size 4 #[.bool a1]) := by show Bk _ _ _ _; rw [← hw4]; exact T3.out.alloc _
  clear hw4 HB3 T3 z1 z1' z2 z2' z3 z3'
  have z4 := HB4.out.size
  have z4' := T4.out.lt
  go_wp2_with fail
  refine (goNewP w.heap.size w4).mono ?_
  rintro e w5 ⟨rfl, hw5⟩
  obtain ⟨hb, hhb⟩ : ∃ hb, w4.heap.size = hb := ⟨_, rfl⟩
  have H5 : Hid (HP w.heap.size w5 hb (.slice none 0 0) []) := by show HP _ _ _ _ _; rw [hw5, ← hhb]; exact pair_new _ _
  have HB5 : Hid (Below w.heap.size w w5) := by show Below _ _ _; rw [hw5]; exact HB4.out.alloc z4 _
  have T5 : Hid (Bk w5 w.heap.size 4 #[.bool a1]) := by show Bk _ _ _ _; rw [hw5]; exact T4.out.alloc _
  have tbl : w.heap.size < hb := by omega
  rw [hhb]
  clear hw5 hhb HB4 T4 z4 z4'
  go_wp2_with fail
  go_loopw [42] (fun v42 wr => ∃ (k : Nat) (v : Value) (lk : List Pair), k ≤ n0 ∧ v42 = .int .i64 k ∧ Hid (HP w.heap.size wr hb v lk) ∧ Hid (IsHeap (keyP a1) lk) ∧ Hid (lk.Perm (l0.take k)) ∧ Hid (Below w.heap.size w wr) ∧ Hid (Bk wr w.heap.size 4 #[.bool a1])) (fun v42 _ => n0 - (intOf v42).toNat)
  case atStart => exact ⟨0, _, [], Nat.zero_le _, rfl, H5.out, heap_nil _, List.Perm.refl _, HB5.out, T5.out⟩
  case round =>
    clear H5 HB5 T5
    obtain ⟨k, v, lk, hk, rfl, hH, hI, hP, hB, hT⟩ := hrel
    have LK : Hid (lk.length = k) := by show _ = _; rw [hP.out.length_eq, List.length_take, ← RD.out.1]; omega
    by_cases hlt : k < n0
    · obtain ⟨x1, x2, bb, off, hAd, hx, hc0, hc1⟩ := (RD.out.below hB.out (Nat.le_refl _)).at2 hlt
      subst hAd
      have FX : Hid (Fits x1) := FT.out _ (List.mem_of_getElem? hx.out)
      have TK : Hid (l0.take (k + 1) = l0.take k ++ [(x1, x2)]) := take_succ_of hx.out
      have HA : Hid (HP w.heap.size (wr.alloc (.cells #[.int .i64 x1, .int .i64 x2] 62)) hb v lk) := hH.out.step (Step.of ((Below.refl _ _).alloc (Nat.le_refl _) _) (fun _ => False)) (fun _ h => h.elim)
      have TA : Hid (Bk (wr.alloc (.cells #[.int .i64 x1, .int .i64 x2] 62)) w.heap.size 4 #[.bool a1]) := hT.out.alloc _
      have BA : Hid (Below w.heap.size w (wr.alloc (.cells #[.int .i64 x1, .int .i64 x2] 62))) := hB.out.alloc hB.out.size _
      have FL : Hid (∀ r ∈ lk, Fits r.1) := fun r hr => FT.out r (List.mem_of_mem_take (hP.out.mem_iff.1 hr))
      go_wp2_with fail
      refine (goPushP x1 x2 TA.out tbl FL.out FX.out HA.out hI.out (by have := LK.out; omega)).mono ?_
      rintro e w3 ⟨⟨u, rfl⟩, hTk⟩
      have BB := Lib.hid (took_belowP HA.out hTk BA.out (Nat.le_of_lt tbl))
      obtain ⟨v', l', h1, h2, h3, h4, h5⟩ := hTk
      have H1 := Lib.hid h1
      have H2 := Lib.hid h2
      have H3 : Hid (l'.Perm (l0.take (k + 1))) := by
        show List.Perm _ _
        rw [TK.out]
        exact h3.trans ((hP.out.cons (x1, x2)).trans (List.perm_append_comm (l₁ := [(x1, x2)]) (l₂ := l0.take k)))
      have T3 : Hid (Bk w3 w.heap.size 4 #[.bool a1]) := TA.out.step h4 (fun h => by have := (HA.out.lt h).2; omega)
      clear h1 h2 h3 h4 h5
      go_wp2_with fail
      go_roundw
      case rel => exact ⟨k + 1, v', l', by omega, by go_num, H1.out, H2.out, H3.out, BB.out, T3.out⟩
      case measure => simp [intOf]; omega
    · obtain rfl : k = n0 := by omega
      have TKA : Hid (l0.take k = l0) := List.take_of_length_le (by rw [← RD.out.1]; exact Nat.le_refl _)
      have PL : Hid (lk.Perm l0) := by have := hP.out; rw [TKA.out] at this; exact this
      have FL : Hid (∀ r ∈ lk, Fits r.1) := fun r hr => FT.out r (PL.out.mem_iff.1 hr)
      have hzb := hB.out.size
      clear hP TKA
      go_wp2_with (at_make; refine wpList_make_full _ rfl _ _ 67 rfl wr.heap.size 4 i0 (.bool false) 1 Try.underlying67 hi hz0 hz1 .i64 .i64 _ _ k rfl rfl rfl rfl (by rw [hz2]; omega) (by unfold maxLen; omega) (Nat.le_refl _) ?_; intro w3 hown hgrow; have HW := Lib.hid hown; have hbG := (Below.refl wr.heap.size wr).grown hgrow (Nat.le_refl _) (fun k hk => by cases hk); clear hown hgrow)
      have M3 : Hid (MB wr.heap.size w3 wr.heap.size k (List.replicate k false)) := by
        have h1 := HW.out
        rw [Nat.mul_one] at h1
        rw [show (Value.bool false).cells = #[Value.bool false] from rfl, toList_madeCells_one] at h1
        show World.ownsRow _ _ _ _ _ _ _
        rw [List.map_replicate]
        exact h1
      clear HW
      have m3 := M3.out.lt
      have HBG := Lib.hid hbG
      obtain ⟨g, hg⟩ : ∃ g, wr.heap.size = g := ⟨_, rfl⟩
      obtain ⟨gl, hgl⟩ : ∃ gl, w3.heap.size = gl := ⟨_, rfl⟩
      obtain ⟨wS, hwS⟩ : ∃ wS, w3.alloc (.cells #[.int .i64 0, .int .i64 0] 62) = wS := ⟨_, rfl⟩
      have SS : Hid (Step (fun _ => False) wr wS) := by show Step _ _ _; rw [← hwS]; exact (Step.of HBG.out _).alloc _
      have MS : Hid (MB g wS g k (List.replicate k false)) := by
        show MB _ _ _ _ _
        rw [← hwS]
        have := M3.out
        rw [hg] at this
        exact World.ownsRow.alloc this _
      have LS : Hid (Bk wS gl 62 #[.int .i64 0, .int .i64 0]) := by show Bk _ _ _ _; rw [← hwS, ← hgl]; exact Bk.new _ _ _
      have HS : Hid (HP w.heap.size wS hb v lk) := hH.out.step SS.out (fun _ h => h.elim)
      have TS : Hid (Bk wS w.heap.size 4 #[.bool a1]) := hT.out.step SS.out (fun h => h)
      have BS : Hid (Below w.heap.size w wS) := SS.out.below (n := w.heap.size) hB.out hzb (fun _ h => h.elim)
      have AS : Hid (∀ q, InH hb v q → q ≠ g ∧ q ≠ gl) := fun q hq => by have := (hH.out.lt hq).1; omega
      have PS : Hid ((unm l0 (List.replicate k false)).Perm lk) := by
        show List.Perm _ _
        have h1 := unm_none l0
        rw [← RD.out.1] at h1
        rw [h1]
        exact PL.out.symm
      have g1 : g < gl := by omega
      have g2 : w.heap.size < g := by have := hH.out.blk.lt; omega
      rw [hwS, hgl, hg]
      clear hwS hgl hg m3 hbG HBG M3 hH hB hT SS hzb PL
      go_loopw [56] (fun v56 wr => ∃ (i : Nat) (v : Value) (lk : List Pair) (ms : List Bool) (y1 y2 : Int), i ≤ k ∧ v56 = .int .i64 i ∧ Hid (HP w.heap.size wr hb v lk) ∧ Hid (IsHeap (keyP a1) lk) ∧ Hid (lk.length + i = k) ∧ Hid ((unm l0 ms).Perm lk) ∧ Hid (MB g wr g k ms) ∧ Hid (Bk wr gl 62 #[.int .i64 y1, .int .i64 y2]) ∧ Hid (Bk wr w.heap.size 4 #[.bool a1]) ∧ Hid (0 < i → ∀ y ∈ lk, keyP a1 (y1, y2) ≤ keyP a1 y) ∧ Hid (∀ r ∈ lk, Fits r.1) ∧ Hid (Below w.heap.size w wr) ∧ Hid (∀ q, InH hb v q → q ≠ g ∧ q ≠ gl)) (fun v56 _ => k - (intOf v56).toNat)
      case atStart => exact ⟨0, v, lk, _, 0, 0, Nat.zero_le _, rfl, HS.out, hI.out, LK.out, PS.out, MS.out, LS.out, TS.out, fun h => absurd h (by omega), FL.out, BS.out, AS.out⟩
      case round =>
        clear HS hI LK PS MS LS TS FL BS AS hlt
        clear v lk
        obtain ⟨i, v, lk, ms, y1, y2, hik, rfl, hH, hI, hL, hU, hM, hY, hT, hO, hF, hB, hA⟩ := hrel
        by_cases hlt : i < k
        · obtain ⟨⟨x1, x2⟩, hx⟩ : ∃ y, lk[0]? = some y := ⟨_, List.getElem?_eq_getElem (by have := hL.out; omega)⟩
          have HX := Lib.hid hx
          clear hx
          go_wp2_with fail
          refine (goPopP hT.out tbl hF.out hH.out hI.out (by have := hL.out; omega) HX.out).mono ?_
          rintro e w3 ⟨rfl, hG⟩
          have BB := Lib.hid (gave_belowP hH.out hG hB.out (Nat.le_of_lt tbl))
          obtain ⟨v', l', h1, h2, h3, h4, h5⟩ := hG
          have M3 : Hid (MB g w3 g k ms) := hM.out.step h4 (fun h => (hA.out _ h).1 rfl)
          have Y3 : Hid (Bk w3 gl 62 #[.int .i64 y1, .int .i64 y2]) := hY.out.step h4 (fun h => (hA.out _ h).2 rfl)
          have T3 : Hid (Bk w3 w.heap.size 4 #[.bool a1]) := hT.out.step h4 (fun h => by have := (hH.out.lt h).2; omega)
          have A3 : Hid (∀ q, InH hb v' q → q ≠ g ∧ q ≠ gl) := fun q hq => by
            by_cases hw : q < wr.heap.size
            · exact hA.out q (InH.old h5 hq hw)
            · have := hM.out.lt
              have := hY.out.lt
              omega
          have H1 := Lib.hid h1
          have H2 := Lib.hid h2
          have P3 := Lib.hid h3
          have F3 : Hid (∀ r ∈ l', Fits r.1) := fun r hr => hF.out r (h3.mem_iff.2 (by simp [hr]))
          have L3 : Hid (l'.length + (i + 1) = k) := by
            have h6 := h3.length_eq
            have h7 := hL.out
            simp at h6
            show _ = _
            omega
          have O3 : Hid (∀ y ∈ l', keyP a1 (x1, x2) ≤ keyP a1 y) := fun y hy => heap_least hI.out HX.out y (h3.mem_iff.2 (by simp [hy]))
          have OK1 : Hid (0 < i → keyP a1 (y1, y2) ≤ keyP a1 (x1, x2)) := fun h => hO.out h _ (List.mem_of_getElem? HX.out)
          have U3 : Hid ((unm l0 ms).Perm ((x1, x2) :: l')) := hU.out.trans h3
          clear h1 h2 h3 h4 h5 hM hY hT hA hF hO hL hU hI hH HX hB
          obtain ⟨wP, hwP⟩ : ∃ wP, w3.alloc (.cells #[.int .i64 x1, .int .i64 x2] 62) = wP := ⟨_, rfl⟩
          obtain ⟨gp, hgp⟩ : ∃ gp, w3.heap.size = gp := ⟨_, rfl⟩
          have MP : Hid (MB g wP g k ms) := by show MB _ _ _ _ _; rw [← hwP]; exact World.ownsRow.alloc M3.out _
          have YP : Hid (Bk wP gl 62 #[.int .i64 y1, .int .i64 y2]) := by show Bk _ _ _ _; rw [← hwP]; exact Y3.out.alloc _
          have TP : Hid (Bk wP w.heap.size 4 #[.bool a1]) := by show Bk _ _ _ _; rw [← hwP]; exact T3.out.alloc _
          have XP : Hid (Bk wP gp 62 #[.int .i64 x1, .int .i64 x2]) := by show Bk _ _ _ _; rw [← hwP, ← hgp]; exact Bk.new _ _ _
          have BP : Hid (Below w.heap.size w wP) := by show Below _ _ _; rw [← hwP]; exact BB.out.alloc BB.out.size _
          have HPp : Hid (HP w.heap.size wP hb v' l') := by show HP _ _ _ _ _; rw [← hwP]; exact H1.out.step (Step.of ((Below.refl _ _).alloc (Nat.le_refl _) _) (fun _ => False)) (fun _ h => h.elim)
          have gp1 : gl < gp := by have := Y3.out.lt; omega
          have zP : w.heap.size ≤ wP.heap.size := BP.out.size
          have hc : i = 0 ∨ (0 < i ∧ x1 = y1) ∨ (0 < i ∧ a1 = true ∧ x1 < y1) ∨ (0 < i ∧ a1 = false ∧ y1 < x1) := by
            rcases Nat.eq_zero_or_pos i with h | h
            · exact .inl h
            · have h1 := OK1.out h
              rcases Int.lt_trichotomy x1 y1 with h2 | h2 | h2
              · cases a1 with
                | true => exact .inr (.inr (.inl ⟨h, rfl, h2⟩))
                | false => simp [keyP] at h1; omega
              · exact .inr (.inl ⟨h, h2⟩)
              · cases a1 with
                | true => simp [keyP] at h1; omega
                | false => exact .inr (.inr (.inr ⟨h, rfl, h2⟩))
          clear M3 Y3 T3 H1 BB OK1
          have cx := XP.out.cell 0
          have cy := YP.out.cell 0
          have ct := TP.out.cell 0
          rcases hc with hi00 | ⟨hpos, rfl⟩ | ⟨hpos, rfl, hlx⟩ | ⟨hpos, rfl, hlx⟩
          · have hn0 : ¬ (0 : Int) < i := by omega
            clear hi00
            go_wp2_with fail
            clear cx cy ct
            go_loopw [16, 88] (fun v16 v88 w9 => ∃ (j : Nat) (f : Bool) (ms' : List Bool), j ≤ k ∧ v16 = .bool f ∧ v88 = .int .i64 j ∧ Hid (MB g w9 g k ms') ∧ Hid (Step (fun q => q = g) wP w9) ∧ Hid (f = true → (unm l0 ms).Perm ((x1, x2) :: unm l0 ms')) ∧ Hid (f = false → ms = ms' ∧ ∀ p, p < j → l0[p]? = some (x1, x2) → ms[p]? = some false → False)) (fun _ v88 _ => k - (intOf v88).toNat)
            case atStart => exact ⟨0, false, ms, Nat.zero_le _, rfl, rfl, MP.out, Step.refl _ _, fun h => (by cases h), fun _ => ⟨rfl, fun p hp => absurd hp (by omega)⟩⟩
            case round =>
              obtain ⟨j, f, ms', hj, rfl, rfl, hM, hS, hG, hN⟩ := hrel
              have B9 : Hid (Below w.heap.size w wr) := hS.out.below (n := w.heap.size) BP.out zP (fun q hq => by rw [hq]; exact Nat.le_of_lt g2)
              have X9 : Hid (Bk wr gp 62 #[.int .i64 x1, .int .i64 x2]) := XP.out.step hS.out (fun h => by have h : gp = g := h; omega)
              by_cases hlt2 : j < k
              · obtain ⟨q1, q2, bb, off, hAd, hq, hc0, hc1⟩ := (RD.out.below B9.out (Nat.le_refl _)).at2 hlt2
                subst hAd
                have S10 : Hid (∀ o, Step (fun q => q = g) wP (wr.alloc o)) := fun o => hS.out.alloc o
                have M10 : Hid (MB g (wr.alloc (.cells #[.int .i64 q1, .int .i64 q2] 62)) g k ms') := World.ownsRow.alloc hM.out _
                cases f with
                | true =>
                  go_wp2_with fail
                  go_roundw
                  case rel => exact ⟨j + 1, true, ms', by omega, rfl, by go_num, M10.out, S10.out _, hG.out, fun h => (by cases h)⟩
                  case measure => simp [intOf]; omega
                | false =>
                  obtain ⟨hms, hno⟩ := hN.out rfl
                  subst hms
                  have NO := Lib.hid hno
                  obtain ⟨m, hm⟩ : ∃ m, ms[j]? = some m := ⟨_, List.getElem?_eq_getElem (by have := hM.out.len; omega)⟩
                  have cm := M10.out.cell hm
                  have fm := M10.out.free j
                  have x9 := (X9.out.alloc (.cells #[.int .i64 q1, .int .i64 q2] 62)).cell 0
                  have x9' := (X9.out.alloc (.cells #[.int .i64 q1, .int .i64 q2] 62)).cell 1
                  have HM := Lib.hid hm
                  clear hm hno
                  cases m with
                  | true =>
                    go_wp2_with fail
                    go_roundw
                    case rel => exact ⟨j + 1, false, ms, by omega, rfl, by go_num, M10.out, S10.out _, fun h => (by cases h), fun _ => ⟨rfl, fun p hp h1 h2 => by
                      rcases Nat.lt_or_ge p j with h | h
                      · exact NO.out p h h1 h2
                      · obtain rfl : p = j := by omega
                        rw [HM.out] at h2
                        cases h2⟩⟩
                    case measure => simp [intOf]; omega
                  | false =>
                    have rest : (x1, x2) ≠ (q1, q2) → ∀ p, p < j + 1 → l0[p]? = some (x1, x2) → ms[p]? = some false → False := fun hne p hp h1 h2 => by
                      rcases Nat.lt_or_ge p j with h | h
                      · exact NO.out p h h1 h2
                      · obtain rfl : p = j := by omega
                        rw [hq.out] at h1
                        injection h1 with h1
                        exact hne h1.symm
                    have RS := Lib.hid rest
                    clear rest
                    by_cases hx1 : x1 = q1
                    · subst hx1
                      by_cases hx2 : x2 = q2
                      · subst hx2
                        clear RS
                        go_wp2_with fail
                        go_roundw
                        case rel => exact ⟨j + 1, true, ms.set j true, by omega, rfl, by go_num, M10.out.mark j, (S10.out _).set rfl _, fun _ => unm_mark l0 ms j _ hq.out HM.out, fun h => (by cases h)⟩
                        case measure => simp [intOf]; omega
                      · have RT := Lib.hid (RS.out (fun h => hx2 (by injection h)))
                        clear RS
                        go_wp2_with fail
                        go_roundw
                        case rel => exact ⟨j + 1, false, ms, by omega, rfl, by go_num, M10.out, S10.out _, fun h => (by cases h), fun _ => ⟨rfl, RT.out⟩⟩
                        case measure => simp [intOf]; omega
                    · have RT := Lib.hid (RS.out (fun h => hx1 (by injection h)))
                      clear RS
                      go_wp2_with fail
                      go_roundw
                      case rel => exact ⟨j + 1, false, ms, by omega, rfl, by go_num, M10.out, S10.out _, fun h => (by cases h), fun _ => ⟨rfl, RT.out⟩⟩
                      case measure => simp [intOf]; omega
              · obtain rfl : j = k := by omega
                cases f with
                | false =>
                  obtain ⟨hms, hno⟩ := hN.out rfl
                  exfalso
                  obtain ⟨p, h1, h2⟩ := unm_mem l0 ms (x1, x2) (U3.out.mem_iff.2 (by simp))
                  exact hno p (by have h3 := (List.getElem?_eq_some_iff.1 h1).1; have h4 := RD.out.1; omega) h1 h2
                | true =>
                  have PF := Lib.hid (List.Perm.cons_inv ((hG.out rfl).symm.trans U3.out))
                  have Y9 := Lib.hid (YP.out.step hS.out (fun h => by have h : gl = g := h; omega))
                  have T9 := Lib.hid (TP.out.step hS.out (fun h => by have h : w.heap.size = g := h; omega))
                  have H9 := Lib.hid (HPp.out.step hS.out (fun q hq hi => (A3.out q hi).1 hq))
                  have cx0 := X9.out.cell 0
                  have cx1 := X9.out.cell 1
                  have cy0 := Y9.out.cell 0
                  have cy1 := Y9.out.cell 1
                  have fy0 := Y9.out.free 0
                  have fy1 := Y9.out.free 1
                  have S11 : Hid (Step (fun q => q = gl) wr ((wr.setCell ⟨gl, 0, none⟩ (.int .i64 x1)).setCell ⟨gl, 1, none⟩ (.int .i64 x2))) := ((Step.refl (fun q => q = gl) wr).set (p := ⟨gl, 0, none⟩) rfl _).set (p := ⟨gl, 1, none⟩) rfl _
                  have Y11 : Hid (Bk ((wr.setCell ⟨gl, 0, none⟩ (.int .i64 x1)).setCell ⟨gl, 1, none⟩ (.int .i64 x2)) gl 62 #[.int .i64 x1, .int .i64 x2]) := (Y9.out.put 0 (.int .i64 x1)).put 1 (.int .i64 x2)
                  go_wp2_with fail
                  go_roundw
                  case rel => exact ⟨i + 1, v', l', ms', x1, x2, by omega, by go_num, H9.out.step S11.out (fun q hq hi => (A3.out q hi).2 hq), H2.out, L3.out, PF.out, hM.out.step S11.out (fun h => by have h : g = gl := h; omega), Y11.out, T9.out.step S11.out (fun h => by have h : w.heap.size = gl := h; omega), fun _ => O3.out, F3.out, S11.out.below (n := w.heap.size) B9.out B9.out.size (fun q hq => by have h : q = gl := hq; omega), A3.out⟩
                  case measure => simp [intOf]; omega
          · have hi0 : (0 : Int) < i := by omega
            go_wp2_with fail
            clear cx cy ct
            go_loopw [16, 88] (fun v16 v88 w9 => ∃ (j : Nat) (f : Bool) (ms' : List Bool), j ≤ k ∧ v16 = .bool f ∧ v88 = .int .i64 j ∧ Hid (MB g w9 g k ms') ∧ Hid (Step (fun q => q = g) wP w9) ∧ Hid (f = true → (unm l0 ms).Perm ((x1, x2) :: unm l0 ms')) ∧ Hid (f = false → ms = ms' ∧ ∀ p, p < j → l0[p]? = some (x1, x2) → ms[p]? = some false → False)) (fun _ v88 _ => k - (intOf v88).toNat)
            case atStart => exact ⟨0, false, ms, Nat.zero_le _, rfl, rfl, MP.out, Step.refl _ _, fun h => (by cases h), fun _ => ⟨rfl, fun p hp => absurd hp (by omega)⟩⟩
            case round =>
              obtain ⟨j, f, ms', hj, rfl, rfl, hM, hS, hG, hN⟩ := hrel
              have B9 : Hid (Below w.heap.size w wr) := hS.out.below (n := w.heap.size) BP.out zP (fun q hq => by rw [hq]; exact Nat.le_of_lt g2)
              have X9 : Hid (Bk wr gp 62 #[.int .i64 x1, .int .i64 x2]) := XP.out.step hS.out (fun h => by have h : gp = g := h; omega)
              by_cases hlt2 : j < k
              · obtain ⟨q1, q2, bb, off, hAd, hq, hc0, hc1⟩ := (RD.out.below B9.out (Nat.le_refl _)).at2 hlt2
                subst hAd
                have S10 : Hid (∀ o, Step (fun q => q = g) wP (wr.alloc o)) := fun o => hS.out.alloc o
                have M10 : Hid (MB g (wr.alloc (.cells #[.int .i64 q1, .int .i64 q2] 62)) g k ms') := World.ownsRow.alloc hM.out _
                cases f with
                | true =>
                  go_wp2_with fail
                  go_roundw
                  case rel => exact ⟨j + 1, true, ms', by omega, rfl, by go_num, M10.out, S10.out _, hG.out, fun h => (by cases h)⟩
                  case measure => simp [intOf]; omega
                | false =>
                  obtain ⟨hms, hno⟩ := hN.out rfl
                  subst hms
                  have NO := Lib.hid hno
                  obtain ⟨m, hm⟩ : ∃ m, ms[j]? = some m := ⟨_, List.getElem?_eq_getElem (by have := hM.out.len; omega)⟩
                  have cm := M10.out.cell hm
                  have fm := M10.out.free j
                  have x9 := (X9.out.alloc (.cells #[.int .i64 q1, .int .i64 q2] 62)).cell 0
                  have x9' := (X9.out.alloc (.cells #[.int .i64 q1, .int .i64 q2] 62)).cell 1
                  have HM := Lib.hid hm
                  clear hm hno
                  cases m with
                  | true =>
                    go_wp2_with fail
                    go_roundw
                    case rel => exact ⟨j + 1, false, ms, by omega, rfl, by go_num, M10.out, S10.out _, fun h => (by cases h), fun _ => ⟨rfl, fun p hp h1 h2 => by
                      rcases Nat.lt_or_ge p j with h | h
                      · exact NO.out p h h1 h2
                      · obtain rfl : p = j := by omega
                        rw [HM.out] at h2
                        cases h2⟩⟩
                    case measure => simp [intOf]; omega
                  | false =>
                    have rest : (x1, x2) ≠ (q1, q2) → ∀ p, p < j + 1 → l0[p]? = some (x1, x2) → ms[p]? = some false → False := fun hne p hp h1 h2 => by
                      rcases Nat.lt_or_ge p j with h | h
                      · exact NO.out p h h1 h2
                      · obtain rfl : p = j := by omega
                        rw [hq.out] at h1
                        injection h1 with h1
                        exact hne h1.symm
                    have RS := Lib.hid rest
                    clear rest
                    by_cases hx1 : x1 = q1
                    · subst hx1
                      by_cases hx2 : x2 = q2
                      · subst hx2
                        clear RS
                        go_wp2_with fail
                        go_roundw
                        case rel => exact ⟨j + 1, true, ms.set j true, by omega, rfl, by go_num, M10.out.mark j, (S10.out _).set rfl _, fun _ => unm_mark l0 ms j _ hq.out HM.out, fun h => (by cases h)⟩
                        case measure => simp [intOf]; omega
                      · have RT := Lib.hid (RS.out (fun h => hx2 (by injection h)))
                        clear RS
                        go_wp2_with fail
                        go_roundw
                        case rel => exact ⟨j + 1, false, ms, by omega, rfl, by go_num, M10.out, S10.out _, fun h => (by cases h), fun _ => ⟨rfl, RT.out⟩⟩
                        case measure => simp [intOf]; omega
                    · have RT := Lib.hid (RS.out (fun h => hx1 (by injection h)))
                      clear RS
                      go_wp2_with fail
                      go_roundw
                      case rel => exact ⟨j + 1, false, ms, by omega, rfl, by go_num, M10.out, S10.out _, fun h => (by cases h), fun _ => ⟨rfl, RT.out⟩⟩
                      case measure => simp [intOf]; omega
              · obtain rfl : j = k := by omega
                cases f with
                | false =>
                  obtain ⟨hms, hno⟩ := hN.out rfl
                  exfalso
                  obtain ⟨p, h1, h2⟩ := unm_mem l0 ms (x1, x2) (U3.out.mem_iff.2 (by simp))
                  exact hno p (by have h3 := (List.getElem?_eq_some_iff.1 h1).1; have h4 := RD.out.1; omega) h1 h2
                | true =>
                  have PF := Lib.hid (List.Perm.cons_inv ((hG.out rfl).symm.trans U3.out))
                  have Y9 := Lib.hid (YP.out.step hS.out (fun h => by have h : gl = g := h; omega))
                  have T9 := Lib.hid (TP.out.step hS.out (fun h => by have h : w.heap.size = g := h; omega))
                  have H9 := Lib.hid (HPp.out.step hS.out (fun q hq hi => (A3.out q hi).1 hq))
                  have cx0 := X9.out.cell 0
                  have cx1 := X9.out.cell 1
                  have cy0 := Y9.out.cell 0
                  have cy1 := Y9.out.cell 1
                  have fy0 := Y9.out.free 0
                  have fy1 := Y9.out.free 1
                  have S11 : Hid (Step (fun q => q = gl) wr ((wr.setCell ⟨gl, 0, none⟩ (.int .i64 x1)).setCell ⟨gl, 1, none⟩ (.int .i64 x2))) := ((Step.refl (fun q => q = gl) wr).set (p := ⟨gl, 0, none⟩) rfl _).set (p := ⟨gl, 1, none⟩) rfl _
                  have Y11 : Hid (Bk ((wr.setCell ⟨gl, 0, none⟩ (.int .i64 x1)).setCell ⟨gl, 1, none⟩ (.int .i64 x2)) gl 62 #[.int .i64 x1, .int .i64 x2]) := (Y9.out.put 0 (.int .i64 x1)).put 1 (.int .i64 x2)
                  go_wp2_with fail
                  go_roundw
                  case rel => exact ⟨i + 1, v', l', ms', x1, x2, by omega, by go_num, H9.out.step S11.out (fun q hq hi => (A3.out q hi).2 hq), H2.out, L3.out, PF.out, hM.out.step S11.out (fun h => by have h : g = gl := h; omega), Y11.out, T9.out.step S11.out (fun h => by have h : w.heap.size = gl := h; omega), fun _ => O3.out, F3.out, S11.out.below (n := w.heap.size) B9.out B9.out.size (fun q hq => by have h : q = gl := hq; omega), A3.out⟩
                  case measure => simp [intOf]; omega
          · have hi0 : (0 : Int) < i := by omega
            have hne : ¬ x1 = y1 := by omega
            have hng : ¬ y1 < x1 := by omega
            go_wp2_with fail
            clear cx cy ct
            go_loopw [16, 88] (fun v16 v88 w9 => ∃ (j : Nat) (f : Bool) (ms' : List Bool), j ≤ k ∧ v16 = .bool f ∧ v88 = .int .i64 j ∧ Hid (MB g w9 g k ms') ∧ Hid (Step (fun q => q = g) wP w9) ∧ Hid (f = true → (unm l0 ms).Perm ((x1, x2) :: unm l0 ms')) ∧ Hid (f = false → ms = ms' ∧ ∀ p, p < j → l0[p]? = some (x1, x2) → ms[p]? = some false → False)) (fun _ v88 _ => k - (intOf v88).toNat)
            case atStart => exact ⟨0, false, ms, Nat.zero_le _, rfl, rfl, MP.out, Step.refl _ _, fun h => (by cases h), fun _ => ⟨rfl, fun p hp => absurd hp (by omega)⟩⟩
            case round =>
              obtain ⟨j, f, ms', hj, rfl, rfl, hM, hS, hG, hN⟩ := hrel
              have B9 : Hid (Below w.heap.size w wr) := hS.out.below (n := w.heap.size) BP.out zP (fun q hq => by rw [hq]; exact Nat.le_of_lt g2)
              have X9 : Hid (Bk wr gp 62 #[.int .i64 x1, .int .i64 x2]) := XP.out.step hS.out (fun h => by have h : gp = g := h; omega)
              by_cases hlt2 : j < k
              · obtain ⟨q1, q2, bb, off, hAd, hq, hc0, hc1⟩ := (RD.out.below B9.out (Nat.le_refl _)).at2 hlt2
                subst hAd
                have S10 : Hid (∀ o, Step (fun q => q = g) wP (wr.alloc o)) := fun o => hS.out.alloc o
                have M10 : Hid (MB g (wr.alloc (.cells #[.int .i64 q1, .int .i64 q2] 62)) g k ms') := World.ownsRow.alloc hM.out _
                cases f with
                | true =>
                  go_wp2_with fail
                  go_roundw
                  case rel => exact ⟨j + 1, true, ms', by omega, rfl, by go_num, M10.out, S10.out _, hG.out, fun h => (by cases h)⟩
                  case measure => simp [intOf]; omega
                | false =>
                  obtain ⟨hms, hno⟩ := hN.out rfl
                  subst hms
                  have NO := Lib.hid hno
                  obtain ⟨m, hm⟩ : ∃ m, ms[j]? = some m := ⟨_, List.getElem?_eq_getElem (by have := hM.out.len; omega)⟩
                  have cm := M10.out.cell hm
                  have fm := M10.out.free j
                  have x9 := (X9.out.alloc (.cells #[.int .i64 q1, .int .i64 q2] 62)).cell 0
                  have x9' := (X9.out.alloc (.cells #[.int .i64 q1, .int .i64 q2] 62)).cell 1
                  have HM := Lib.hid hm
                  clear hm hno
                  cases m with
                  | true =>
                    go_wp2_with fail
                    go_roundw
                    case rel => exact ⟨j + 1, false, ms, by omega, rfl, by go_num, M10.out, S10.out _, fun h => (by cases h), fun _ => ⟨rfl, fun p hp h1 h2 => by
                      rcases Nat.lt_or_ge p j with h | h
                      · exact NO.out p h h1 h2
                      · obtain rfl : p = j := by omega
                        rw [HM.out] at h2
                        cases h2⟩⟩
                    case measure => simp [intOf]; omega
                  | false =>
                    have rest : (x1, x2) ≠ (q1, q2) → ∀ p, p < j + 1 → l0[p]? = some (x1, x2) → ms[p]? = some false → False := fun hne p hp h1 h2 => by
                      rcases Nat.lt_or_ge p j with h | h
                      · exact NO.out p h h1 h2
                      · obtain rfl : p = j := by omega
                        rw [hq.out] at h1
                        injection h1 with h1
                        exact hne h1.symm
                    have RS := Lib.hid rest
                    clear rest
                    by_cases hx1 : x1 = q1
                    · subst hx1
                      by_cases hx2 : x2 = q2
                      · subst hx2
                        clear RS
                        go_wp2_with fail
                        go_roundw
                        case rel => exact ⟨j + 1, true, ms.set j true, by omega, rfl, by go_num, M10.out.mark j, (S10.out _).set rfl _, fun _ => unm_mark l0 ms j _ hq.out HM.out, fun h => (by cases h)⟩
                        case measure => simp [intOf]; omega
                      · have RT := Lib.hid (RS.out (fun h => hx2 (by injection h)))
                        clear RS
                        go_wp2_with fail
                        go_roundw
                        case rel => exact ⟨j + 1, false, ms, by omega, rfl, by go_num, M10.out, S10.out _, fun h => (by cases h), fun _ => ⟨rfl, RT.out⟩⟩
                        case measure => simp [intOf]; omega
                    · have RT := Lib.hid (RS.out (fun h => hx1 (by injection h)))
                      clear RS
                      go_wp2_with fail
                      go_roundw
                      case rel => exact ⟨j + 1, false, ms, by omega, rfl, by go_num, M10.out, S10.out _, fun h => (by cases h), fun _ => ⟨rfl, RT.out⟩⟩
                      case measure => simp [intOf]; omega
              · obtain rfl : j = k := by omega
                cases f with
                | false =>
                  obtain ⟨hms, hno⟩ := hN.out rfl
                  exfalso
                  obtain ⟨p, h1, h2⟩ := unm_mem l0 ms (x1, x2) (U3.out.mem_iff.2 (by simp))
                  exact hno p (by have h3 := (List.getElem?_eq_some_iff.1 h1).1; have h4 := RD.out.1; omega) h1 h2
                | true =>
                  have PF := Lib.hid (List.Perm.cons_inv ((hG.out rfl).symm.trans U3.out))
                  have Y9 := Lib.hid (YP.out.step hS.out (fun h => by have h : gl = g := h; omega))
                  have T9 := Lib.hid (TP.out.step hS.out (fun h => by have h : w.heap.size = g := h; omega))
                  have H9 := Lib.hid (HPp.out.step hS.out (fun q hq hi => (A3.out q hi).1 hq))
                  have cx0 := X9.out.cell 0
                  have cx1 := X9.out.cell 1
                  have cy0 := Y9.out.cell 0
                  have cy1 := Y9.out.cell 1
                  have fy0 := Y9.out.free 0
                  have fy1 := Y9.out.free 1
                  have S11 : Hid (Step (fun q => q = gl) wr ((wr.setCell ⟨gl, 0, none⟩ (.int .i64 x1)).setCell ⟨gl, 1, none⟩ (.int .i64 x2))) := ((Step.refl (fun q => q = gl) wr).set (p := ⟨gl, 0, none⟩) rfl _).set (p := ⟨gl, 1, none⟩) rfl _
                  have Y11 : Hid (Bk ((wr.setCell ⟨gl, 0, none⟩ (.int .i64 x1)).setCell ⟨gl, 1, none⟩ (.int .i64 x2)) gl 62 #[.int .i64 x1, .int .i64 x2]) := (Y9.out.put 0 (.int .i64 x1)).put 1 (.int .i64 x2)
                  go_wp2_with fail
                  go_roundw
                  case rel => exact ⟨i + 1, v', l', ms', x1, x2, by omega, by go_num, H9.out.step S11.out (fun q hq hi => (A3.out q hi).2 hq), H2.out, L3.out, PF.out, hM.out.step S11.out (fun h => by have h : g = gl := h; omega), Y11.out, T9.out.step S11.out (fun h => by have h : w.heap.size = gl := h; omega), fun _ => O3.out, F3.out, S11.out.below (n := w.heap.size) B9.out B9.out.size (fun q hq => by have h : q = gl := hq; omega), A3.out⟩
                  case measure => simp [intOf]; omega
          · have hi0 : (0 : Int) < i := by omega
            have hne : ¬ x1 = y1 := by omega
            go_wp2_with fail
            clear cx cy ct
            go_loopw [16, 88] (fun v16 v88 w9 => ∃ (j : Nat) (f : Bool) (ms' : List Bool), j ≤ k ∧ v16 = .bool f ∧ v88 = .int .i64 j ∧ Hid (MB g w9 g k ms') ∧ Hid (Step (fun q => q = g) wP w9) ∧ Hid (f = true → (unm l0 ms).Perm ((x1, x2) :: unm l0 ms')) ∧ Hid (f = false → ms = ms' ∧ ∀ p, p < j → l0[p]? = some (x1, x2) → ms[p]? = some false → False)) (fun _ v88 _ => k - (intOf v88).toNat)
            case atStart => exact ⟨0, false, ms, Nat.zero_le _, rfl, rfl, MP.out, Step.refl _ _, fun h => (by cases h), fun _ => ⟨rfl, fun p hp => absurd hp (by omega)⟩⟩
            case round =>
              obtain ⟨j, f, ms', hj, rfl, rfl, hM, hS, hG, hN⟩ := hrel
              have B9 : Hid (Below w.heap.size w wr) := hS.out.below (n := w.heap.size) BP.out zP (fun q hq => by rw [hq]; exact Nat.le_of_lt g2)
              have X9 : Hid (Bk wr gp 62 #[.int .i64 x1, .int .i64 x2]) := XP.out.step hS.out (fun h => by have h : gp = g := h; omega)
              by_cases hlt2 : j < k
              · obtain ⟨q1, q2, bb, off, hAd, hq, hc0, hc1⟩ := (RD.out.below B9.out (Nat.le_refl _)).at2 hlt2
                subst hAd
                have S10 : Hid (∀ o, Step (fun q => q = g) wP (wr.alloc o)) := fun o => hS.out.alloc o
                have M10 : Hid (MB g (wr.alloc (.cells #[.int .i64 q1, .int .i64 q2] 62)) g k ms') := World.ownsRow.alloc hM.out _
                cases f with
                | true =>
                  go_wp2_with fail
                  go_roundw
                  case rel => exact ⟨j + 1, true, ms', by omega, rfl, by go_num, M10.out, S10.out _, hG.out, fun h => (by cases h)⟩
                  case measure => simp [intOf]; omega
                | false =>
                  obtain ⟨hms, hno⟩ := hN.out rfl
                  subst hms
                  have NO := Lib.hid hno
                  obtain ⟨m, hm⟩ : ∃ m, ms[j]? = some m := ⟨_, List.getElem?_eq_getElem (by have := hM.out.len; omega)⟩
                  have cm := M10.out.cell hm
                  have fm := M10.out.free j
                  have x9 := (X9.out.alloc (.cells #[.int .i64 q1, .int .i64 q2] 62)).cell 0
                  have x9' := (X9.out.alloc (.cells #[.int .i64 q1, .int .i64 q2] 62)).cell 1
                  have HM := Lib.hid hm
                  clear hm hno
                  cases m with
                  | true =>
                    go_wp2_with fail
                    go_roundw
                    case rel => exact ⟨j + 1, false, ms, by omega, rfl, by go_num, M10.out, S10.out _, fun h => (by cases h), fun _ => ⟨rfl, fun p hp h1 h2 => by
                      rcases Nat.lt_or_ge p j with h | h
                      · exact NO.out p h h1 h2
                      · obtain rfl : p = j := by omega
                        rw [HM.out] at h2
                        cases h2⟩⟩
                    case measure => simp [intOf]; omega
                  | false =>
                    have rest : (x1, x2) ≠ (q1, q2) → ∀ p, p < j + 1 → l0[p]? = some (x1, x2) → ms[p]? = some false → False := fun hne p hp h1 h2 => by
                      rcases Nat.lt_or_ge p j with h | h
                      · exact NO.out p h h1 h2
                      · obtain rfl : p = j := by omega
                        rw [hq.out] at h1
                        injection h1 with h1
                        exact hne h1.symm
                    have RS := Lib.hid rest
                    clear rest
                    by_cases hx1 : x1 = q1
                    · subst hx1
                      by_cases hx2 : x2 = q2
                      · subst hx2
                        clear RS
                        go_wp2_with fail
                        go_roundw
                        case rel => exact ⟨j + 1, true, ms.set j true, by omega, rfl, by go_num, M10.out.mark j, (S10.out _).set rfl _, fun _ => unm_mark l0 ms j _ hq.out HM.out, fun h => (by cases h)⟩
                        case measure => simp [intOf]; omega
                      · have RT := Lib.hid (RS.out (fun h => hx2 (by injection h)))
                        clear RS
                        go_wp2_with fail
                        go_roundw
                        case rel => exact ⟨j + 1, false, ms, by omega, rfl, by go_num, M10.out, S10.out _, fun h => (by cases h), fun _ => ⟨rfl, RT.out⟩⟩
                        case measure => simp [intOf]; omega
                    · have RT := Lib.hid (RS.out (fun h => hx1 (by injection h)))
                      clear RS
                      go_wp2_with fail
                      go_roundw
                      case rel => exact ⟨j + 1, false, ms, by omega, rfl, by go_num, M10.out, S10.out _, fun h => (by cases h), fun _ => ⟨rfl, RT.out⟩⟩
                      case measure => simp [intOf]; omega
              · obtain rfl : j = k := by omega
                cases f with
                | false =>
                  obtain ⟨hms, hno⟩ := hN.out rfl
                  exfalso
                  obtain ⟨p, h1, h2⟩ := unm_mem l0 ms (x1, x2) (U3.out.mem_iff.2 (by simp))
                  exact hno p (by have h3 := (List.getElem?_eq_some_iff.1 h1).1; have h4 := RD.out.1; omega) h1 h2
                | true =>
                  have PF := Lib.hid (List.Perm.cons_inv ((hG.out rfl).symm.trans U3.out))
                  have Y9 := Lib.hid (YP.out.step hS.out (fun h => by have h : gl = g := h; omega))
                  have T9 := Lib.hid (TP.out.step hS.out (fun h => by have h : w.heap.size = g := h; omega))
                  have H9 := Lib.hid (HPp.out.step hS.out (fun q hq hi => (A3.out q hi).1 hq))
                  have cx0 := X9.out.cell 0
                  have cx1 := X9.out.cell 1
                  have cy0 := Y9.out.cell 0
                  have cy1 := Y9.out.cell 1
                  have fy0 := Y9.out.free 0
                  have fy1 := Y9.out.free 1
                  have S11 : Hid (Step (fun q => q = gl) wr ((wr.setCell ⟨gl, 0, none⟩ (.int .i64 x1)).setCell ⟨gl, 1, none⟩ (.int .i64 x2))) := ((Step.refl (fun q => q = gl) wr).set (p := ⟨gl, 0, none⟩) rfl _).set (p := ⟨gl, 1, none⟩) rfl _
                  have Y11 : Hid (Bk ((wr.setCell ⟨gl, 0, none⟩ (.int .i64 x1)).setCell ⟨gl, 1, none⟩ (.int .i64 x2)) gl 62 #[.int .i64 x1, .int .i64 x2]) := (Y9.out.put 0 (.int .i64 x1)).put 1 (.int .i64 x2)
                  go_wp2_with fail
                  go_roundw
                  case rel => exact ⟨i + 1, v', l', ms', x1, x2, by omega, by go_num, H9.out.step S11.out (fun q hq hi => (A3.out q hi).2 hq), H2.out, L3.out, PF.out, hM.out.step S11.out (fun h => by have h : g = gl := h; omega), Y11.out, T9.out.step S11.out (fun h => by have h : w.heap.size = gl := h; omega), fun _ => O3.out, F3.out, S11.out.below (n := w.heap.size) B9.out B9.out.size (fun q hq => by have h : q = gl := hq; omega), A3.out⟩
                  case measure => simp [intOf]; omega
        · obtain rfl : i = k := by omega
          obtain rfl : lk = [] := List.eq_nil_of_length_eq_zero (by have := hL.out; omega)
          obtain ⟨A, c, hv⟩ := own_any hH.out.row
          have hv' : v = .slice A 0 c := hv
          subst hv'
          clear hv
          go_wp2_with fail
          refine (goLenP hH.out).mono ?_
          rintro e w3 ⟨rfl, rfl⟩
          go_wp2_with fail
          go_ret
          exact ⟨rfl, hB.out⟩
end heapOrdersWalk
end Go.Proofs.Ytgaonfeljijebaa
