/-
  ladder.spans: the value that it hands back gives each span of a ladder, one after the other. Conditions: the reading of the ladder's rungs.
-/
import Derived.Test.YtjnkokfneinjeaaLad
import Derived.Test.YtjnkokfneinjeaaLadP
import Derived.Test.YtjnkokfneinjeaaRange
import Derived.TacticsInMore
import Derived.LoopIn
import Derived.LoopNIn
import Derived.OwnWalkIn
import Derived.BigFrameIn
namespace Go.Proofs.Ytjnkokfneinjeaa
open Go.ChangeShapes Go.WideShapes Go.ChangeAt Go.RowKit Go.Shelf
set_option linter.unusedVariables false

/-- The first k spans. -/
def spansTo (l : List (Int × Int)) (k : Nat) : List ((Int × Int) × Int) := (List.range k).map fun i => (frm l i, upt l i)
theorem spansTo_succ (l : List (Int × Int)) (k : Nat) : spansTo l (k + 1) = spansTo l k ++ [(frm l k, upt l k)] := by simp [spansTo, List.range_succ]
theorem spansTo_len (l : List (Int × Int)) (k : Nat) : (spansTo l k).length = k := by simp [spansTo]
def encS (x : (Int × Int) × Int) : Array Value := #[.agg #[.int .i64 x.1.1, .int .i64 x.1.2], .int .i64 x.2]
theorem Keeps.below {O : Nat → Prop} {m n : Nat} {w a b : World} (h : Keeps O m a b) (hb : Below n w a) (hn : n ≤ a.heap.size) (ho : ∀ k, k < n → O k) : Below n w b :=
  hb.trans ⟨h.os, h.tape, h.output, h.size, fun k hk => h.block k (Nat.lt_of_lt_of_le hk hn) (.inr (ho k hk))⟩
theorem Bk.keeps {O : Nat → Prop} {m g : Nat} {t : TypeId} {cs : Array Value} {a b : World} (h : Bk a g t cs) (hk : Keeps O m a b) (hg : m ≤ g ∨ O g) : Bk b g t cs := (hk.block g h.lt hg).trans h

set_option maxRecDepth 100000 in
set_option maxHeartbeats 2000000 in
theorem spans_cells (A : Option Addr) (n c : Nat) (l : List (Int × Int)) (w w0 : World) (lb : Nat) (hl : Rd two 2 w A n l) (hn : n ≤ 100) (hb : Below w.heap.size w w0) (hlb : Bk w0 lb 41 #[.slice A n c]) (hle : w.heap.size ≤ lb) :
    SeqCells Try.prog 32 #[.pointer (some ⟨lb, 0, none⟩)] encS (fun pre x => ∃ k, k ≤ n ∧ pre = spansTo l k ∧ x = (frm l k, upt l k)) (fun xs => xs = spansTo l (n + 1)) (fun pre => ∃ k, k ≤ n ∧ pre = spansTo l (k + 1)) (fun N k => k = N) (fun k => k < w.heap.size ∨ k = lb) w0 := by
  intro m y J Jx W hb0 hsz hJ hJx hY h0
  have HY := Lib.hid hY
  have HJ := Lib.hid hJ
  have HJx := Lib.hid hJx
  have H0 := Lib.hid h0
  have lbl := hlb.lt
  have BL : Hid (Bk W lb 41 #[.slice A n c]) := hlb.below hb0 lbl
  have HB : Hid (Below w.heap.size w W) := hb.trans (hb0.mono hb.size)
  have z1 := HB.out.size
  clear hY hJ hJx h0 hb hb0 hlb
  refine callsIn_of_wp Try.func32 rfl trivial ?_ rfl
  simp only [Try.ntmps32, List.size_toArray, List.length_cons, List.length_nil, Nat.reduceAdd, Nat.reduceSub, Array.replicate_succ, Array.replicate_zero, List.push_toArray, List.append_toArray, List.nil_append, List.cons_append]
  have cb : W.cell? ⟨lb, 0, none⟩ = some (.slice A n c) := BL.out.cell 0
  have lbW : lb < W.heap.size := BL.out.lt
  gi_wp2
  gi_loopw [9] (fun i wr => ∃ (k : Nat) (f s : Int), k ≤ n ∧ i = .int .i64 k ∧ Hid (frm l k = (f, s)) ∧ Hid (J (spansTo l k) wr) ∧ Hid (Bk wr W.heap.size 46 #[.int .i64 f, .int .i64 s]) ∧ Hid (Bk wr lb 41 #[.slice A n c]) ∧ Hid (Below w.heap.size w wr) ∧ Hid (W.heap.size ≤ wr.heap.size)) (fun i _ => n - (intOf i).toNat)
  case atStart =>
    exact ⟨0, 0, 1000, by omega, rfl, rfl, HJ.out _ _ _ H0.out ((Step.refl _ _).alloc _), Bk.new _ _ _, BL.out.alloc _, HB.out.alloc z1 _, by show _ ≤ _; simp⟩
  case round =>
    obtain ⟨k, f, s, hk, rfl, hfs, hj, hbk, hbl, hB, hz⟩ := hrel
    have z2 := hB.out.size
    have z3 := hbk.out.lt
    have z4 := hbl.out.lt
    have c0 := hbk.out.cell 0
    have c1 := hbk.out.cell 1
    by_cases hlt : k < n
    · obtain ⟨x, y2, b, off, hA, hx, hcx, hcy⟩ := (hl.below hB.out (Nat.le_refl _)).at2 hlt
      subst hA
      have lx := lt_of_cell hcx
      have UP : Hid (upt l k = x) := by
        show _ = _
        unfold upt
        rw [if_pos (by rw [← hl.1]; exact hlt), getD_of hx.out]
      have FN : Hid (frm l (k + 1) = (x, y2)) := getD_of hx.out
      have SP : Hid (spansTo l k ++ [((f, s), x)] = spansTo l (k + 1)) := by show _ = _; rw [spansTo_succ, hfs.out, UP.out]
      obtain ⟨wr1, hw1⟩ : ∃ wr1, wr.alloc (.cells #[.int .i64 x, .int .i64 y2] 46) = wr1 := ⟨_, rfl⟩
      have hst : Hid (Step (fun k => k = W.heap.size) wr wr1) := by show Step _ _ _; rw [← hw1]; exact (Step.refl _ _).alloc _
      have B1 : Hid (Bk wr1 wr.heap.size 46 #[.int .i64 x, .int .i64 y2]) := by show Bk _ _ _ _; rw [← hw1]; exact Bk.new _ _ _
      have B2 : Hid (Bk wr1 W.heap.size 46 #[.int .i64 f, .int .i64 s]) := by show Bk _ _ _ _; rw [← hw1]; exact hbk.out.alloc _
      have B3 : Hid (Bk wr1 lb 41 #[.slice (some ⟨b, off, none⟩) n c]) := by show Bk _ _ _ _; rw [← hw1]; exact hbl.out.alloc _
      have B4 : Hid (Below w.heap.size w wr1) := by show Below _ _ _; rw [← hw1]; exact hB.out.alloc z2 _
      obtain ⟨fn, tm, asg, bd, hy, hR⟩ := HY.out (spansTo l k) ((f, s), x) wr wr1 ⟨k, hk, rfl, by rw [hfs.out, UP.out]⟩ hj.out hz.out hst.out
      simp only [encS] at hy
      have d0 := B2.out.cell 0
      have d1 := B2.out.cell 1
      have e0 := B1.out.cell 0
      have e1 := B1.out.cell 1
      gi_wp2
      refine hR.mono ?_
      have hlk : k ≤ n := hk
      have WL : Hid (wr.heap.size < wr1.heap.size) := by show _ < _; rw [← hw1]; simp
      clear hw1 c0 c1 d0 d1 e0 e1 hy hR
      rintro e w2 (⟨rfl, hj2, hk2⟩ | ⟨rfl, hjx2⟩)
      · rw [SP.out] at hj2
        have C1 := Lib.hid (B1.out.keeps hk2 (.inl (Nat.le_refl _)))
        have C2 := Lib.hid (B2.out.keeps hk2 (.inr (.inl rfl)))
        have C3 := Lib.hid (B3.out.keeps hk2 (.inr (.inr (.inr rfl))))
        have C4 : Hid (Below w.heap.size w w2) := hk2.below B4.out B4.out.size (fun k hk => .inr (.inl hk))
        have z5 := hk2.size
        have hJ2 := Lib.hid hj2
        have a0 := C1.out.cell 0
        have a1 := C1.out.cell 1
        have f0 := C2.out.cell 0
        have f1 := C2.out.cell 1
        have g0 := C2.out.free 0
        have g1 := C2.out.free 1
        have z6 := C2.out.lt
        have z7 := C3.out.lt
        have z8 := WL.out
        clear hk2 hj2
        gi_wp2
        go_roundw
        case rel =>
          exact ⟨k + 1, x, y2, by omega, by go_num, FN.out, HJ.out _ _ _ hJ2.out (((Step.refl (fun k => k = W.heap.size) _).set (p := ⟨W.heap.size, 0, none⟩) rfl _).set (p := ⟨W.heap.size, 1, none⟩) rfl _), (C2.out.put 0 _).put 1 _, (C3.out.far (p := ⟨_, 0, none⟩) (by show lb ≠ W.heap.size; omega) _).far (p := ⟨_, 1, none⟩) (by show lb ≠ W.heap.size; omega) _, (C4.out.setCell (p := ⟨_, 0, none⟩) z1 _).setCell (p := ⟨_, 1, none⟩) z1 _, by show _ ≤ _; simp [World.setCell]; omega⟩
        case measure => simp [intOf]; omega
      · rw [SP.out] at hjx2
        gi_wp2
        refine bodyPost_ret (results_none rfl _ _ _) rfl ?_
        exact ⟨⟨_, rfl⟩, .inr ⟨_, ⟨k, hlk, rfl⟩, hjx2⟩⟩
    · obtain rfl : k = n := by omega
      have UP : Hid (upt l k = 281474976710656) := by
        show _ = _
        unfold upt
        rw [if_neg (by rw [← hl.1]; omega)]
      have SP : Hid (spansTo l k ++ [((f, s), 281474976710656)] = spansTo l (k + 1)) := by show _ = _; rw [spansTo_succ, hfs.out, UP.out]
      obtain ⟨fn, tm, asg, bd, hy, hR⟩ := HY.out (spansTo l k) ((f, s), 281474976710656) wr wr ⟨k, hk, rfl, by rw [hfs.out, UP.out]⟩ hj.out hz.out (Step.refl _ _)
      simp only [encS] at hy
      gi_wp2
      refine hR.mono ?_
      clear hy hR c0 c1
      rintro e w2 (⟨rfl, hj2, hk2⟩ | ⟨rfl, hjx2⟩)
      · rw [SP.out] at hj2
        gi_wp2
        first | go_end0 | go_ret
        exact ⟨⟨_, rfl⟩, .inl ⟨_, rfl, hj2⟩⟩
      · rw [SP.out] at hjx2
        gi_wp2
        first | go_end0 | go_ret
        exact ⟨⟨_, rfl⟩, .inr ⟨_, ⟨k, Nat.le_refl _, rfl⟩, hjx2⟩⟩
end Go.Proofs.Ytjnkokfneinjeaa
