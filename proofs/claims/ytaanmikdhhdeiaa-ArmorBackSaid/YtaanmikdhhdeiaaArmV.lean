/-
  Two readings of one list of bytes are the same to the reference; and what a text is read as, step by step. Conditions: the arguments' readings.
-/
import Derived.Test.YtaanmikdhhdeiaaArmSR
import Derived.Lib.OthersKept
import Derived.Lib.RabinKarpLaws
namespace Go.Proofs.Ytaanmikdhhdeiaa
open Go.ChangeShapes Go.WideShapes Go.ChangeAt Go.RowKit
set_option linter.unusedVariables false

theorem refSame (A B : Option Addr) (n c c' : Nat) (l : List Nat) (w : World) (h : RdK .u8 w A n l) (h' : RdK .u8 w B n l) (hm : n ≤ 1000000) : Calls Try.prog 13 #[.slice A n c, .slice B n c'] w fun e w' => e = .returned (.bool true) ∧ Below w.heap.size w w' := by
  go_enter Try.func13, Try.ntmps13
  go_wp2
  go_loopw [5] (fun i wr => ∃ (k q : Nat), k ≤ n ∧ i = .int .i64 k ∧ Hid (wr = w.drewN q)) (fun i _ => n - (intOf i).toNat)
  case atStart => exact ⟨0, 0, by omega, rfl, rfl⟩
  case round =>
    obtain ⟨k, q, hk, rfl, hw⟩ := hrel
    have R1 : Hid (RdK .u8 wr A n l) := by rw [hw.out]; exact h.drewN q
    have R2 : Hid (RdK .u8 wr B n l) := by rw [hw.out]; exact h'.drewN q
    by_cases hlt : k < n
    · obtain ⟨x, b1, o1, hA, hx, c1⟩ := R1.out.at hlt
      obtain ⟨y, b2, o2, hB, hy, c2⟩ := R2.out.at hlt
      obtain rfl : x = y := by have h1 := hx.out; rw [hy.out] at h1; injection h1 with h1; exact h1.symm
      subst hA hB
      have k0 : (0 : Int) ≤ k := by omega
      have k1 : (k : Int) < n := by omega
      go_wp2
      go_quiet (fail)
      go_wp2
      go_roundw
      case rel => exact ⟨k + 1, q + nq, by omega, by go_num, by show _ = _; rw [hw.out, World.drewN_drewN]⟩
      case measure => simp [intOf]; omega
    · obtain rfl : k = n := by omega
      go_wp2
      go_ret
      exact ⟨rfl, by rw [hw.out]; exact below_dN (Below.refl _ _) q⟩

/-- A text's bytes. -/
def byt (s : ByteArray) : List Nat := s.data.toList.map UInt8.toNat
theorem byt_len (s : ByteArray) : (byt s).length = s.size := by simp [byt]
theorem byt_at {s : ByteArray} {k : Nat} (h : k < s.size) : (byt s)[k]? = some (s[k]).toNat := by
  unfold byt
  rw [List.getElem?_map, Go.Proofs.byte_at s k h]
  rfl
theorem byt_small (s : ByteArray) : Small 256 (byt s) := fun x hx => by
  obtain ⟨c, _, rfl⟩ := List.mem_map.1 hx
  exact c.toNat_lt
/-- The first k bytes are strokes or good signs. -/
def GoodTo (l : List Nat) (k : Nat) : Prop := ∀ c ∈ l.take k, c = 45 ∨ five c < 32
theorem goodTo_succ {l : List Nat} {k x : Nat} (h : GoodTo l k) (hx : l[k]? = some x) (h' : x = 45 ∨ five x < 32) : GoodTo l (k + 1) := fun c hc => by
  rw [take_succ_of hx] at hc
  rcases List.mem_append.1 hc with hc | hc
  · exact h c hc
  · rw [List.mem_singleton.1 hc]; exact h'
theorem read_dash {l : List Nat} {k : Nat} (hx : l[k]? = some 45) : readOf (l.take (k + 1)) = readOf (l.take k) := by
  rw [take_succ_of hx, readOf_app]
  exact List.append_nil _
theorem read_sign {l : List Nat} {k x : Nat} (hx : l[k]? = some x) (h : x ≠ 45) : readOf (l.take (k + 1)) = readOf (l.take k) ++ [five x] := by
  rw [take_succ_of hx, readOf_app]
  congr 1
  unfold readOf
  rw [List.filter_cons, if_pos (bne_iff_ne.2 h), List.filter_nil, List.map_singleton]
theorem readOf_le (l : List Nat) : (readOf l).length ≤ l.length := by
  unfold readOf
  rw [List.length_map]
  exact List.length_filter_le _ _
theorem readOf_small {l : List Nat} (h : ∀ c ∈ l, c = 45 ∨ five c < 32) : Small 32 (readOf l) := fun x hx => by
  unfold readOf at hx
  obtain ⟨c, hc, rfl⟩ := List.mem_map.1 hx
  obtain ⟨hc1, hc2⟩ := List.mem_filter.1 hc
  rcases h c hc1 with h1 | h1
  · exact absurd h1 (bne_iff_ne.1 hc2)
  · exact h1
/-- A wrong sign at place k: what is read. -/
theorem bytes_wrong {l : List Nat} {k x : Nat} (h : GoodTo l k) (hx : l[k]? = some x) (h1 : x ≠ 45) (h2 : ¬ five x < 32) : bytesOf l = ([], k + 1, 11) := by
  have hk := (List.getElem?_eq_some_iff.1 hx).1
  have e : l.findIdx? (fun c => c != 45 && decide (32 ≤ five c)) = some k := by
    rw [List.findIdx?_eq_some_iff_getElem]
    refine ⟨hk, ?_, fun j hj => ?_⟩
    · rw [(List.getElem?_eq_some_iff.1 hx).2]
      simp [h1]; omega
    · have hm : l[j]'(by omega) ∈ l.take k := by
        rw [List.mem_take_iff_getElem]
        exact ⟨j, by omega, rfl⟩
      rcases h _ hm with h3 | h3
      · simp [h3]
      · simp; omega
  unfold bytesOf
  rw [e]
theorem good_none {l : List Nat} (h : GoodTo l l.length) : l.findIdx? (fun c => c != 45 && decide (32 ≤ five c)) = none := by
  rw [List.findIdx?_eq_none_iff]
  intro c hc
  rcases h c (by rw [List.take_length]; exact hc) with rfl | h
  · rfl
  · simp; omega
theorem bytes_empty {l : List Nat} (h : GoodTo l l.length) (hr : readOf l = []) : bytesOf l = ([], 0, 10) := by
  unfold bytesOf
  rw [good_none h]
  simp [hr]
/-- What the fives f and the last one c are read as. -/
theorem bytes_end {l f : List Nat} {c : Nat} (h : GoodTo l l.length) (hr : readOf l = f ++ [c]) :
    bytesOf l = if chk f ≠ c then ([], 0, 12) else if val (restOf 8 (bitsL 5 f)) ≠ 0 ∨ 5 ≤ (restOf 8 (bitsL 5 f)).length then ([], 0, 13) else (numsOf 8 (bitsL 5 f), 0, 0) := by
  have e1 : (f ++ [c]).length - 1 = f.length := by simp
  have e2 : (f ++ [c]).getD f.length 0 = c := by simp [List.getD_eq_getElem?_getD]
  unfold bytesOf
  rw [good_none h]
  simp only [hr]
  rw [if_neg (by simp), e1, List.take_append_of_le_length (Nat.le_refl _), List.take_length, e2]
/-- A sign is none just if it is read as -1. -/
theorem sgn_neg {r : Nat} (h : ¬ five r < 32) : sgn r = -1 := by unfold sgn; rw [if_neg h]
theorem sgn_pos {r : Nat} (h : five r < 32) : sgn r = five r := by unfold sgn; rw [if_pos h]
theorem five_high {r : Nat} (h : 128 ≤ r) : ¬ five r < 32 := by
  have e : alike (up r) = r := by rw [up_more (by omega), alike, if_neg (by omega), if_neg (by omega)]
  unfold five
  rw [e]
  refine five_none fun j hj => ?_
  have := (signs_lt j hj).2
  omega
/-- A row behind an iterator that is moved on. -/
theorem own_iterAt {w : World} {base n k : Nat} {t : TypeId} {size : Nat} {v : Value} {xs : List Value} (h : w.ownsRow base t size v n xs) (hk : k < base) (s : ByteArray) (pos : Nat) : (w.iterAt k s pos).ownsRow base t size v n xs :=
  h.kept (row := some k) ⟨rfl, rfl, rfl, by rw [Lib.iterAt_size]; exact Nat.le_refl _, fun i _ hi => Lib.iterAt_other w k i s pos (fun e => hi (by rw [e]))⟩ (.inr (fun e => by have := (h.lt k e).1; omega))
end Go.Proofs.Ytaanmikdhhdeiaa
