/-
  clean.Keep, clean.Dropped: what is kept, and the places of what is dropped; and the references that compare lists, for lists that are the same. No conditions but the reading of the lists.
-/
import Derived.Test.YtgaonfeljijebaaCleanS
namespace Go.Proofs.Ytgaonfeljijebaa
open Go.ChangeShapes Go.WideShapes Go.ChangeAt Go.RowKit
set_option linter.unusedVariables false

theorem same_self (A B : Option Addr) (n c n' c' : Nat) (l : List Run) (w : World) (h : Rd three 3 w A n l) (h' : Rd three 3 w B n' l) (hm : n ≤ 9223372036854775807) :
    Calls Try.prog 20 #[.slice A n c, .slice B n' c'] w fun e w' => e = .returned (.bool true) ∧ Below w.heap.size w w' := by
  have hn : n = n' := h.1.trans h'.1.symm
  subst hn
  go_enter Try.func20, Try.ntmps20
  go_wp2
  go_loopw [5] (fun i wr => ∃ k : Nat, k ≤ n ∧ i = .int .i64 k ∧ Below w.heap.size w wr) (fun i _ => n - (intOf i).toNat)
  case atStart => exact ⟨0, Nat.zero_le _, rfl, Below.refl _ _⟩
  case round =>
    obtain ⟨k, hk, rfl, hb⟩ := hrel
    have hR : Rd three 3 wr A n l := h.below hb (Nat.le_refl _)
    have hR' : Rd three 3 wr B n l := h'.below hb (Nat.le_refl _)
    by_cases hlt : k < n
    · obtain ⟨x, y, z, b, off, hA, hx, hc0, hc1, hc2⟩ := hR.at3 hlt
      obtain ⟨x', y', z', b', off', hB, hx', hc0', hc1', hc2'⟩ := hR'.at3 hlt
      obtain ⟨rfl, rfl, rfl⟩ : x = x' ∧ y = y' ∧ z = z' := by have := hx.out.symm.trans hx'.out; simpa using this
      subst hA hB
      go_wp2
      go_quiet (fail)
      go_wp2
      go_roundw
      case rel => exact ⟨k + 1, by omega, by go_num, below_dN hb _⟩
      case measure => simp [intOf]; omega
    · obtain rfl : k = n := by omega
      go_wp2
      go_ret
      exact ⟨rfl, hb⟩
theorem sameI_self (A B : Option Addr) (n c n' c' : Nat) (l : List Int) (w : World) (h : Rd one 1 w A n l) (h' : Rd one 1 w B n' l) (hm : n ≤ 9223372036854775807) :
    Calls Try.prog 21 #[.slice A n c, .slice B n' c'] w fun e w' => e = .returned (.bool true) ∧ Below w.heap.size w w' := by
  have hn : n = n' := h.1.trans h'.1.symm
  subst hn
  go_enter Try.func21, Try.ntmps21
  go_wp2
  go_loopw [5] (fun i wr => ∃ k : Nat, k ≤ n ∧ i = .int .i64 k ∧ Below w.heap.size w wr) (fun i _ => n - (intOf i).toNat)
  case atStart => exact ⟨0, Nat.zero_le _, rfl, Below.refl _ _⟩
  case round =>
    obtain ⟨k, hk, rfl, hb⟩ := hrel
    have hR : Rd one 1 wr A n l := h.below hb (Nat.le_refl _)
    have hR' : Rd one 1 wr B n l := h'.below hb (Nat.le_refl _)
    by_cases hlt : k < n
    · obtain ⟨x, b, off, hA, hx, hc0⟩ := hR.at1 hlt
      obtain ⟨x', b', off', hB, hx', hc0'⟩ := hR'.at1 hlt
      obtain rfl : x = x' := by have := hx.out.symm.trans hx'.out; simpa using this
      subst hA hB
      go_wp2
      go_quiet (fail)
      go_wp2
      go_roundw
      case rel => exact ⟨k + 1, by omega, by go_num, below_dN hb _⟩
      case measure => simp [intOf]; omega
    · obtain rfl : k = n := by omega
      go_wp2
      go_ret
      exact ⟨rfl, hb⟩

/-- A call hands back a list of samples, and an error. -/
def GivesS (ls : List Run) (er : Int) (w : World) (e : Ending) (w' : World) : Prop :=
  ∃ A N c, e = .returned (.tuple #[.slice A N c, .int .i64 er]) ∧ Rd three 3 w' A N ls ∧ Below w.heap.size w w'
/-- A call hands back a list of ints, and an error. -/
def GivesE (ls : List Int) (er : Int) (w : World) (e : Ending) (w' : World) : Prop :=
  ∃ A N c, e = .returned (.tuple #[.slice A N c, .int .i64 er]) ∧ Rd one 1 w' A N ls ∧ Below w.heap.size w w'
def cells3 (rs : List Run) : List Value := (rs.flatMap three).map (Value.int .i64)
theorem cells3_snoc (rs : List Run) (x y z : Int) : cells3 (rs ++ [(x, y, z)]) = cells3 rs ++ [.int .i64 x, .int .i64 y, .int .i64 z] := by simp [cells3, three]
/-- The samples at some places. -/
def pick (l : List Run) (K : List Nat) : List Run := K.map (fun j => l.getD j (0, 0, 0))
theorem pick_snoc {l : List Run} {K : List Nat} {j : Nat} {a : Run} (h : l[j]? = some a) : pick l (K ++ [j]) = pick l K ++ [a] := by simp [pick, h]
theorem take_more {K : List Nat} {k j : Nat} (h : K[k]? = some j) : K.take (k + 1) = K.take k ++ [j] := by rw [List.take_add_one, h]; rfl
theorem keptK (s g : Int) (l : List Run) : ∃ K : List Nat, keptI s g l = K.map (fun (j : Nat) => (j : Int)) ∧ keptL s g l = pick l K ∧ (∀ j ∈ K, j < l.length) ∧ K.length ≤ 2048 := by
  by_cases h : errK s g l = 0
  · refine ⟨(kd s g l l.length).1, by rw [keptI, if_pos h], by rw [keptL, if_pos h]; rfl, (kd_lt s g l l.length).1, ?_⟩
    have h1 := (kd_lt s g l l.length).2.2
    have h2 : l.length ≤ 2048 := by
      unfold errK at h
      split at h
      · simp at h
      · split at h
        · simp at h
        · omega
    omega
  · exact ⟨[], by rw [keptI, if_neg h]; rfl, by rw [keptL, if_neg h]; rfl, by simp, by simp⟩
theorem rd3 {w : World} {base : Nat} {v : Value} {n : Nat} {rs : List Run} (h : w.ownsRow base 46 3 v n (cells3 rs)) : ∃ A c, v = .slice A n c ∧ Rd three 3 w A n rs := by
  rcases h.2 with ⟨rfl, rfl⟩ | ⟨g, cap, cur, rfl, _⟩
  · have hz : rs = [] := by
      have h1 := h.1
      rw [cells3, List.length_map, flat_len rs (F := 3) (fun _ _ => rfl)] at h1
      exact List.eq_nil_of_length_eq_zero (by omega)
    subst hz
    exact ⟨none, 0, rfl, Rd.nil _ _ _ _⟩
  · exact ⟨_, _, rfl, Rd.own (enc := three) (F := 3) h (fun _ _ => rfl) (by omega)⟩
theorem Try.info46 : (Try.prog.info? 46).map (fun i => (i.zero, i.size, i.bytes)) = some (some (.agg #[.int .i64 0, .int .i64 0, .int .i64 0]), 3, 24) := by kernel_rfl

set_option maxHeartbeats 1000000 in
theorem goDropped (s g : Int) (A : Option Addr) (n c : Nat) (l : List Run) (w : World) (h : Rd three 3 w A n l) (hm : n ≤ 9223372036854775807) :
    Calls Try.prog 16 #[.agg #[.int .i64 s, .int .i64 g], .slice A n c] w (GivesE (dropI s g l) (errK s g l) w) := by
  go_enter Try.func16, Try.ntmps16
  go_wp2_with (go_at_call 49; refine (goSort s g A n c l _ (h.alloc _) hm).mono ?_; rintro e w' ⟨A1, N1, c1, A2, N2, c2, rfl, r1, r2, hb⟩)
  go_ret2
  exact ⟨_, _, _, rfl, r2, ((Below.refl _ _).alloc (Nat.le_refl _) _).trans (hb.mono (by simp))⟩

set_option maxRecDepth 100000 in
set_option maxHeartbeats 1000000 in
theorem goKeep (s g : Int) (A : Option Addr) (n c : Nat) (l : List Run) (w : World) (h : Rd three 3 w A n l) (hm : n ≤ 9223372036854775807) :
    Calls Try.prog 15 #[.agg #[.int .i64 s, .int .i64 g], .slice A n c] w (GivesS (keptL s g l) (errK s g l) w) := by
  obtain ⟨i0, hi, hz0, hz1, hz2⟩ := info_parts Try.info46
  obtain ⟨K, hK1, hK2, hK3, hK4⟩ := keptK s g l
  have HK2 := Lib.hid hK2
  clear hK2
  go_enter Try.func15, Try.ntmps15
  go_wp2_with (go_at_call 49; refine (goSort s g A n c l _ (h.alloc _) hm).mono ?_; rintro e W ⟨A1, N1, c1, A2, N2, c2, rfl, r1, _, hbW⟩; rw [hK1] at r1)
  have hbw : Below w.heap.size w W := ((Below.refl _ _).alloc (Nat.le_refl _) _).trans (hbW.mono (by simp))
  have hR : Rd three 3 W A n l := h.below hbw (Nat.le_refl _)
  have HN : Hid (N1 = K.length) := by have := r1.1; show _ = _; simpa using this
  have hN1 : N1 ≤ 2048 := by rw [HN.out]; exact hK4
  clear hbW h
  go_loopw [21, 9] (fun i v wr => ∃ k : Nat, k ≤ N1 ∧ i = .int .i64 k ∧ Hid (wr.ownsRow W.heap.size 46 3 v k (cells3 (pick l (K.take k)))) ∧ Below W.heap.size W wr) (fun i _ _ => N1 - (intOf i).toNat)
  case atStart => exact ⟨0, Nat.zero_le _, rfl, World.ownsRow_nil _ _ _ _, Below.refl _ _⟩
  case round =>
    obtain ⟨k, hk, rfl, hO, hb⟩ := hrel
    have hsz := hb.size
    by_cases hlt : k < N1
    · obtain ⟨q, b1, off1, hA1, hq, hq0⟩ := (r1.below hb (Nat.le_refl _)).at1 hlt
      subst hA1
      obtain ⟨j, hj, hjq⟩ : ∃ j, K[k]? = some j ∧ (j : Int) = q := by
        have := hq.out
        rw [List.getElem?_map] at this
        simpa using this
      subst hjq
      have hjn : j < n := by rw [hR.1]; exact hK3 j (mem_of_at hj)
      obtain ⟨x, y, z, b, off, hA, hx, hd0, hd1, hd2⟩ := (hR.below hb (Nat.le_refl _)).at3 hjn
      subst hA
      have hj0 : (0 : Int) ≤ j := by omega
      have hjn' : (j : Int) < n := by omega
      have EX : Hid (∀ (v' : Value) (w1 : World), w1.ownsRow W.heap.size 46 3 v' (k + 1) (cells3 (pick l (K.take k)) ++ [.int .i64 x, .int .i64 y, .int .i64 z]) → w1.ownsRow W.heap.size 46 3 v' (k + 1) (cells3 (pick l (K.take (k + 1))))) := fun v' w1 h => by
        rw [take_more hj, pick_snoc hx.out, cells3_snoc]; exact h
      go_wp2_with (at_builtin; refine wpList_append_own _ rfl _ _ 33 rfl W.heap.size 46 i0 _ 3 24 Try.underlying33 hi hz0 hz1 hz2 rfl (by omega) _ _ _ rfl (hO.out.alloc _) ⟨wr.heap.size, 0, none⟩ 1 1 [.int .i64 x, .int .i64 y, .int .i64 z] rfl rfl (World.news_of_block (cs := #[.int .i64 x, .int .i64 y, .int .i64 z]) (t := 46) (fr := (0, 0)) (heap_alloc_new wr _)) (by simp [Value.oneCell']) (by unfold maxLen; omega) (by omega) (by simp; omega) ?_; intro v' w1 hown' hgrow _; have HO := Lib.hid (EX.out _ _ hown'); have hb2 := (hb.alloc hsz _).grown hgrow (by simp; omega) (fun j hj => (hO.out.lt j hj).1); clear hown' hgrow)
      go_roundw
      case rel => exact ⟨k + 1, by omega, by go_num, HO.out, hb2⟩
      case measure => simp [intOf]; omega
    · have hkn : k = N1 := by omega
      go_wp2_with fail
      go_ret2
      obtain ⟨A3, c3, rfl, r3⟩ := rd3 hO.out
      refine ⟨_, _, _, rfl, ?_, hbw.trans (hb.mono hbw.size)⟩
      rw [HK2.out]
      rw [hkn, HN.out, List.take_length] at r3
      rw [hkn, HN.out]
      exact r3
end Go.Proofs.Ytgaonfeljijebaa
