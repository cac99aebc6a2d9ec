/-
  segment.Legs, out of slices.Collect and the iterator of legs. Conditions: the runs' reading.
-/
import Derived.Test.YtceohmbjajhlcaaSegL
import Derived.Test.YtceohmbjajhlcaaOwn
namespace Go.Proofs.Ytceohmbjajhlcaa
open Go.ChangeShapes Go.WideShapes Go.ChangeAt Go.RowKit Go.Shelf
set_option linter.unusedVariables false

def cellsL (rs : List Leg) : List Value := (rs.flatMap four).map (Value.int .i64)
theorem cellsL_snoc (o : List Leg) (r : Leg) : cellsL (o ++ [r]) = cellsL o ++ [.int .i64 r.1, .int .i64 r.2.1, .int .i64 r.2.2.1, .int .i64 r.2.2.2] := by simp [cellsL, four]
theorem Try.info64 : (Try.prog.info? 64).map (fun i => (i.zero, i.size, i.bytes)) = some (some (.agg #[.int .i64 0, .int .i64 0, .int .i64 0, .int .i64 0]), 4, 32) := by kernel_rfl
theorem rd_cellsL {w : World} {base : Nat} {A : Option Addr} {N c : Nat} {rs : List Leg} (h : w.ownsRow base 64 4 (.slice A N c) N (cellsL rs)) : Rd four 4 w A N rs := Rd.own h (fun r _ => rfl) (by omega)
theorem own_step {O : Nat → Prop} {w w' : World} {base n : Nat} {t : TypeId} {size : Nat} {v : Value} {xs : List Value} (h : w.ownsRow base t size v n xs) (hs : Step O w w') (ho : ∀ k, O k → k < base) : w'.ownsRow base t size v n xs := by
  refine ⟨h.1, ?_⟩
  rcases h.2 with h' | ⟨g, cap, cur, hv, hg, hc, rest⟩
  · exact .inl h'
  · exact .inr ⟨g, cap, cur, hv, hg, (hs.block g (Array.getElem?_eq_some_iff.1 hc).1 (fun h => by have := ho g h; omega)).trans hc, rest⟩
theorem goLegsV (A : Option Addr) (n c : Nat) (least : Int) (w : World) : Calls Try.prog 39 #[.slice A n c, .int .i64 least] w fun e w' => e = .returned (.func (.func 47) #[] #[.pointer (some ⟨w.heap.size, 0, none⟩), .pointer (some ⟨w.heap.size + 1, 0, none⟩)]) ∧ w' = (w.alloc (.cells #[.slice A n c] 25)).alloc (.cells #[.int .i64 least] 3) := by
  go_enter Try.func39, Try.ntmps39
  go_wp2
  go_ret
  exact ⟨rfl, rfl⟩
/-- What stands between two rounds of AppendSeq's loop. -/
def AppI (w : World) (sb base : Nat) (pre : List Leg) (W : World) : Prop :=
  ∃ v, Bk W sb 33 #[v] ∧ W.ownsRow base 64 4 v pre.length (cellsL pre) ∧ Below w.heap.size w W
theorem AppI.step {w a b : World} {sb base : Nat} {pre : List Leg} {O : Nat → Prop} (h : AppI w sb base pre a) (hs : Step O a b) (h1 : ¬ O sb) (h2 : ∀ k, O k → w.heap.size ≤ k ∧ k < base) : AppI w sb base pre b := by
  obtain ⟨v, h3, h4, h5⟩ := h
  exact ⟨v, h3.step hs h1, own_step h4 hs (fun k hk => (h2 k hk).2), hs.below (n := w.heap.size) h5 h5.size (fun k hk => (h2 k hk).1)⟩

set_option maxRecDepth 100000 in
set_option maxHeartbeats 4000000 in
theorem goApp (A : Option Addr) (n c : Nat) (l : List Run) (least : Int) (w wA : World) (lb lq : Nat) (hl : Rd three 3 w A n l) (ht : Timed l) (hn : n ≤ 100) (hnc : n ≤ c) (hcm : c ≤ maxLen) (hf : Fits least) (hb : Below w.heap.size w wA) (hlb : Bk wA lb 25 #[.slice A n c]) (hlq : Bk wA lq 3 #[.int .i64 least]) (hle : w.heap.size ≤ lb) (hle2 : w.heap.size ≤ lq) (hne : lb ≠ lq) :
    Calls Try.prog 46 #[.slice none 0 0, .func (.func 47) #[] #[.pointer (some ⟨lb, 0, none⟩), .pointer (some ⟨lq, 0, none⟩)]] wA fun e w' => ∃ A' N c', e = .returned (.slice A' N c') ∧ Rd four 4 w' A' N (legsOf l least) ∧ Below w.heap.size w w' := by
  have HL := Lib.hid hl
  have HT := Lib.hid ht
  have HB := Lib.hid hb
  have HLB := Lib.hid hlb
  have HLQ := Lib.hid hlq
  have z0 := hb.size
  have lbl := hlb.lt
  have lql := hlq.lt
  clear hl ht hb hlb hlq
  obtain ⟨i0, hi, hz0, hz1, hz2⟩ := info_parts Try.info64
  refine (callsIn_wide (n := 3)).1 (callsIn_of_wp_marks Try.func46 rfl trivial ?_ rfl)
  simp only [Try.ntmps46, List.size_toArray, List.length_cons, List.length_nil, Nat.reduceAdd, Nat.reduceSub, Array.replicate_succ, Array.replicate_zero, List.push_toArray, List.append_toArray, List.nil_append, List.cons_append]
  gi_wp2_with fail
  obtain ⟨W3, hW3⟩ : ∃ W3, wA.alloc (.cells #[.slice none 0 0] 33) = W3 := ⟨_, rfl⟩
  have s3 : W3.heap.size = wA.heap.size + 1 := by rw [← hW3]; simp
  have B1 : Hid (Bk W3 wA.heap.size 33 #[.slice none 0 0]) := by show Bk _ _ _ _; rw [← hW3]; exact Bk.new _ _ _
  have B2 : Hid (Bk W3 lb 25 #[.slice A n c]) := by show Bk _ _ _ _; rw [← hW3]; exact HLB.out.alloc _
  have B3 : Hid (Bk W3 lq 3 #[.int .i64 least]) := by show Bk _ _ _ _; rw [← hW3]; exact HLQ.out.alloc _
  have B4 : Hid (Below w.heap.size w W3) := by show Below _ _ _; rw [← hW3]; exact HB.out.alloc z0 _
  rw [hW3]
  clear hW3
  have hO : ∀ k, (k = lb ∨ k = W3.heap.size ∨ k = W3.heap.size + 1) → w.heap.size ≤ k ∧ k < W3.heap.size + 2 := fun k hk => by omega
  refine wpIn_rangeFunc_cells (gf := 47) (lb := #[.pointer (some ⟨lb, 0, none⟩), .pointer (some ⟨lq, 0, none⟩)]) rfl (enters_of Try.func47 (by kernel_rfl) rfl)
    (legs_cells A n c l least w W3 lb lq HL.out HT.out hn hnc hcm hf B4.out B2.out B3.out hle hle2 hne) (Below.refl _ _) (fun _ => rfl) (fun k hk => by omega) (fun k hk => by omega)
    (AppI w wA.heap.size (W3.heap.size + 2)) (fun _ _ _ => False) (fun pre a b hi hs => hi.step hs (by omega) hO) (fun c pre a b hi hs => hi)
    ⟨.slice none 0 0, B1.out, World.ownsRow_nil _ _ _ _, B4.out⟩ ?a1 ?w1 ?step ?assign ?body ?done ?stop
  case assign =>
    intro y x W K hK
    simp only [encL]
    gi_wp2_with (rw [Oper.semAt_eq _ _ _ (fun c h => by cases h)]; go_simp; try go_bits)
    exact hK
  case step => exact fun x W => (Step.refl _ _).alloc _
  case body =>
    rintro y pre ⟨x0, x1, x2, x3⟩ W0 W W' ⟨m, p, hst, hmp, hp, hex⟩ hi hz0' hz1' hz2' hb hi0 hst0
    clear hi hex
    obtain ⟨v, b1, b2, b3⟩ := hi0
    have z4 := b1.lt
    have PL : pre.length ≤ 100 := by
      have h1 := st_len (l := l) (least := least) m
      rw [hst] at h1
      have := HL.out.1
      dsimp only at h1
      omega
    have RLt : ∀ g, v.ownBlock = some g → W3.heap.size + 2 ≤ g ∧ g < W0.heap.size := fun g hg => b2.lt g hg
    have HRL := Lib.hid RLt
    have J1 : Hid (Bk W' wA.heap.size 33 #[v]) := b1.step hst0 (by omega)
    have J2 : Hid (W'.ownsRow (W3.heap.size + 2) 64 4 v pre.length (cellsL pre)) := own_step b2 hst0 (fun k hk => (hO k hk).2)
    have J3 : Hid (Below w.heap.size w W') := hst0.below (n := w.heap.size) b3 b3.size (fun k hk => (hO k hk).1)
    have z5 := hst0.size
    have BR : Hid (Bk W' W.heap.size 64 #[.int .i64 x0, .int .i64 x1, .int .i64 x2, .int .i64 x3]) := by
      have h1 := Bk.new W 64 #[.int .i64 x0, .int .i64 x1, .int .i64 x2, .int .i64 x3]
      exact (hb _ h1.lt (by omega)).trans h1
    clear hst hb b1 b2 b3 hst0 RLt
    obtain ⟨Av, cv, rfl⟩ := own_any J2.out
    have c0 := J1.out.cell 0
    have f0 := J1.out.free 0
    have c1 := BR.out.cell 0
    have c2 := BR.out.cell 1
    have c3 := BR.out.cell 2
    have c4 := BR.out.cell 3
    gi_wp2_with (first
      | (gi_at_builtin; refine wpListIn_append_own _ rfl _ _ 33 rfl (W3.heap.size + 2) 64 i0 _ 4 32 Try.underlying33 hi hz0 hz1 hz2 rfl (by omega) _ _ _ rfl (J2.out.alloc _) ⟨W'.heap.size, 0, none⟩ 1 1 [.int .i64 x0, .int .i64 x1, .int .i64 x2, .int .i64 x3] rfl rfl (World.news_of_block (cs := #[.int .i64 x0, .int .i64 x1, .int .i64 x2, .int .i64 x3]) (t := 64) (fr := (0, 0)) (heap_alloc_new W' _)) (by simp [Value.oneCell']) (by unfold maxLen; omega) (by omega) (by simp; omega) ?_; intro v' w1 hown' hgrow _; obtain ⟨g', cp', rfl⟩ := own_form hown' (by omega); have HO := Lib.hid hown'; have HG := Lib.hid hgrow; have d0 := (J1.out.alloc (.cells #[.int .i64 x0, .int .i64 x1, .int .i64 x2, .int .i64 x3] 64)).grown hgrow (fun e => by have := (HRL.out _ e.symm).1; omega); have d1 := Bk.cell d0 0; have d2 := Bk.free d0 0; have HD := Lib.hid d0; clear hown' hgrow d0)
      | (rw [Oper.semAt_eq _ _ _ (fun c h => by cases h)]; go_simp; try go_bits))
    have s3' := s3
    refine ⟨(((Keeps.refl _ _ _).alloc _).grown HG.out (fun r hr => .inl ?_)).set (p := ⟨_, 0, none⟩) z4 (fun hh => ?_) _, _, HD.out.put 0 _, ?_, ?_⟩
    · have := HRL.out r hr
      exact ⟨this.2, fun hh => by omega⟩
    · have hh' : (wA.heap.size = lb ∨ wA.heap.size = wA.heap.size + 1 ∨ wA.heap.size = wA.heap.size + 1 + 1) ∨ wA.heap.size < w.heap.size ∨ wA.heap.size = lq := hh
      omega
    · rw [List.length_append, cellsL_snoc]
      have h1 := own_step HO.out ((Step.refl (fun k => k = wA.heap.size) w1).set (p := ⟨wA.heap.size, 0, none⟩) rfl (.slice (some ⟨g', 0, none⟩) (pre.length + 1) cp')) (fun k hk => by omega)
      rw [s3] at h1
      exact h1
    · exact ((J3.out.alloc J3.out.size _).grown HG.out (by have := J3.out.size; simp; omega) (fun r hr => by have := (HRL.out r hr).1; omega)).setCell (p := ⟨wA.heap.size, 0, none⟩) z0 _
  case done =>
    rintro xs W rfl ⟨v, b1, b2, b3⟩ hd
    obtain ⟨Av, cv, rfl⟩ := own_any b2
    have c1 := b1.cell 0
    gi_wp2_with fail
    have hd' := hd
    rw [s3] at hd'
    have hbb : ∀ (D : Nat), w.heap.size ≤ D → Below w.heap.size w (W.putObj D (.deferred none)) := fun D hD =>
      Step.below (n := w.heap.size) b3 ((Step.refl (fun k => k = D) W).put rfl _) b3.size (fun k hk => by omega)
    have hrr : ∀ (D : Nat), D < W3.heap.size + 2 → Rd four 4 (W.putObj D (.deferred none)) Av (legsOf l least).length (legsOf l least) := fun D hD =>
      rd_cellsL (own_step b2 ((Step.refl (fun k => k = D) W).put rfl _) (fun k hk => by omega))
    refine ⟨by simp, .inl ?_⟩
    first
      | (refine ⟨_, _, rfl, run_takeDeferred hd, ?_⟩; refine ⟨.slice Av (legsOf l least).length cv, ?_, _, _, _, rfl, hrr _ (by omega), hbb _ (by omega)⟩; simp [results, Try.f46, go_sem])
      | (refine ⟨_, _, rfl, run_takeDeferred hd', ?_⟩; refine ⟨.slice Av (legsOf l least).length cv, ?_, _, _, _, rfl, hrr _ (by omega), hbb _ (by omega)⟩; simp [results, Try.f46, go_sem])
  case stop =>
    rintro c pre W _ h
    exact h.elim

theorem goCollect (A : Option Addr) (n c : Nat) (l : List Run) (least : Int) (w wA : World) (lb lq : Nat) (hl : Rd three 3 w A n l) (ht : Timed l) (hn : n ≤ 100) (hnc : n ≤ c) (hcm : c ≤ maxLen) (hf : Fits least) (hb : Below w.heap.size w wA) (hlb : Bk wA lb 25 #[.slice A n c]) (hlq : Bk wA lq 3 #[.int .i64 least]) (hle : w.heap.size ≤ lb) (hle2 : w.heap.size ≤ lq) (hne : lb ≠ lq) :
    Calls Try.prog 38 #[.func (.func 47) #[] #[.pointer (some ⟨lb, 0, none⟩), .pointer (some ⟨lq, 0, none⟩)]] wA fun e w' => ∃ A' N c', e = .returned (.slice A' N c') ∧ Rd four 4 w' A' N (legsOf l least) ∧ Below w.heap.size w w' := by
  have HA := Lib.hid (goApp A n c l least w wA lb lq hl ht hn hnc hcm hf hb hlb hlq hle hle2 hne)
  clear hl ht hb hlb hlq
  go_enter Try.func38, Try.ntmps38
  go_wp2_with fail
  refine HA.out.mono ?_
  rintro e w' ⟨A', N, c', rfl, hr, hb⟩
  have HR := Lib.hid hr
  have HB := Lib.hid hb
  clear HA hr hb
  go_wp2_with fail
  go_ret
  exact ⟨_, _, _, rfl, HR.out, HB.out⟩
/-- A call hands back these legs, and an error. -/
def GivesL (rs : List Leg) (er : Int) (w : World) (e : Ending) (w' : World) : Prop :=
  ∃ A N c, e = .returned (.tuple #[.slice A N c, .int .i64 er]) ∧ Rd four 4 w' A N rs ∧ Below w.heap.size w w'
theorem goLegs_yes (A : Option Addr) (n c : Nat) (l : List Run) (least : Int) (w : World) (hl : Rd three 3 w A n l) (hr : rightR l = true) (hn : n ≤ 100) (hnc : n ≤ c) (hcm : c ≤ maxLen) (hf : Fits least) (h0 : 0 ≤ least) :
    Calls Try.prog 15 #[.slice A n c, .int .i64 least] w (GivesL (legsOf l least) 0 w) := by
  have HL := Lib.hid hl
  have HR := Lib.hid hr
  have HC := Lib.hid hcm
  clear hl hr hcm
  go_enter Try.func15, Try.ntmps15
  go_wp2_with fail
  refine (goRightR A n c l _ HL.out (by omega)).mono ?_
  rintro e w1 ⟨rfl, hb1⟩
  rw [HR.out]
  have HB1 := Lib.hid hb1
  clear hb1
  go_wp2_with fail
  refine (goLegsV A n c least _).mono ?_
  rintro e w2 ⟨rfl, hw2⟩
  have z1 := HB1.out.size
  have HB2 : Hid (Below w.heap.size w w2) := by show Below _ _ _; rw [hw2]; exact (HB1.out.alloc z1 _).alloc (by simp; omega) _
  have BL : Hid (Bk w2 w1.heap.size 25 #[.slice A n c]) := by show Bk _ _ _ _; rw [hw2]; exact (Bk.new _ _ _).alloc _
  have BQ : Hid (Bk w2 (w1.heap.size + 1) 3 #[.int .i64 least]) := by
    show Bk _ _ _ _
    rw [hw2]
    have h1 := Bk.new (w1.alloc (.cells #[.slice A n c] 25)) 3 #[.int .i64 least]
    rwa [World.size_alloc] at h1
  clear hw2
  go_wp2_with fail
  refine (goCollect A n c l least w _ _ _ HL.out (right_timed HR.out) hn hnc HC.out hf HB2.out BL.out BQ.out z1 (by omega) (by omega)).mono ?_
  rintro e w3 ⟨A', N, c', rfl, hr3, hb3⟩
  have R3 := Lib.hid hr3
  have HB3 := Lib.hid hb3
  clear hr3 hb3
  go_wp2_with fail
  go_ret2
  exact ⟨_, _, _, rfl, R3.out, HB3.out⟩
theorem goLegs_no (A : Option Addr) (n c : Nat) (l : List Run) (least : Int) (w : World) (hl : Rd three 3 w A n l) (hn : n ≤ 100) (hf : Fits least) (hno : rightR l = false ∨ least < 0) :
    Calls Try.prog 15 #[.slice A n c, .int .i64 least] w (GivesL [] 2 w) := by
  have HL := Lib.hid hl
  clear hl
  rcases hr : rightR l with _ | _
  · have HR := Lib.hid hr
    clear hr hno
    go_enter Try.func15, Try.ntmps15
    go_wp2_with fail
    refine (goRightR A n c l _ HL.out (by omega)).mono ?_
    rintro e w1 ⟨rfl, hb1⟩
    rw [HR.out]
    have HB1 := Lib.hid hb1
    clear hb1
    go_wp2_with fail
    go_ret2
    exact ⟨_, _, _, rfl, Rd.nil _ _ _ _, HB1.out⟩
  · have HR := Lib.hid hr
    have hno' : least < 0 := by
      rcases hno with h | h
      · rw [hr] at h; cases h
      · exact h
    clear hr hno
    go_enter Try.func15, Try.ntmps15
    go_wp2_with fail
    refine (goRightR A n c l _ HL.out (by omega)).mono ?_
    rintro e w1 ⟨rfl, hb1⟩
    rw [HR.out]
    have HB1 := Lib.hid hb1
    clear hb1
    go_wp2_with fail
    go_ret2
    exact ⟨_, _, _, rfl, Rd.nil _ _ _ _, HB1.out⟩
end Go.Proofs.Ytceohmbjajhlcaa
