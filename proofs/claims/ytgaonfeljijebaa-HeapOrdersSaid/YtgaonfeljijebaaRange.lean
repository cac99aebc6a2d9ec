/-
  A range over a function that keeps cells of its own between the rounds (an iterator written by hand): the statement's law, with the blocks that the iterator turns named (O). Said of no program. No conditions.
-/
import Derived.Test.YtgaonfeljijebaaBase
import Derived.RangeFuncRecord
import Derived.RangeFuncSeq
import Derived.RangeFuncOwn
import Derived.Shelf.Abstract
namespace Go.Proofs.Ytgaonfeljijebaa
open Go.ChangeShapes Go.WideShapes Go.ChangeAt Go.RowKit Go.Shelf
set_option linter.unusedVariables false

/-- All that was there is as it was, but for the blocks of O. -/
structure Step (O : Nat → Prop) (w w' : World) : Prop where
  os : w'.os = w.os
  tape : w'.tape = w.tape
  output : w'.output = w.output
  size : w.heap.size ≤ w'.heap.size
  block : ∀ k, k < w.heap.size → ¬ O k → w'.heap[k]? = w.heap[k]?
/-- The blocks from m on, and those of O, are as they were. -/
structure Keeps (O : Nat → Prop) (m : Nat) (w w' : World) : Prop where
  os : w'.os = w.os
  tape : w'.tape = w.tape
  output : w'.output = w.output
  size : w.heap.size ≤ w'.heap.size
  block : ∀ k, k < w.heap.size → (m ≤ k ∨ O k) → w'.heap[k]? = w.heap[k]?
section
variable {O O' : Nat → Prop} {m : Nat} {a b c : World}
theorem Step.refl (O : Nat → Prop) (w : World) : Step O w w := ⟨rfl, rfl, rfl, Nat.le_refl _, fun _ _ _ => rfl⟩
theorem Step.trans (h : Step O a b) (h' : Step O b c) : Step O a c :=
  ⟨h'.os.trans h.os, h'.tape.trans h.tape, h'.output.trans h.output, Nat.le_trans h.size h'.size, fun k hk hn => (h'.block k (Nat.lt_of_lt_of_le hk h.size) hn).trans (h.block k hk hn)⟩
theorem Step.wider (h : Step O a b) (ho : ∀ k, O k → O' k) : Step O' a b := ⟨h.os, h.tape, h.output, h.size, fun k hk hn => h.block k hk (fun h => hn (ho k h))⟩
theorem Step.alloc (h : Step O a b) (o : Obj) : Step O a (b.alloc o) :=
  h.trans ⟨rfl, rfl, rfl, by simp, fun k hk _ => Below.heap_alloc b o k hk⟩
theorem Step.set (h : Step O a b) {p : Addr} (hp : O p.block) (v : Value) : Step O a (b.setCell p v) :=
  h.trans ⟨rfl, rfl, rfl, by simp [World.setCell], fun k _ hn => Below.heap_setCell b p v k (fun e => hn (e ▸ hp))⟩
theorem Step.put (h : Step O a b) {r : Nat} (hr : O r) (o : Obj) : Step O a (b.putObj r o) :=
  h.trans ⟨rfl, rfl, rfl, by simp, fun k _ hn => World.putObj_heap_other (fun e => hn (e ▸ hr))⟩
theorem Step.of_below {n : Nat} (h : Below b.heap.size b c) (ha : Step O a b) : Step O a c :=
  ha.trans ⟨h.os, h.tape, h.output, h.size, fun k hk _ => h.block k hk⟩
theorem Step.below {n : Nat} {w : World} (h : Below n w a) (hs : Step O a b) (hn : n ≤ a.heap.size) (ho : ∀ k, O k → n ≤ k) : Below n w b :=
  h.trans ⟨hs.os, hs.tape, hs.output, hs.size, fun k hk => hs.block k (Nat.lt_of_lt_of_le hk hn) (fun h => by have := ho k h; omega)⟩
theorem Keeps.refl (O : Nat → Prop) (m : Nat) (w : World) : Keeps O m w w := ⟨rfl, rfl, rfl, Nat.le_refl _, fun _ _ _ => rfl⟩
theorem Keeps.alloc (h : Keeps O m a b) (o : Obj) : Keeps O m a (b.alloc o) :=
  ⟨h.os, h.tape, h.output, Nat.le_trans h.size (by simp), fun k hk hn => (Below.heap_alloc b o k (Nat.lt_of_lt_of_le hk h.size)).trans (h.block k hk hn)⟩
theorem Keeps.set (h : Keeps O m a b) {p : Addr} (hp : p.block < m) (ho : ¬ O p.block) (v : Value) : Keeps O m a (b.setCell p v) :=
  ⟨h.os, h.tape, h.output, Nat.le_trans h.size (by simp [World.setCell]), fun k hk hn => (Below.heap_setCell b p v k (fun e => by
    rcases hn with hn | hn
    · omega
    · exact ho (e ▸ hn))).trans (h.block k hk hn)⟩
theorem Keeps.grown {row : Option Nat} (h : Keeps O m a b) (hg : b.grownBy c row) (hr : ∀ r, row = some r → (r < m ∧ ¬ O r) ∨ a.heap.size ≤ r) : Keeps O m a c :=
  ⟨hg.os.trans h.os, hg.tape.trans h.tape, hg.output.trans h.output, Nat.le_trans h.size hg.size, fun k hk hn => (hg.block k (Nat.lt_of_lt_of_le hk h.size) (fun e => by
    rcases hr k e.symm with ⟨h1, h2⟩ | h1
    · rcases hn with hn | hn
      · omega
      · exact h2 hn
    · omega)).trans (h.block k hk hn)⟩
end

/-- What an iterator value promises that turns the blocks of O alone: it gives its elements, one after the other, until a round says no more. -/
def SeqCells {α : Type} (P : Program) (g : Nat) (lb : Array Value) (encs : α → Array Value) (E : List α → α → Prop) (S Sp : List α → Prop) (O : Nat → Nat → Prop) (R : Nat → Prop) (w : World) : Prop :=
  ∀ (n l : Nat) (J Jx : List α → World → Prop) (W : World), Below w.heap.size w W → w.heap.size ≤ W.heap.size →
    (∀ pre W0 W1, J pre W0 → Step (O W.heap.size) W0 W1 → J pre W1) → (∀ pre W0 W1, Jx pre W0 → Step (O W.heap.size) W0 W1 → Jx pre W1) →
    (∀ pre x W0 W1, E pre x → J pre W0 → W.heap.size ≤ W0.heap.size → Step (O W.heap.size) W0 W1 → YieldAt Fence.wide n P l (encs x) W1 fun e W' =>
      (e = .returned (.bool true) ∧ J (pre ++ [x]) W' ∧ Keeps (fun k => O W.heap.size k ∨ R k) W0.heap.size W1 W') ∨ (e = .returned (.bool false) ∧ Jx (pre ++ [x]) W')) →
    J [] W →
    CallsIn Fence.wide (n + 1) P g (#[.func (.yield l) #[] #[]] ++ lb) W fun e W' => (∃ v, e = .returned v) ∧ ((∃ xs, S xs ∧ J xs W') ∨ (∃ pre, Sp pre ∧ Jx pre W'))

/-- How the body of a round may be left. -/
def outPost {α : Type} (O : Nat → Prop) (m : Nat) (I : List α → World → Prop) (Ix : Code → List α → World → Prop) (xs : List α) (W : World) : Exit → Act → World → Prop
  | .normal, _, W' => Keeps O m W W' ∧ I xs W'
  | .ret, _, W' => Keeps O m W W' ∧ Ix .ret xs W'
  | .exit id, _, W' => Keeps O m W W' ∧ Ix (.exit id) xs W'
  | .goto t, _, W' => Keeps O m W W' ∧ Ix (.goto t) xs W'
  | .panic _, _, _ => False
  | .outgrown, _, _ => False

/-- The statement's law. -/
theorem wpIn_rangeFunc_cells {α : Type} {P : Program} {n : Nat} {g : Operand} {ps : Array Tmp} {assign body : Code} {Q : Exit → Act → World → Prop} {a : Act} {w : World}
    {gf : Nat} {lb : Array Value} (hg : a.eval g = .func (.func gf) #[] lb) (eg : ∀ args w, (callFunc gf args).run P w = .ok (.enter gf args) w)
    {encs : α → Array Value} {E : List α → α → Prop} {S Sp : List α → Prop} {O : Nat → Nat → Prop} {R : Nat → Prop} {w0 : World} (hseq : SeqCells P gf lb encs E S Sp O R w0) (hb0 : Below w0.heap.size w0 w) (hps : ∀ x, (encs x).size = ps.size)
    (hO : ∀ k, O (w.heap.size + 2) k → k ≠ w.heap.size ∧ k ≠ w.heap.size + 1) (hR : ∀ k, R k → k < w.heap.size)
    (I : List α → World → Prop) (Ix : Code → List α → World → Prop)
    (hI : ∀ pre W0 W1, I pre W0 → Step (fun k => O (w.heap.size + 2) k ∨ k = w.heap.size ∨ k = w.heap.size + 1) W0 W1 → I pre W1)
    (hIx : ∀ c pre W0 W1, Ix c pre W0 → Step (fun k => O (w.heap.size + 2) k ∨ k = w.heap.size ∨ k = w.heap.size + 1) W0 W1 → Ix c pre W1)
    (h0 : I [] w) (a₁ : α → World → Act) (W₁ : α → World → World) (hW₁ : ∀ x W, Step (fun _ => False) W (W₁ x W))
    (hassign : ∀ (l : Nat) (x : α) (W : World) (K : Act → World → Prop), K (a₁ x W) (W₁ x W) →
      assign.wpIn (Fence.wide.inRound l) n P (Exit.then K (fun _ _ _ => False)) { tmps := (ps.zip (encs x)).foldl (fun t (p, v) => t.setIfInBounds p v) a.tmps, defers := [] } W)
    (hbody : ∀ (l : Nat) (pre : List α) (x : α) (W0 W W' : World), E pre x → I pre W' → w.heap.size + 2 ≤ W0.heap.size → W0.heap.size ≤ W.heap.size → (W₁ x W).heap.size ≤ W'.heap.size → (∀ k, k < (W₁ x W).heap.size → k ≠ w.heap.size + 1 → W'.heap[k]? = (W₁ x W).heap[k]?) →
      I pre W0 → body.wpIn (Fence.wide.inRound l) n P (outPost (fun k => (O (w.heap.size + 2) k ∨ k = w.heap.size ∨ k = w.heap.size + 1) ∨ R k) W0.heap.size I Ix (pre ++ [x]) W') (a₁ x W) W')
    (hdone : ∀ (xs : List α) (W : World), S xs → I xs W → W.heap[w.heap.size]? = some (.deferred (some [])) → Q .normal { a with defers := { target := .collected w.heap.size, args := #[] } :: a.defers } W)
    (hstop : ∀ (c : Code) (pre : List α) (W : World), Sp pre → Ix c pre W → W.heap[w.heap.size]? = some (.deferred (some [])) → c.wpIn Fence.wide (n + 1 + 1) P Q { a with defers := { target := .collected w.heap.size, args := #[] } :: a.defers } W) :
    (Code.rangeFunc g ps assign body).wpIn Fence.wide (n + 1 + 1) P Q a w := by
  refine wpIn_rangeFunc ?_
  intro fn hfn
  rw [show Fence.wide.round = none from rfl]
  obtain ⟨rec, hrec⟩ : ∃ rec : LoopState → Option Code → Loop, rec = fun st pe => { state := st, pending := pe, fn, tmps := a.tmps, params := ps, assign, body, defers := w.heap.size } := ⟨_, rfl⟩
  obtain ⟨W1, hW1⟩ : ∃ W1, (w.alloc (.deferred (some []))).alloc (.loop (rec .ready none)) = W1 := ⟨_, rfl⟩
  have hs1 : W1.heap.size = w.heap.size + 2 := by rw [← hW1]; simp
  have hL1 : W1.heap[w.heap.size + 1]? = some (.loop (rec .ready none)) := by
    rw [← hW1]; have := World.alloc_heap_new (w.alloc (.deferred (some []))) (.loop (rec .ready none)); rwa [World.size_alloc] at this
  have hK1 : W1.heap[w.heap.size]? = some (.deferred (some [])) := by
    rw [← hW1]; exact (Below.heap_alloc _ _ _ (by simp)).trans (World.alloc_heap_new w _)
  have hI1 : I [] W1 := by rw [← hW1]; exact hI _ _ _ h0 (((Step.refl _ w).alloc _).alloc _)
  have hb1 : Below w0.heap.size w0 W1 := by
    rw [← hW1]; exact hb0.trans ((((Below.refl _ w).alloc (Nat.le_refl _) _).alloc (by simp) _).mono hb0.size)
  refine ⟨w.heap.size + 1, [{ target := .collected w.heap.size, args := #[] }], W1, { target := .fn (.func gf) lb, args := #[.func (.yield (w.heap.size + 1)) #[] #[]] }, W1, gf,
    #[.func (.yield (w.heap.size + 1)) #[] #[]] ++ lb, W1, ?_, ?_, ?_, ?_, fun _ => by omega, ?_⟩
  · rw [← hW1, hrec]; exact run_enterLoop_outer _ _ _ _ _
  · simp only [resolve, hg]
    simp [go_sem]
  · intro f' hf'; simp [Target.leads] at hf'; subst hf'; trivial
  · simp [invoke, go_sem, eg]
  · have hw : ∀ {A B : World}, Step (O W1.heap.size) A B → Step (fun k => O (w.heap.size + 2) k ∨ k = w.heap.size ∨ k = w.heap.size + 1) A B := fun h => h.wider (fun k hk => by rw [hs1] at hk; exact .inl hk)
    have keepJ : ∀ {A B : World} {o : Obj} {k : Nat}, Step (O W1.heap.size) A B → A.heap[k]? = some o → k = w.heap.size ∨ k = w.heap.size + 1 → B.heap[k]? = some o := fun {A B o k} h hk ho =>
      (h.block k (Array.getElem?_eq_some_iff.1 hk).1 (fun h' => by rw [hs1] at h'; have := hO k h'; omega)).trans hk
    refine (hseq n (w.heap.size + 1)
      (fun pre W => I pre W ∧ W.heap[w.heap.size + 1]? = some (.loop (rec .ready none)) ∧ W.heap[w.heap.size]? = some (.deferred (some [])))
      (fun pre W => ∃ c, Ix c pre W ∧ W.heap[w.heap.size + 1]? = some (.loop (rec .done (some c))) ∧ W.heap[w.heap.size]? = some (.deferred (some [])))
      W1 hb1 hb1.size
      (fun pre A B hs h => ⟨hI pre A B hs.1 (hw h), keepJ h hs.2.1 (.inr rfl), keepJ h hs.2.2 (.inl rfl)⟩)
      (fun pre A B hs h => by
        obtain ⟨c, hc, hl, hk⟩ := hs
        exact ⟨c, hIx c pre A B hc (hw h), keepJ h hl (.inr rfl), keepJ h hk (.inl rfl)⟩)
      ?_ ⟨hI1, hL1, hK1⟩).mono ?_
    · rintro pre x W0 W hE ⟨hi0, hl0, hk0⟩ hm0 hst
      rw [hs1] at hm0
      have hl := keepJ hst hl0 (.inr rfl)
      have hk := keepJ hst hk0 (.inl rfl)
      have hy := run_yield (P := P) (args := encs x) hl (by rw [hrec]; exact hps x)
      rw [hrec] at hy
      have hlA : (W₁ x W).heap[w.heap.size + 1]? = some (.loop (rec .ready none)) := ((hW₁ x W).block _ (Array.getElem?_eq_some_iff.1 hl).1 (fun h => h)).trans hl
      have hkA : (W₁ x W).heap[w.heap.size]? = some (.deferred (some [])) := ((hW₁ x W).block _ (Array.getElem?_eq_some_iff.1 hk).1 (fun h => h)).trans hk
      refine ⟨fn, _, assign, body, hy, roundIn_of_wpIn hfn (hassign _ x W _ ⟨_, run_beginRound hlA (by rw [hrec]), ?_⟩)⟩
      obtain ⟨W2, hW2⟩ : ∃ W2, (W₁ x W).putObj (w.heap.size + 1) (.loop { rec .ready none with state := .busy }) = W2 := ⟨_, rfl⟩
      have hl2 : W2.heap[w.heap.size + 1]? = some (.loop { rec .ready none with state := .busy }) := by rw [← hW2]; exact World.putObj_heap_same (Array.getElem?_eq_some_iff.1 hlA).1
      have hk2 : W2.heap[w.heap.size]? = some (.deferred (some [])) := by rw [← hW2]; exact (World.putObj_heap_other (by omega)).trans hkA
      have hz2 : W2.heap.size = (W₁ x W).heap.size := by rw [← hW2]; simp
      have ho2 : ∀ k, k ≠ w.heap.size + 1 → W2.heap[k]? = (W₁ x W).heap[k]? := fun k hne => by rw [← hW2]; exact World.putObj_heap_other hne
      have hst2 : Step (fun k => O (w.heap.size + 2) k ∨ k = w.heap.size ∨ k = w.heap.size + 1) W0 W2 := by
        rw [← hW2]; exact ((hw hst).trans ((hW₁ x W).wider (fun _ h => h.elim))).put (.inr (.inr rfl)) _
      have hos : W2.os = W.os ∧ W2.tape = W.tape ∧ W2.output = W.output := by rw [← hW2]; exact ⟨(hW₁ x W).os, (hW₁ x W).tape, (hW₁ x W).output⟩
      rw [hW2]
      refine wpIn_mono (hbody _ pre x W0 W W2 hE (hI _ _ _ hi0 hst2) hm0 hst.size (by rw [hz2]; exact Nat.le_refl _) (fun k _ => ho2 k) hi0) ?_
      have fin : ∀ (jump : Option Code) (W3 : World), Keeps (fun k => (O (w.heap.size + 2) k ∨ k = w.heap.size ∨ k = w.heap.size + 1) ∨ R k) W0.heap.size W2 W3 →
          (Instr.endRound (w.heap.size + 1) jump).run P W3 = .ok (.bool jump.isNone) (W3.putObj (w.heap.size + 1) (.loop (rec (if jump.isNone then .ready else .done) jump))) ∧
          (W3.putObj (w.heap.size + 1) (.loop (rec (if jump.isNone then .ready else .done) jump))).heap[w.heap.size + 1]? = some (.loop (rec (if jump.isNone then .ready else .done) jump)) ∧
          (W3.putObj (w.heap.size + 1) (.loop (rec (if jump.isNone then .ready else .done) jump))).heap[w.heap.size]? = some (.deferred (some [])) ∧
          Keeps (fun k => O W1.heap.size k ∨ R k) W0.heap.size W (W3.putObj (w.heap.size + 1) (.loop (rec (if jump.isNone then .ready else .done) jump))) := fun jump W3 hk3 => by
        have hl3 := (hk3.block _ (Array.getElem?_eq_some_iff.1 hl2).1 (.inr (.inl (.inr (.inr rfl))))).trans hl2
        have hd3 := (hk3.block _ (Array.getElem?_eq_some_iff.1 hk2).1 (.inr (.inl (.inr (.inl rfl))))).trans hk2
        have := run_endRound (P := P) jump hl3
        rw [hrec] at this ⊢
        refine ⟨this, World.putObj_heap_same (Array.getElem?_eq_some_iff.1 hl3).1, (World.putObj_heap_other (by omega)).trans hd3, hk3.os.trans hos.1, hk3.tape.trans hos.2.1, hk3.output.trans hos.2.2, ?_, fun k hk hor => ?_⟩
        · rw [World.putObj_size]
          have := hk3.size
          have := (hW₁ x W).size
          omega
        · have hne : k ≠ w.heap.size + 1 := fun e => by
            rcases hor with h1 | h1 | h1
            · omega
            · rw [hs1] at h1; exact (hO k h1).2 e
            · have := hR k h1; omega
          have h5 := (hW₁ x W).size
          rw [World.putObj_heap_other hne, hk3.block k (by omega) (hor.elim .inl (fun h => .inr (h.elim (fun h => .inl (.inl (by rw [hs1] at h; exact h))) .inr))), ho2 k hne]
          exact (hW₁ x W).block k hk (fun h => h)
      have tail : ∀ (o : Obj) (W3 : World), Step (fun k => O (w.heap.size + 2) k ∨ k = w.heap.size ∨ k = w.heap.size + 1) W3 (W3.putObj (w.heap.size + 1) o) := fun o W3 => (Step.refl _ _).put (.inr (.inr rfl)) o
      rintro e a3 W3 hp
      cases e with
      | normal =>
        obtain ⟨hk3, hi3⟩ := hp
        obtain ⟨hr, hl4, hk4, hq⟩ := fin none W3 hk3
        exact ⟨_, _, hr, .inl ⟨rfl, ⟨hI _ _ _ hi3 (tail _ _), hl4, hk4⟩, hq⟩⟩
      | ret =>
        obtain ⟨hk3, hi3⟩ := hp
        obtain ⟨hr, hl4, hk4, hq⟩ := fin (some .ret) W3 hk3
        exact ⟨_, _, hr, .inr ⟨rfl, .ret, hIx _ _ _ _ hi3 (tail _ _), hl4, hk4⟩⟩
      | exit id =>
        obtain ⟨hk3, hi3⟩ := hp
        obtain ⟨hr, hl4, hk4, hq⟩ := fin (some (.exit id)) W3 hk3
        exact ⟨_, _, hr, .inr ⟨rfl, .exit id, hIx _ _ _ _ hi3 (tail _ _), hl4, hk4⟩⟩
      | goto t =>
        obtain ⟨hk3, hi3⟩ := hp
        obtain ⟨hr, hl4, hk4, hq⟩ := fin (some (.goto t)) W3 hk3
        exact ⟨_, _, hr, .inr ⟨rfl, .goto t, hIx _ _ _ _ hi3 (tail _ _), hl4, hk4⟩⟩
      | panic ch => exact hp.elim
      | outgrown => exact hp.elim
    · have tail : ∀ (o : Obj) (W3 : World), Step (fun k => O (w.heap.size + 2) k ∨ k = w.heap.size ∨ k = w.heap.size + 1) W3 (W3.putObj (w.heap.size + 1) o) := fun o W3 => (Step.refl _ _).put (.inr (.inr rfl)) o
      rintro e W2 ⟨⟨v, rfl⟩, (⟨xs, hS, hi, hl, hk⟩ | ⟨pre, hSp, c, hi, hl, hk⟩)⟩
      · exact ⟨none, _, by have := run_endLoop (P := P) hl (by rw [hrec]; simp); rw [hrec] at this; exact this, hdone xs _ hS (hI _ _ _ hi (tail _ _)) ((World.putObj_heap_other (by omega)).trans hk)⟩
      · exact ⟨some c, _, by have := run_endLoop (P := P) hl (by rw [hrec]; simp); rw [hrec] at this; exact this, hstop c pre _ hSp (hIx _ _ _ _ hi (tail _ _)) ((World.putObj_heap_other (by omega)).trans hk)⟩
end Go.Proofs.Ytgaonfeljijebaa
