/-
  What this seat's proofs share, said of no program: a slice of plain structs that reads as a list ('Rd'), how it is carried over a change of the world, how it is read off an argument, and small facts on lists.
-/
import Derived.WalkKit
import Derived.ProofKit
import Derived.OpenShut
import Derived.ShutString
import Derived.ChangeOld
import Derived.Below
import Derived.Lib.Hide
import Derived.Deep.Slices
import Derived.Deep.Fields
import Derived.Deep.Draws
import Derived.Laws.OwnMore
import Derived.Laws.Rows
import Derived.Deep.QuietTactic
import Derived.BigQuiet
import Derived.WalkLawsBesides
import Derived.Deep.RegionWith
import Derived.ChangeSame
import Derived.Lib.SmallJoins
namespace Go.Proofs.Ytgaonfeljijebaa
open Go.ChangeShapes Go.WideShapes Go.ChangeAt Go.RowKit Go.Deep
set_option linter.unusedVariables false

/-- The slice at 'A', of 'n' elements of 'F' cells each, holds the list 'l', each element as the integers 'enc' says. -/
def Rd {α : Type} (enc : α → List Int) (F : Nat) (w : World) (A : Option Addr) (n : Nat) (l : List α) : Prop :=
  n = l.length ∧ ∀ (i : Nat) (r : α), l[i]? = some r → ∃ b off, A = some ⟨b, off, none⟩ ∧ b < w.heap.size ∧ ∀ (j : Nat) (v : Int), (enc r)[j]? = some v → w.cell? ⟨b, off + (i * F + j), none⟩ = some (.int .i64 v)

def one (x : Int) : List Int := [x]
def two (x : Int × Int) : List Int := [x.1, x.2]
def three (x : Int × Int × Int) : List Int := [x.1, x.2.1, x.2.2]
def four (x : Int × Int × Int × Int) : List Int := [x.1, x.2.1, x.2.2.1, x.2.2.2]

/-- An integer that an int can hold. -/
def Fits (x : Int) : Prop := -9223372036854775808 ≤ x ∧ x ≤ 9223372036854775807

section
variable {α : Type} {enc : α → List Int} {F n : Nat} {w w' : World} {A : Option Addr} {l : List α}

theorem Rd.nil (enc : α → List Int) (F : Nat) (w : World) (A : Option Addr) : Rd enc F w A 0 [] := ⟨rfl, fun i r h => by simp at h⟩

theorem Rd.below {B : Nat} (h : Rd enc F w A n l) (hb : Below B w w') (hB : w.heap.size ≤ B) : Rd enc F w' A n l :=
  ⟨h.1, fun i r hr => by
    obtain ⟨b, off, hA, hlt, hc⟩ := h.2 i r hr
    exact ⟨b, off, hA, Nat.lt_of_lt_of_le hlt hb.size, fun j v hv => (hb.cell (p := ⟨b, _, none⟩) (Nat.lt_of_lt_of_le hlt hB)).trans (hc j v hv)⟩⟩
theorem Rd.alloc (h : Rd enc F w A n l) (o : Obj) : Rd enc F (w.alloc o) A n l := h.below ((Below.refl w.heap.size w).alloc (Nat.le_refl _) o) (Nat.le_refl _)
theorem Rd.drew (h : Rd enc F w A n l) : Rd enc F w.drew A n l := h
theorem Rd.drewN (h : Rd enc F w A n l) (k : Nat) : Rd enc F (w.drewN k) A n l := h
theorem Rd.far (h : Rd enc F w A n l) (p : Addr) (u : Value) (hp : ∀ b off, A = some ⟨b, off, none⟩ → b ≠ p.block) : Rd enc F (w.setCell p u) A n l :=
  ⟨h.1, fun i r hr => by
    obtain ⟨b, off, hA, hlt, hc⟩ := h.2 i r hr
    exact ⟨b, off, hA, by simpa [World.setCell] using hlt, fun j v hv => (World.cell?_setCell_other w p _ u (fun e => hp b off hA (by rw [e]))).trans (hc j v hv)⟩⟩
theorem Rd.lt {b off : Nat} (h : Rd enc F w (some ⟨b, off, none⟩) n l) (hk : 0 < n) : b < w.heap.size := by
  obtain ⟨hn, h⟩ := h
  obtain ⟨b', off', hA, hlt, _⟩ := h 0 _ (List.getElem?_eq_getElem (show 0 < l.length by omega))
  injection hA with hA
  injection hA with hA
  rw [hA]; exact hlt
/-- Its first elements alone. -/
theorem Rd.take (h : Rd enc F w A n l) (k : Nat) (hk : k ≤ n) : Rd enc F w A k (l.take k) :=
  ⟨by rw [List.length_take, ← h.1]; omega, fun i r hr => h.2 i r (by rw [List.getElem?_take] at hr; split at hr <;> simp_all)⟩
end

theorem mem_of_at {α : Type} {l : List α} {k : Nat} {x : α} (h : l[k]? = some x) : x ∈ l := List.mem_of_getElem? h
theorem Rd.at1 {w : World} {A : Option Addr} {n k : Nat} {l : List Int} (h : Rd one 1 w A n l) (hk : k < n) :
    ∃ x b off, A = some ⟨b, off, none⟩ ∧ Hid (l[k]? = some x) ∧ w.cell? ⟨b, off + k, none⟩ = some (.int .i64 x) := by
  obtain ⟨hn, h⟩ := h
  have e : l[k]? = some (l[k]'(by omega)) := List.getElem?_eq_getElem (by omega)
  obtain ⟨b, off, hA, _, hc⟩ := h k _ e
  exact ⟨_, b, off, hA, e, by simpa using hc 0 _ rfl⟩
theorem Rd.at2 {w : World} {A : Option Addr} {n k : Nat} {l : List (Int × Int)} (h : Rd two 2 w A n l) (hk : k < n) :
    ∃ x y b off, A = some ⟨b, off, none⟩ ∧ Hid (l[k]? = some (x, y)) ∧ w.cell? ⟨b, off + k * 2, none⟩ = some (.int .i64 x) ∧ w.cell? ⟨b, off + k * 2 + 1, none⟩ = some (.int .i64 y) := by
  obtain ⟨hn, h⟩ := h
  have e : l[k]? = some (l[k]'(by omega)) := List.getElem?_eq_getElem (by omega)
  obtain ⟨b, off, hA, _, hc⟩ := h k _ e
  exact ⟨_, _, b, off, hA, e, by simpa using hc 0 _ rfl, by simpa [Nat.add_assoc] using hc 1 _ rfl⟩
theorem Rd.at3 {w : World} {A : Option Addr} {n k : Nat} {l : List (Int × Int × Int)} (h : Rd three 3 w A n l) (hk : k < n) :
    ∃ x y z b off, A = some ⟨b, off, none⟩ ∧ Hid (l[k]? = some (x, y, z)) ∧ w.cell? ⟨b, off + k * 3, none⟩ = some (.int .i64 x) ∧ w.cell? ⟨b, off + k * 3 + 1, none⟩ = some (.int .i64 y) ∧ w.cell? ⟨b, off + k * 3 + 2, none⟩ = some (.int .i64 z) := by
  obtain ⟨hn, h⟩ := h
  have e : l[k]? = some (l[k]'(by omega)) := List.getElem?_eq_getElem (by omega)
  obtain ⟨b, off, hA, _, hc⟩ := h k _ e
  exact ⟨_, _, _, b, off, hA, e, by simpa using hc 0 _ rfl, by simpa [Nat.add_assoc] using hc 1 _ rfl, by simpa [Nat.add_assoc] using hc 2 _ rfl⟩
theorem Rd.at4 {w : World} {A : Option Addr} {n k : Nat} {l : List (Int × Int × Int × Int)} (h : Rd four 4 w A n l) (hk : k < n) :
    ∃ x y z u b off, A = some ⟨b, off, none⟩ ∧ Hid (l[k]? = some (x, y, z, u)) ∧ w.cell? ⟨b, off + k * 4, none⟩ = some (.int .i64 x) ∧ w.cell? ⟨b, off + k * 4 + 1, none⟩ = some (.int .i64 y) ∧ w.cell? ⟨b, off + k * 4 + 2, none⟩ = some (.int .i64 z) ∧ w.cell? ⟨b, off + k * 4 + 3, none⟩ = some (.int .i64 u) := by
  obtain ⟨hn, h⟩ := h
  have e : l[k]? = some (l[k]'(by omega)) := List.getElem?_eq_getElem (by omega)
  obtain ⟨b, off, hA, _, hc⟩ := h k _ e
  exact ⟨_, _, _, _, b, off, hA, e, by simpa using hc 0 _ rfl, by simpa [Nat.add_assoc] using hc 1 _ rfl, by simpa [Nat.add_assoc] using hc 2 _ rfl, by simpa [Nat.add_assoc] using hc 3 _ rfl⟩

theorem Rd.hd1 {w : World} {A : Option Addr} {n : Nat} {l : List Int} (h : Rd one 1 w A n l) (hk : 0 < n) :
    ∃ x b off, A = some ⟨b, off, none⟩ ∧ Hid (l[0]? = some x) ∧ w.cell? ⟨b, off, none⟩ = some (.int .i64 x) := h.at1 hk
theorem Rd.hd2 {w : World} {A : Option Addr} {n : Nat} {l : List (Int × Int)} (h : Rd two 2 w A n l) (hk : 0 < n) :
    ∃ x y b off, A = some ⟨b, off, none⟩ ∧ Hid (l[0]? = some (x, y)) ∧ w.cell? ⟨b, off, none⟩ = some (.int .i64 x) ∧ w.cell? ⟨b, off + 1, none⟩ = some (.int .i64 y) := by
  have := h.at2 hk
  simpa using this
theorem Rd.hd3 {w : World} {A : Option Addr} {n : Nat} {l : List (Int × Int × Int)} (h : Rd three 3 w A n l) (hk : 0 < n) :
    ∃ x y z b off, A = some ⟨b, off, none⟩ ∧ Hid (l[0]? = some (x, y, z)) ∧ w.cell? ⟨b, off, none⟩ = some (.int .i64 x) ∧ w.cell? ⟨b, off + 1, none⟩ = some (.int .i64 y) ∧ w.cell? ⟨b, off + 2, none⟩ = some (.int .i64 z) := by
  have := h.at3 hk
  simpa using this

/-- A slice literal that the call has just made. -/
theorem Rd.made {α : Type} (enc : α → List Int) (F : Nat) (w : World) (t : TypeId) (l : List α) (cs : Array Value) (hF : ∀ r ∈ l, (enc r).length = F) (hcs : cs.toList = (l.flatMap enc).map (Value.int .i64)) :
    Rd enc F (w.alloc (.cells cs t)) (some ⟨w.heap.size, 0, none⟩) l.length l := by
  refine ⟨rfl, fun i r hr => ⟨_, 0, rfl, by simp, fun j v hv => ?_⟩⟩
  have hj : j < F := by rw [← hF r (mem_of_at hr)]; exact (List.getElem?_eq_some_iff.1 hv).1
  have key : ∀ (l : List α) (i : Nat), (∀ r ∈ l, (enc r).length = F) → l[i]? = some r → (l.flatMap enc)[i * F + j]? = some v := by
    intro l
    induction l with
    | nil => intro i _ h; simp at h
    | cons a l ih =>
      intro i hF h
      rw [List.flatMap_cons]
      cases i with
      | zero =>
        simp at h; subst h
        rw [Nat.zero_mul, Nat.zero_add, List.getElem?_append_left (by rw [hF _ (by simp)]; exact hj), hv]
      | succ i =>
        have ha := hF a (by simp)
        rw [List.getElem?_append_right (by rw [ha, Nat.succ_mul]; omega), ha, show (i + 1) * F + j - F = i * F + j by rw [Nat.succ_mul]; omega]
        exact ih i (fun r hr => hF r (by simp [hr])) (by simpa using h)
  rw [cell_of_row _ _ _ cs t (0, 0) (heap_alloc_new w _), Nat.zero_add, ← Array.getElem?_toList, hcs, List.getElem?_map, key l i hF hr]
  rfl

theorem flat_at {α : Type} {enc : α → List Int} {F : Nat} {r : α} {v : Int} {j : Nat} : ∀ (l : List α) (i : Nat), (∀ r ∈ l, (enc r).length = F) → l[i]? = some r → (enc r)[j]? = some v → (l.flatMap enc)[i * F + j]? = some v
  | [], i, _, h, _ => by simp at h
  | a :: l, i, hF, h, hv => by
    rw [List.flatMap_cons]
    cases i with
    | zero =>
      simp at h; subst h
      have hj : j < (enc a).length := (List.getElem?_eq_some_iff.1 hv).1
      rw [Nat.zero_mul, Nat.zero_add, List.getElem?_append_left hj, hv]
    | succ i =>
      have ha := hF a (by simp)
      rw [List.getElem?_append_right (by rw [ha, Nat.succ_mul]; omega), ha, show (i + 1) * F + j - F = i * F + j by rw [Nat.succ_mul]; omega]
      exact flat_at l i (fun r hr => hF r (by simp [hr])) (by simpa using h) hv
theorem flat_len {α : Type} {enc : α → List Int} {F : Nat} : ∀ (l : List α), (∀ r ∈ l, (enc r).length = F) → (l.flatMap enc).length = l.length * F
  | [], _ => by simp
  | a :: l, hF => by
    rw [List.flatMap_cons, List.length_append, hF a (by simp), flat_len l (fun r hr => hF r (by simp [hr])), List.length_cons, Nat.succ_mul]; omega
/-- A slice that the call owns, of structs of F ints. -/
theorem Rd.own {α : Type} {enc : α → List Int} {F : Nat} {w : World} {base : Nat} {e : TypeId} {A : Option Addr} {n c : Nat} {l : List α} (h : w.ownsRow base e F (.slice A n c) n ((l.flatMap enc).map (Value.int .i64)))
    (hF : ∀ r ∈ l, (enc r).length = F) (hp : 0 < F) : Rd enc F w A n l := by
  have hl : n = l.length := by
    have := h.1
    rw [List.length_map, flat_len l hF] at this
    exact (Nat.eq_of_mul_eq_mul_right hp this).symm
  refine ⟨hl, fun i r hr => ?_⟩
  have hi : i < l.length := (List.getElem?_eq_some_iff.1 hr).1
  rcases h.2 with ⟨_, h0⟩ | ⟨g, cap, cur, hv, _, hg, _⟩
  · omega
  · have hA : A = some ⟨g, 0, none⟩ := by injection hv
    subst hA
    refine ⟨g, 0, rfl, (Array.getElem?_eq_some_iff.1 hg).1, fun j v hv' => ?_⟩
    have hat := flat_at l i hF hr hv'
    have := h.cells (g := g) rfl (i * F + j) (.int .i64 v) (by rw [List.getElem?_map, hat]; rfl)
    rw [Nat.zero_add]
    unfold Addr.add at this
    split at this
    · rename_i h0; rw [h0]; exact this
    · simpa using this

/-- Block g holds just the cells cs, none of them frozen. -/
def Bk (w : World) (g : Nat) (t : TypeId) (cs : Array Value) : Prop := w.heap[g]? = some (.cells cs t (0, 0))
section
variable {w w' : World} {g : Nat} {t : TypeId} {cs : Array Value}
theorem Bk.lt (h : Bk w g t cs) : g < w.heap.size := (Array.getElem?_eq_some_iff.1 h).1
theorem Bk.cell (h : Bk w g t cs) (i : Nat) : w.cell? ⟨g, i, none⟩ = cs[i]? := cell_of_row w g i cs t (0, 0) h
theorem Bk.free (h : Bk w g t cs) (i : Nat) : w.frozen? ⟨g, i, none⟩ = false := by
  have h' : w.heap[g]? = some (.cells cs t (0, 0)) := h
  simp [World.frozen?, h']
theorem Bk.new (w : World) (t : TypeId) (cs : Array Value) : Bk (w.alloc (.cells cs t)) w.heap.size t cs := heap_alloc_new w _
theorem Bk.dN (h : Bk w g t cs) (n : Nat) : Bk (w.drewN n) g t cs := h
theorem Bk.alloc (h : Bk w g t cs) (o : Obj) : Bk (w.alloc o) g t cs := (Below.heap_alloc w o g h.lt).trans h
theorem Bk.put (h : Bk w g t cs) (i : Nat) (u : Value) : Bk (w.setCell ⟨g, i, none⟩ u) g t (cs.setIfInBounds i u) := by
  have h' : w.heap[g]? = some (.cells cs t (0, 0)) := h
  show (w.setCell ⟨g, i, none⟩ u).heap[g]? = _
  simp [World.setCell, Array.getElem?_modify, h']
theorem Bk.far (h : Bk w g t cs) {p : Addr} (hp : g ≠ p.block) (u : Value) : Bk (w.setCell p u) g t cs := (Below.heap_setCell w p u g hp).trans h
theorem Bk.below {B : Nat} (h : Bk w g t cs) (hb : Below B w w') (hg : g < B) : Bk w' g t cs := (hb.block g hg).trans h
theorem Bk.grown {row : Option Nat} (h : Bk w g t cs) (hb : w.grownBy w' row) (hg : some g ≠ row) : Bk w' g t cs := (hb.block g h.lt hg).trans h
end

theorem below_dN {B : Nat} {a w : World} (h : Below B a w) (k : Nat) : Below B a (w.drewN k) := ⟨h.os, h.tape, h.output, h.size, h.block⟩
theorem below_boxed {w w1 : World} {o : Obj} (h : Below (w.alloc o).heap.size (w.alloc o) w1) : Below w.heap.size w w1 :=
  ((Below.refl _ _).alloc (Nat.le_refl _) _).trans (h.mono (by simp))
/-- A cell of a block that was made before a call which leaves what there is. -/
theorem boxed_cell {w w1 : World} {cs : Array Value} {t : TypeId} (h : Below (w.alloc (.cells cs t)).heap.size (w.alloc (.cells cs t)) w1) (j : Nat) : w1.cell? ⟨w.heap.size, j, none⟩ = cs[j]? := by
  rw [h.cell (p := ⟨w.heap.size, j, none⟩) (by simp)]
  exact cell_of_row _ _ _ cs t (0, 0) (heap_alloc_new w _)
/-- A world behind so many new blocks o. -/
def laid (w : World) (o : Obj) : Nat → World
  | 0 => w
  | m + 1 => (laid w o m).alloc o
/-- .. and one draw. -/
def boxes (w : World) (o : Obj) (s : Nat) : World := (laid w o s).drewN 1
theorem boxes_more (w : World) (o : Obj) (s : Nat) : (boxes w o s).alloc o = boxes w o (s + 1) := rfl
theorem laid_below (w : World) (o : Obj) : ∀ m, Below w.heap.size w (laid w o m)
  | 0 => Below.refl _ _
  | m + 1 => (laid_below w o m).alloc (laid_below w o m).size o
theorem boxes_below (w : World) (o : Obj) (s : Nat) : Below w.heap.size w (boxes w o s) := below_dN (laid_below w o s) 1
/-- A region that draws its order, whose operations only read, but for calls that lay one more block o. -/
theorem wp_region_boxes {P : Program} {id : Nat} {Q : Exit → Act → World → Prop} {a : Act} {w : World} {l : List Oper} (o : Obj) (hm : P.follows .mixedOrders = true) (hB : Region.lexB .any l.toArray = true)
    (h : wpQuiet P l.toArray (fun w' => ∃ s, w' = boxes w o s) (fun a' => ∀ w', (∃ s, w' = boxes w o s) → Q .normal a' w') l a) : (Code.region id l.toArray true).wp P Q a w :=
  wp_region_quiet (C := fun w' => ∃ s, w' = boxes w o s) hm hB ⟨0, rfl⟩ (by simpa using h)
theorem calls_boxes {P : Program} {f : FuncId} {args : Array Value} {w : World} {o : Obj} {s : Nat} {v : Value}
    (h : Calls P f args (boxes w o s) fun e w' => e = .returned v ∧ w' = (boxes w o s).alloc o) : Calls P f args (boxes w o s) fun e w' => e = .returned v ∧ ∃ s', w' = boxes w o s' :=
  h.mono fun _ _ ⟨he, hw⟩ => ⟨he, s + 1, by rw [hw, boxes_more]⟩

theorem ret_bool {a b : Bool} (h : a = b) : Ending.returned (.bool a) = .returned (.bool b) := by rw [h]
theorem ret_int {k : IntKind} {a b : Int} (h : a = b) : Ending.returned (.int k a) = .returned (.int k b) := by rw [h]
theorem ret_ib {k : IntKind} {a b : Int} {c d : Bool} (h : a = b) (h' : c = d) : Ending.returned (.tuple #[.int k a, .bool c]) = .returned (.tuple #[.int k b, .bool d]) := by rw [h, h']
theorem ret_ii {k k' : IntKind} {a b c d : Int} (h : a = b) (h' : c = d) : Ending.returned (.tuple #[.int k a, .int k' c]) = .returned (.tuple #[.int k b, .int k' d]) := by rw [h, h']
theorem take_succ_of {α : Type} {l : List α} {k : Nat} {x : α} (h : l[k]? = some x) : l.take (k + 1) = l.take k ++ [x] := by
  rw [List.take_add_one, h]; rfl

theorem list_of {α : Type} (P : Nat → α → Prop) : ∀ n : Nat, (∀ i, i < n → ∃ r, P i r) → ∃ l : List α, l.length = n ∧ ∀ i r, l[i]? = some r → P i r
  | 0, _ => ⟨[], rfl, fun i r h => by simp at h⟩
  | n + 1, h => by
    obtain ⟨l, hl, hp⟩ := list_of P n (fun i hi => h i (by omega))
    obtain ⟨r, hr⟩ := h n (by omega)
    refine ⟨l ++ [r], by simp [hl], fun i s hs => ?_⟩
    rcases Nat.lt_or_ge i n with hi | hi
    · exact hp i s (by rwa [List.getElem?_append_left (by omega)] at hs)
    · rw [List.getElem?_append_right (by omega)] at hs
      obtain rfl : i = n := by
        rcases Nat.lt_or_ge (i - l.length) 1 with h1 | h1
        · omega
        · rw [List.getElem?_eq_none (by simpa using h1)] at hs; cases hs
      simp [hl] at hs
      subst hs
      exact hr

theorem list2 {xs : List Int} (h : xs.length = 2) : ∃ a b, xs = [a, b] := by match xs, h with | [a, b], _ => exact ⟨a, b, rfl⟩
theorem list3 {xs : List Int} (h : xs.length = 3) : ∃ a b c, xs = [a, b, c] := by match xs, h with | [a, b, c], _ => exact ⟨a, b, c, rfl⟩
theorem list4 {xs : List Int} (h : xs.length = 4) : ∃ a b c d, xs = [a, b, c, d] := by match xs, h with | [a, b, c, d], _ => exact ⟨a, b, c, d, rfl⟩
theorem list6 {xs : List Int} (h : xs.length = 6) : ∃ a b c d e f, xs = [a, b, c, d, e, f] := by match xs, h with | [a, b, c, d, e, f], _ => exact ⟨a, b, c, d, e, f, rfl⟩

theorem lt_of_cell {w : World} {a : Addr} {v : Value} (h : w.cell? a = some v) : a.block < w.heap.size := by
  rcases Nat.lt_or_ge a.block w.heap.size with h' | h'
  · exact h'
  · simp [World.cell?, Array.getElem?_eq_none h'] at h

theorem wf_fits {x : Int} (h : (Lit.int .i64 x).wf = true) : Fits x := by
  simpa [Fits, Lit.wf, IntKind.min, IntKind.max, IntKind.signed, IntKind.bits] using h

section
variable {H : Type} {enc : TypeId × Value → H} {P : Program} {w : World} {base : Nat} {spare : Nat → Bool} {held : Bool}

/-- The cells of a struct whose fields are ints, one cell each. -/
theorem cells_ints {e : TypeId} {fs : Array Field} {k : Nat} {cs : List Value} {y : DataW H × List MemPlace} (he : P.underlying e = some (.struct fs)) (hone : oneCellFields P fs = true)
    (hI : ∀ (j : Nat) (f : Field), fs[j]? = some f → P.underlying f.type = some (.int .i64)) (hlen : cs.length = fs.size) (h : DataW.trod enc P w base spare held k e cs = some y) :
    ∃ xs : List Int, xs.length = fs.size ∧ cs = xs.map (Value.int .i64) ∧ ∀ x ∈ xs, Fits x := by
  obtain ⟨ys, k', _, _, _, hyl, hf⟩ := DataW.trod_struct he h
  obtain ⟨xs, hxl, hxp⟩ := list_of (fun j (x : Int) => cs[j]? = some (.int .i64 x) ∧ Fits x) fs.size (fun j hj => by
    have hfj : fs[j]? = some fs[j] := Array.getElem?_eq_getElem hj
    obtain ⟨ho, hk⟩ := hone_of hone j _ hfj
    have h1 := hf j _ hfj
    rw [ho, hk, List.drop_eq_getElem_cons (by omega), List.getElem?_eq_getElem (by omega)] at h1
    obtain ⟨z, hz, _, hw⟩ := DataW.trod_int (hI j _ hfj) h1
    simp only [List.take_succ_cons, List.take_zero, List.cons.injEq, and_true] at hz
    exact ⟨z, by rw [List.getElem?_eq_getElem (by omega), hz], wf_fits hw⟩)
  refine ⟨xs, hxl, List.ext_getElem? fun j => ?_, fun x hx => ?_⟩
  · rcases Nat.lt_or_ge j fs.size with hj | hj
    · have hx : xs[j]? = some (xs[j]'(by omega)) := List.getElem?_eq_getElem (by omega)
      rw [(hxp j _ hx).1, List.getElem?_map, hx]; rfl
    · rw [List.getElem?_eq_none (by omega), List.getElem?_eq_none (by rw [List.length_map]; omega)]
  · obtain ⟨j, hj⟩ := List.mem_iff_getElem?.1 hx
    exact (hxp j x hj).2

/-- A slice of structs of F ints that came in: each element's cells. -/
theorem rd_cells {t e : TypeId} {fs : Array Field} {fuel : Nat} {A : Option Addr} {n c : Nat} {x : DataW H × List MemPlace} (ht : P.underlying t = some (.slice e)) (he : P.underlying e = some (.struct fs))
    (hone : oneCellFields P fs = true) (hC : P.cellsOf e = fs.size) (hI : ∀ (j : Nat) (f : Field), fs[j]? = some f → P.underlying f.type = some (.int .i64)) (hpos : 0 < fs.size)
    (h : DataW.trod enc P w base spare held fuel t [.slice A n c] = some x) :
    n ≤ c ∧ c ≤ maxLen ∧ ∀ i, i < n → ∃ xs : List Int, xs.length = fs.size ∧ (∀ x ∈ xs, Fits x) ∧ ∃ b off, A = some ⟨b, off, none⟩ ∧ b < w.heap.size ∧ ∀ (j : Nat) (v : Int), xs[j]? = some v → w.cell? ⟨b, off + (i * fs.size + j), none⟩ = some (.int .i64 v) := by
  rcases open_slice ht h with ⟨hcs, _⟩ | ⟨a, len, cap, m, k, D, Pl, hcs, _, hl, hm, hmm, _, hi⟩
  · simp only [List.cons.injEq, Value.slice.injEq, and_true] at hcs
    obtain ⟨rfl, rfl, rfl⟩ := hcs
    exact ⟨Nat.le_refl _, Nat.zero_le _, fun i hi => absurd hi (by omega)⟩
  · simp only [List.cons.injEq, Value.slice.injEq, and_true] at hcs
    obtain ⟨rfl, rfl, rfl⟩ := hcs
    have hnm : n ≤ m := by subst hmm; split <;> omega
    refine ⟨hl, hm, fun i him => ?_⟩
    obtain ⟨cs, hc, ht'⟩ := hi i (by omega)
    rw [hC] at hc
    obtain ⟨_, hcl, hat⟩ := World.cells?_some hc
    obtain ⟨xs, hxl, rfl, hxf⟩ := cells_ints he hone hI hcl ht'
    have cell : ∀ (j : Nat) (v : Int), xs[j]? = some v → w.cell? (a.add (i * fs.size + j)) = some (.int .i64 v) := fun j v hv => by
      have hj : j < fs.size := by
        rcases Nat.lt_or_ge j fs.size with h1 | h1
        · exact h1
        · rw [List.getElem?_eq_none (by omega)] at hv; cases hv
      rw [← Go.Deep.add_add, hat j hj, List.getElem?_map, hv]; rfl
    obtain ⟨b, off, spot⟩ := a
    have hspot : spot = none := by
      obtain ⟨cs, hc, ht'⟩ := hi 0 (by omega)
      rw [hC] at hc
      obtain ⟨_, hcl, hat⟩ := World.cells?_some hc
      have h0 := hat 0 hpos
      rw [List.getElem?_eq_getElem (by omega)] at h0
      exact World.cell?_spot (a := ⟨b, off, spot⟩) (by simpa [Addr.add] using h0)
    subst hspot
    have c0 := cell 0 _ (List.getElem?_eq_getElem (by omega))
    have sp : ∀ k : Nat, (⟨b, off, none⟩ : Addr).add k = ⟨b, off + k, none⟩ := fun k => by
      unfold Addr.add
      split
      · rename_i h0; subst h0; rfl
      · rfl
    refine ⟨xs, hxl, hxf, b, off, rfl, by have := lt_of_cell c0; rwa [sp] at this, fun j v hv => by rw [← sp]; exact cell j v hv⟩

/-- A slice of integers that came in. -/
theorem rd_ints {t e : TypeId} {fuel : Nat} {A : Option Addr} {n c : Nat} {x : DataW H × List MemPlace} (ht : P.underlying t = some (.slice e)) (he : P.underlying e = some (.int .i64)) (hC : P.cellsOf e = 1)
    (h : DataW.trod enc P w base spare held fuel t [.slice A n c] = some x) :
    ∃ l : List Int, Rd one 1 w A n l ∧ (∀ r ∈ l, Fits r) ∧ n ≤ c ∧ c ≤ maxLen := by
  have hlt : ∀ p ∈ x.2, p.block < w.heap.size := DataW.trod_lt _ _ _ _ h
  rcases open_ints ht he hC h with ⟨hcs, _⟩ | ⟨a, len, cap, zs, hcs, _, hl, hm, hz, _, hcell, hwz⟩
  · simp only [List.cons.injEq, Value.slice.injEq, and_true] at hcs
    obtain ⟨rfl, rfl, rfl⟩ := hcs
    exact ⟨[], Rd.nil _ _ _ _, by simp, Nat.le_refl _, Nat.zero_le _⟩
  · simp only [List.cons.injEq, Value.slice.injEq, and_true] at hcs
    obtain ⟨rfl, rfl, rfl⟩ := hcs
    have hzn : n ≤ zs.length := by rw [hz]; split <;> omega
    refine ⟨zs.take n, ⟨by rw [List.length_take]; omega, fun i r hr => ?_⟩, fun r hr => wf_fits (hwz r (List.mem_of_mem_take hr)), hl, hm⟩
    have hi : i < n := by
      rcases Nat.lt_or_ge i n with h1 | h1
      · exact h1
      · rw [List.getElem?_eq_none (by rw [List.length_take]; omega)] at hr; cases hr
    have hc := hcell i (by omega)
    obtain ⟨b, off, spot⟩ := a
    have hspot : spot = none := World.cell?_spot (a := ⟨b, off, spot⟩) (by simpa [Addr.add] using hcell 0 (by omega))
    subst hspot
    have hr' : zs[i]? = some r := by rwa [List.getElem?_take_of_lt hi] at hr
    have hv : zs.getD i 0 = r := by rw [List.getD_eq_getElem?_getD, hr']; rfl
    have hc' : w.cell? ⟨b, off + i, none⟩ = some (.int .i64 r) := by
      rw [hv] at hc
      unfold Addr.add at hc
      split at hc
      · rename_i h0; subst h0; simpa using hc
      · simpa using hc
    refine ⟨b, off, rfl, lt_of_cell hc', fun j v hv => ?_⟩
    match j, hv with
    | 0, hv => simp [one] at hv; subst hv; simpa using hc'
/-- A slice of structs of 2 ints that came in. -/
theorem rd_two {t e : TypeId} {f0 f1 : Field} {fuel : Nat} {A : Option Addr} {n c : Nat} {x : DataW H × List MemPlace} (ht : P.underlying t = some (.slice e)) (he : P.underlying e = some (.struct #[f0, f1]))
    (hone : oneCellFields P #[f0, f1] = true) (hC : P.cellsOf e = 2) (hi : ∀ f ∈ [f0, f1], P.underlying f.type = some (.int .i64))
    (h : DataW.trod enc P w base spare held fuel t [.slice A n c] = some x) :
    ∃ l : List (Int × Int), Rd two 2 w A n l ∧ (∀ r ∈ l, ∀ v ∈ two r, Fits v) ∧ n ≤ c ∧ c ≤ maxLen := by
  obtain ⟨hl, hm, hx⟩ := rd_cells ht he hone hC (fun j f hj => hi f (by simpa using Array.mem_of_getElem? hj)) (by simp) h
  obtain ⟨l, hll, hlp⟩ := list_of (fun i (r : (Int × Int)) => (∀ v ∈ two r, Fits v) ∧ ∃ b off, A = some ⟨b, off, none⟩ ∧ b < w.heap.size ∧ ∀ (j : Nat) (v : Int), (two r)[j]? = some v → w.cell? ⟨b, off + (i * 2 + j), none⟩ = some (.int .i64 v)) n (fun i him => by
    obtain ⟨xs, hxl, hxf, b, off, hA, hb, hc⟩ := hx i him
    match xs, hxl with
    | [x0, x1], _ => exact ⟨(x0, x1), hxf, b, off, hA, hb, hc⟩)
  refine ⟨l, ⟨hll.symm, fun i r hr => (hlp i r hr).2⟩, fun r hr v hv => ?_, hl, hm⟩
  obtain ⟨i, hi⟩ := List.mem_iff_getElem?.1 hr
  exact (hlp i r hi).1 v hv
/-- A slice of structs of 3 ints that came in. -/
theorem rd_three {t e : TypeId} {f0 f1 f2 : Field} {fuel : Nat} {A : Option Addr} {n c : Nat} {x : DataW H × List MemPlace} (ht : P.underlying t = some (.slice e)) (he : P.underlying e = some (.struct #[f0, f1, f2]))
    (hone : oneCellFields P #[f0, f1, f2] = true) (hC : P.cellsOf e = 3) (hi : ∀ f ∈ [f0, f1, f2], P.underlying f.type = some (.int .i64))
    (h : DataW.trod enc P w base spare held fuel t [.slice A n c] = some x) :
    ∃ l : List (Int × Int × Int), Rd three 3 w A n l ∧ (∀ r ∈ l, ∀ v ∈ three r, Fits v) ∧ n ≤ c ∧ c ≤ maxLen := by
  obtain ⟨hl, hm, hx⟩ := rd_cells ht he hone hC (fun j f hj => hi f (by simpa using Array.mem_of_getElem? hj)) (by simp) h
  obtain ⟨l, hll, hlp⟩ := list_of (fun i (r : (Int × Int × Int)) => (∀ v ∈ three r, Fits v) ∧ ∃ b off, A = some ⟨b, off, none⟩ ∧ b < w.heap.size ∧ ∀ (j : Nat) (v : Int), (three r)[j]? = some v → w.cell? ⟨b, off + (i * 3 + j), none⟩ = some (.int .i64 v)) n (fun i him => by
    obtain ⟨xs, hxl, hxf, b, off, hA, hb, hc⟩ := hx i him
    match xs, hxl with
    | [x0, x1, x2], _ => exact ⟨(x0, x1, x2), hxf, b, off, hA, hb, hc⟩)
  refine ⟨l, ⟨hll.symm, fun i r hr => (hlp i r hr).2⟩, fun r hr v hv => ?_, hl, hm⟩
  obtain ⟨i, hi⟩ := List.mem_iff_getElem?.1 hr
  exact (hlp i r hi).1 v hv
/-- A slice of structs of 4 ints that came in. -/
theorem rd_four {t e : TypeId} {f0 f1 f2 f3 : Field} {fuel : Nat} {A : Option Addr} {n c : Nat} {x : DataW H × List MemPlace} (ht : P.underlying t = some (.slice e)) (he : P.underlying e = some (.struct #[f0, f1, f2, f3]))
    (hone : oneCellFields P #[f0, f1, f2, f3] = true) (hC : P.cellsOf e = 4) (hi : ∀ f ∈ [f0, f1, f2, f3], P.underlying f.type = some (.int .i64))
    (h : DataW.trod enc P w base spare held fuel t [.slice A n c] = some x) :
    ∃ l : List (Int × Int × Int × Int), Rd four 4 w A n l ∧ (∀ r ∈ l, ∀ v ∈ four r, Fits v) ∧ n ≤ c ∧ c ≤ maxLen := by
  obtain ⟨hl, hm, hx⟩ := rd_cells ht he hone hC (fun j f hj => hi f (by simpa using Array.mem_of_getElem? hj)) (by simp) h
  obtain ⟨l, hll, hlp⟩ := list_of (fun i (r : (Int × Int × Int × Int)) => (∀ v ∈ four r, Fits v) ∧ ∃ b off, A = some ⟨b, off, none⟩ ∧ b < w.heap.size ∧ ∀ (j : Nat) (v : Int), (four r)[j]? = some v → w.cell? ⟨b, off + (i * 4 + j), none⟩ = some (.int .i64 v)) n (fun i him => by
    obtain ⟨xs, hxl, hxf, b, off, hA, hb, hc⟩ := hx i him
    match xs, hxl with
    | [x0, x1, x2, x3], _ => exact ⟨(x0, x1, x2, x3), hxf, b, off, hA, hb, hc⟩)
  refine ⟨l, ⟨hll.symm, fun i r hr => (hlp i r hr).2⟩, fun r hr v hv => ?_, hl, hm⟩
  obtain ⟨i, hi⟩ := List.mem_iff_getElem?.1 hr
  exact (hlp i r hi).1 v hv

/-- A struct of ints that came in by value. -/
theorem agg_struct {r : Reach} {b0 : Nat} {t : TypeId} {fs : Array Field} {v : Value} {d : DataW H} {p : List MemPlace} (he : P.underlying t = some (.struct fs)) (hone : oneCellFields P fs = true) (hC : P.cellsOf t = fs.size)
    (hI : ∀ f ∈ fs.toList, P.underlying f.type = some (.int .i64)) (hv : Value.okWide P w r b0 t v) (h : DataW.Trod enc P w base spare held t v d p) :
    ∃ xs : List Int, xs.length = fs.size ∧ v = .agg (xs.map (Value.int .i64)).toArray ∧ ∀ x ∈ xs, Fits x := by
  obtain ⟨cs, rfl, hsz⟩ := okWide_struct he hv
  obtain ⟨fuel, hf⟩ := h
  obtain ⟨xs, hl, hcs, hw⟩ := cells_ints he hone (fun j f hj => hI f (by simpa using Array.mem_of_getElem? hj)) (by simpa [Value.cells] using hsz.trans hC) hf
  exact ⟨xs, hl, by rw [← hcs]; simp [Value.cells], hw⟩

/-- An array of integers that came in by value. -/
theorem agg_array {r : Reach} {b0 : Nat} {t e : TypeId} {m : Nat} {k : IntKind} {v : Value} {d : DataW H} {p : List MemPlace} (ht : P.underlying t = some (.array m e)) (he : P.underlying e = some (.int k)) (hC : P.cellsOf t = m) (hE : P.cellsOf e = 1)
    (hv : Value.okWide P w r b0 t v) (h : DataW.Trod enc P w base spare held t v d p) :
    ∃ xs : List Int, xs.length = m ∧ v = .agg (xs.map (Value.int k)).toArray ∧ ∀ x ∈ xs, (Lit.int k x).wf = true := by
  simp only [Value.okWide, ht] at hv
  obtain ⟨cs, rfl, hsz, _⟩ := hv
  obtain ⟨fuel, hf⟩ := h
  obtain ⟨ys, q, _, _, _, hyl, hat⟩ := DataW.trod_array ht hf
  have hlen : cs.toList.length = m := by simpa using hsz.trans hC
  simp only [Value.cells, hE, Nat.mul_one] at hat
  obtain ⟨xs, hxl, hxp⟩ := list_of (fun j (x : Int) => cs.toList[j]? = some (.int k x) ∧ (Lit.int k x).wf = true) m (fun j hj => by
    have h1 := hat j hj
    rw [List.drop_eq_getElem_cons (by omega), List.getElem?_eq_getElem (by omega)] at h1
    obtain ⟨z, hz, _, hw⟩ := DataW.trod_int he h1
    simp only [List.take_succ_cons, List.take_zero, List.cons.injEq, and_true] at hz
    exact ⟨z, by rw [List.getElem?_eq_getElem (by omega), hz], hw⟩)
  refine ⟨xs, hxl, ?_, fun x hx => ?_⟩
  · have : cs.toList = xs.map (Value.int k) := List.ext_getElem? fun j => by
      rcases Nat.lt_or_ge j m with hj | hj
      · have hx : xs[j]? = some (xs[j]'(by omega)) := List.getElem?_eq_getElem (by omega)
        rw [(hxp j _ hx).1, List.getElem?_map, hx]; rfl
      · rw [List.getElem?_eq_none (by omega), List.getElem?_eq_none (by rw [List.length_map]; omega)]
    rw [← this]
  · obtain ⟨j, hj⟩ := List.mem_iff_getElem?.1 hx
    exact (hxp j x hj).2
end
end Go.Proofs.Ytgaonfeljijebaa
