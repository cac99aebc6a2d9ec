/-
  Bits and numbers, in plain words: the numbers of bits, so many each, and there and back. No program in sight.
-/
namespace Go.Proofs.Ytaanmikdhhdeiaa
set_option linter.unusedVariables false

/-- A list of bits, the highest first, as a number. -/
def val (l : List Nat) : Nat := l.foldl (fun n b => 2 * n + b) 0
theorem val_from (l : List Nat) : ∀ a, l.foldl (fun n b => 2 * n + b) a = a * 2 ^ l.length + val l := by
  induction l with
  | nil => intro a; simp [val]
  | cons b l ih =>
    intro a
    have e1 : (b :: l).foldl (fun n b => 2 * n + b) a = l.foldl (fun n b => 2 * n + b) (2 * a + b) := rfl
    have e2 : val (b :: l) = l.foldl (fun n b => 2 * n + b) (2 * 0 + b) := rfl
    rw [e1, e2, ih, ih, List.length_cons, Nat.pow_succ, Nat.add_mul, Nat.add_mul, Nat.mul_comm 2 a, Nat.mul_assoc, Nat.mul_comm 2 (2 ^ l.length)]
    omega
theorem val_nil : val [] = 0 := rfl
theorem val_app (a b : List Nat) : val (a ++ b) = val a * 2 ^ b.length + val b := by
  unfold val
  rw [List.foldl_append, val_from]
  rfl
theorem val_snoc (a : List Nat) (x : Nat) : val (a ++ [x]) = 2 * val a + x := by
  rw [val_app]
  simp [val, Nat.mul_comm]
theorem val_one (x : Nat) : val [x] = x := by simp [val]
/-- All are bits. -/
def AreBits (l : List Nat) : Prop := ∀ x ∈ l, x < 2
theorem AreBits.app {a b : List Nat} (ha : AreBits a) (hb : AreBits b) : AreBits (a ++ b) := fun x h => by
  rcases List.mem_append.1 h with h | h
  · exact ha x h
  · exact hb x h
theorem AreBits.take {l : List Nat} (h : AreBits l) (k : Nat) : AreBits (l.take k) := fun x hx => h x (List.mem_of_mem_take hx)
theorem AreBits.drop {l : List Nat} (h : AreBits l) (k : Nat) : AreBits (l.drop k) := fun x hx => h x (List.mem_of_mem_drop hx)
theorem AreBits.zeros (k : Nat) : AreBits (List.replicate k 0) := fun x hx => by
  rw [(List.mem_replicate.1 hx).2]; omega
theorem val_lt : ∀ (l : List Nat), AreBits l → val l < 2 ^ l.length := by
  intro l
  induction l with
  | nil => intro _; simp [val]
  | cons b l ih =>
    intro h
    have h1 := ih (fun x hx => h x (by simp [hx]))
    have h2 : b < 2 := h b (by simp)
    rw [show b :: l = [b] ++ l from rfl, val_app, val_one, List.length_append, Nat.pow_add]
    have h3 : b * 2 ^ l.length ≤ 1 * 2 ^ l.length := Nat.mul_le_mul_right _ (by omega)
    simp
    omega
theorem val_zeros (k : Nat) : val (List.replicate k 0) = 0 := by
  induction k with
  | zero => rfl
  | succ k ih =>
    rw [List.replicate_succ', val_snoc, ih]
theorem val_zero_iff : ∀ (l : List Nat), val l = 0 ↔ ∀ x ∈ l, x = 0 := by
  intro l
  induction l with
  | nil => simp [val]
  | cons b l ih =>
    rw [show b :: l = [b] ++ l from rfl, val_app, val_one]
    have : 0 < 2 ^ l.length := Nat.pow_pos (by omega)
    constructor
    · intro h x hx
      have hb : b * 2 ^ l.length = 0 := by omega
      have hb0 : b = 0 := by
        rcases Nat.mul_eq_zero.1 hb with h1 | h1
        · exact h1
        · omega
      rcases List.mem_append.1 hx with h1 | h1
      · rw [List.mem_singleton.1 h1]; exact hb0
      · exact ih.1 (by omega) x h1
    · intro h
      have hb0 : b = 0 := h b (by simp)
      have hl : val l = 0 := ih.2 (fun x hx => h x (by simp [hx]))
      rw [hb0, hl]; simp
/-- A number's lowest bits, so many, the highest first. -/
def bitsOf : Nat → Nat → List Nat
  | 0, _ => []
  | m + 1, x => bitsOf m (x / 2) ++ [x % 2]
theorem bitsOf_len : ∀ (m x : Nat), (bitsOf m x).length = m
  | 0, _ => rfl
  | m + 1, x => by rw [bitsOf, List.length_append, bitsOf_len m]; rfl
theorem bitsOf_are : ∀ (m x : Nat), AreBits (bitsOf m x)
  | 0, _ => fun x h => by simp [bitsOf] at h
  | m + 1, x => (bitsOf_are m (x / 2)).app (fun y h => by rw [List.mem_singleton.1 h]; omega)
theorem val_bitsOf : ∀ (m x : Nat), val (bitsOf m x) = x % 2 ^ m
  | 0, x => by simp [bitsOf, val, Nat.mod_one]
  | m + 1, x => by
    rw [bitsOf, val_snoc, val_bitsOf m, Nat.pow_succ, Nat.mul_comm (2 ^ m) 2, Nat.mod_mul]
    omega
/-- The bits of a list are those of its value. -/
theorem bitsOf_val : ∀ (k : Nat) (l : List Nat), l.length = k → AreBits l → bitsOf k (val l) = l := by
  intro k
  induction k with
  | zero => intro l h _; rw [List.eq_nil_of_length_eq_zero h]; rfl
  | succ k ih =>
    intro l h hb
    have hne : l ≠ [] := fun e => by rw [e] at h; cases h
    obtain ⟨a, x, rfl⟩ : ∃ a x, l = a ++ [x] := ⟨l.dropLast, l.getLast hne, (List.dropLast_concat_getLast hne).symm⟩
    rw [List.length_append, List.length_singleton] at h
    have hx : x < 2 := hb x (by simp)
    have ha := ih a (by omega) (fun y hy => hb y (by simp [hy]))
    rw [bitsOf, val_snoc, show (2 * val a + x) / 2 = val a by omega, show (2 * val a + x) % 2 = x by omega, ha]
/-- The bits of numbers, so many each. -/
def bitsL (m : Nat) (l : List Nat) : List Nat := l.flatMap (bitsOf m)
theorem bitsL_nil (m : Nat) : bitsL m [] = [] := rfl
theorem bitsL_snoc (m : Nat) (l : List Nat) (x : Nat) : bitsL m (l ++ [x]) = bitsL m l ++ bitsOf m x := by simp [bitsL]
theorem bitsL_app (m : Nat) (a b : List Nat) : bitsL m (a ++ b) = bitsL m a ++ bitsL m b := by simp [bitsL]
theorem bitsL_len (m : Nat) : ∀ l : List Nat, (bitsL m l).length = m * l.length
  | [] => by simp [bitsL]
  | a :: l => by
    rw [show bitsL m (a :: l) = bitsOf m a ++ bitsL m l from rfl, List.length_append, bitsOf_len, bitsL_len m l, List.length_cons, Nat.mul_succ]; omega
theorem bitsL_are (m : Nat) : ∀ l : List Nat, AreBits (bitsL m l)
  | [] => fun x h => by simp [bitsL] at h
  | a :: l => (bitsOf_are m a).app (bitsL_are m l)
/-- Number j of bits, so many each. -/
def numAt (m : Nat) (l : List Nat) (j : Nat) : Nat := val ((l.drop (m * j)).take m)
/-- The first k numbers of bits. -/
def numsTo (m : Nat) (l : List Nat) (k : Nat) : List Nat := (List.range k).map (numAt m l)
/-- The numbers of bits, so many each; what is left over is let fall. -/
def numsOf (m : Nat) (l : List Nat) : List Nat := numsTo m l (l.length / m)
theorem numsTo_zero (m : Nat) (l : List Nat) : numsTo m l 0 = [] := rfl
theorem numsTo_succ (m : Nat) (l : List Nat) (k : Nat) : numsTo m l (k + 1) = numsTo m l k ++ [numAt m l k] := by
  simp [numsTo, List.range_succ]
theorem numsTo_len (m : Nat) (l : List Nat) (k : Nat) : (numsTo m l k).length = k := by simp [numsTo]
theorem numAt_lt {m : Nat} {l : List Nat} (h : AreBits l) (j : Nat) : numAt m l j < 2 ^ m := by
  have h1 := val_lt _ ((h.drop (m * j)).take m)
  have h2 : ((l.drop (m * j)).take m).length ≤ m := List.length_take_le _ _
  have h3 : 2 ^ ((l.drop (m * j)).take m).length ≤ 2 ^ m := Nat.pow_le_pow_right (by omega) h2
  unfold numAt
  omega
theorem numAt_app {m : Nat} {l r : List Nat} {j : Nat} (h : m * (j + 1) ≤ l.length) : numAt m (l ++ r) j = numAt m l j := by
  have h1 : m * j + m ≤ l.length := by rw [Nat.mul_succ] at h; exact h
  unfold numAt
  rw [List.drop_append_of_le_length (by omega), List.take_append_of_le_length (by rw [List.length_drop]; omega)]
theorem numsTo_app {m : Nat} {l r : List Nat} : ∀ {k : Nat}, m * k ≤ l.length → numsTo m (l ++ r) k = numsTo m l k
  | 0, _ => rfl
  | k + 1, h => by
    rw [numsTo_succ, numsTo_succ, numAt_app h, numsTo_app (by rw [Nat.mul_succ] at h; omega)]
/-- What is left over. -/
def restOf (m : Nat) (l : List Nat) : List Nat := l.drop (m * (l.length / m))
theorem restOf_len (m : Nat) (l : List Nat) : (restOf m l).length = l.length % m := by
  unfold restOf
  rw [List.length_drop]
  have := Nat.div_add_mod l.length m
  omega
theorem restOf_are {m : Nat} {l : List Nat} (h : AreBits l) : AreBits (restOf m l) := h.drop _
/-- Out of the bits from number j on: number k, which lies further on. -/
theorem num_out {m : Nat} {l : List Nat} (hb : AreBits l) {j k n : Nat} (hjk : j ≤ k) (hn : n = l.length - m * (k + 1)) (hk : m * (k + 1) ≤ l.length) :
    val (l.drop (m * j)) / 2 ^ n % 2 ^ m = numAt m l k := by
  have e1 : l.drop (m * j) = ((l.drop (m * j)).take (m * k - m * j)) ++ ((l.drop (m * k)).take m ++ l.drop (m * (k + 1))) := by
    have hh : l.drop (m * k) = (l.drop (m * j)).drop (m * k - m * j) := by
      rw [List.drop_drop]
      congr 1
      have := Nat.mul_le_mul_left m hjk
      omega
    have h2 : l.drop (m * (k + 1)) = (l.drop (m * k)).drop m := by
      rw [List.drop_drop, Nat.mul_succ]
    rw [h2, List.take_append_drop, hh, List.take_append_drop]
  have l2 : (l.drop (m * (k + 1))).length = n := by rw [List.length_drop]; omega
  have l3 : ((l.drop (m * k)).take m).length = m := by
    rw [List.length_take, List.length_drop]
    rw [Nat.mul_succ] at hk
    omega
  have b2 := val_lt _ (hb.drop (m * (k + 1)))
  have b3 := val_lt _ ((hb.drop (m * k)).take m)
  rw [l2] at b2
  rw [l3] at b3
  rw [e1, val_app, val_app, List.length_append, l2, l3, Nat.pow_add]
  have hp : 0 < 2 ^ n := Nat.pow_pos (by omega)
  have e3 : val ((l.drop (m * j)).take (m * k - m * j)) * (2 ^ m * 2 ^ n) + (val ((l.drop (m * k)).take m) * 2 ^ n + val (l.drop (m * (k + 1)))) = (val ((l.drop (m * j)).take (m * k - m * j)) * 2 ^ m + val ((l.drop (m * k)).take m)) * 2 ^ n + val (l.drop (m * (k + 1))) := by
    rw [Nat.add_mul, Nat.mul_assoc, Nat.add_assoc]
  rw [e3, Nat.mul_comm _ (2 ^ n), Nat.mul_add_div hp, Nat.div_eq_of_lt b2, Nat.add_zero, Nat.mul_comm _ (2 ^ m), Nat.mul_add_mod, Nat.mod_eq_of_lt b3]
  rfl
/-- What is left of the bits from number j on, behind number k. -/
theorem rest_out {m : Nat} {l : List Nat} (hb : AreBits l) {j k : Nat} (hjk : j ≤ k) (hk : m * k ≤ l.length) :
    val (l.drop (m * j)) % 2 ^ (l.length - m * k) = val (l.drop (m * k)) := by
  have e1 : l.drop (m * j) = ((l.drop (m * j)).take (m * k - m * j)) ++ l.drop (m * k) := by
    have hh : l.drop (m * k) = (l.drop (m * j)).drop (m * k - m * j) := by
      rw [List.drop_drop]
      congr 1
      have := Nat.mul_le_mul_left m hjk
      omega
    rw [hh, List.take_append_drop]
  have l2 : (l.drop (m * k)).length = l.length - m * k := by rw [List.length_drop]
  have b2 := val_lt _ (hb.drop (m * k))
  rw [l2] at b2
  rw [e1, val_app, l2, Nat.mul_comm, Nat.mul_add_mod, Nat.mod_eq_of_lt b2]
/-- Bits, with zeros behind them, till they are whole numbers. -/
def padOf (m : Nat) (l : List Nat) : List Nat := l ++ List.replicate ((m - l.length % m) % m) 0
theorem padOf_whole {m : Nat} {l : List Nat} (h : l.length % m = 0) : padOf m l = l := by
  unfold padOf
  rw [h, Nat.sub_zero, Nat.mod_self, List.replicate_zero, List.append_nil]
theorem padOf_len {m : Nat} (hm : 0 < m) (l : List Nat) : (padOf m l).length % m = 0 := by
  unfold padOf
  rw [List.length_append, List.length_replicate]
  have h1 : l.length % m < m := Nat.mod_lt _ hm
  rcases Nat.eq_zero_or_pos (l.length % m) with h | h
  · rw [h, Nat.sub_zero, Nat.mod_self, Nat.add_zero, h]
  · rw [Nat.mod_eq_of_lt (show m - l.length % m < m by omega), Nat.add_mod, Nat.mod_eq_of_lt (show m - l.length % m < m by omega), show l.length % m + (m - l.length % m) = m by omega, Nat.mod_self]
theorem padOf_are {m : Nat} {l : List Nat} (h : AreBits l) : AreBits (padOf m l) := h.app (AreBits.zeros _)
/-- The fives of bytes. -/
def fivesOf (b : List Nat) : List Nat := numsOf 5 (padOf 5 (bitsL 8 b))
/-- Of whole numbers' bits the numbers, and of whole bits the bits. -/
theorem bitsL_numsTo {m : Nat} (hm : 0 < m) {l : List Nat} (hb : AreBits l) : ∀ k, m * k ≤ l.length → bitsL m (numsTo m l k) = l.take (m * k)
  | 0, _ => by simp [numsTo_zero, bitsL_nil]
  | k + 1, h => by
    have h1 : m * k + m ≤ l.length := by rw [Nat.mul_succ] at h; exact h
    rw [numsTo_succ, bitsL_snoc, bitsL_numsTo hm hb k (by omega), numAt, bitsOf_val m _ (by rw [List.length_take, List.length_drop]; omega) ((hb.drop _).take _), Nat.mul_succ, List.take_add]
theorem bitsL_numsOf {m : Nat} (hm : 0 < m) {l : List Nat} (hb : AreBits l) (h : l.length % m = 0) : bitsL m (numsOf m l) = l := by
  have h1 := Nat.div_add_mod l.length m
  unfold numsOf
  rw [bitsL_numsTo hm hb _ (by omega), show m * (l.length / m) = l.length by omega, List.take_length]
theorem numAt_bitsL {m : Nat} {l : List Nat} {j x : Nat} (h : l[j]? = some x) (hx : x < 2 ^ m) : numAt m (bitsL m l) j = x := by
  have hj := (List.getElem?_eq_some_iff.1 h).1
  have e : l = l.take j ++ (x :: l.drop (j + 1)) := by
    have h1 : l.drop j = x :: l.drop (j + 1) := by
      rw [List.drop_eq_getElem_cons hj, (List.getElem?_eq_some_iff.1 h).2]
    rw [← h1, List.take_append_drop]
  have hl : (bitsL m (l.take j)).length = m * j := by rw [bitsL_len, List.length_take, Nat.min_eq_left (by omega)]
  unfold numAt
  rw [e, bitsL_app, List.drop_append_of_le_length (by omega), List.drop_eq_nil_of_le (by omega), List.nil_append, show bitsL m (x :: l.drop (j + 1)) = bitsOf m x ++ bitsL m (l.drop (j + 1)) from rfl,
    List.take_append_of_le_length (by rw [bitsOf_len]; omega), List.take_of_length_le (by rw [bitsOf_len]; omega), val_bitsOf, Nat.mod_eq_of_lt hx]
theorem numsTo_bitsL {m : Nat} {l : List Nat} (h : ∀ x ∈ l, x < 2 ^ m) : numsTo m (bitsL m l) l.length = l := by
  refine List.ext_getElem? fun j => ?_
  rcases Nat.lt_or_ge j l.length with hj | hj
  · have e : l[j]? = some (l[j]'hj) := List.getElem?_eq_getElem hj
    unfold numsTo
    rw [List.getElem?_map, List.getElem?_range hj, e, Option.map_some, numAt_bitsL e (h _ (List.getElem_mem hj))]
  · rw [List.getElem?_eq_none (by rw [numsTo_len]; omega), List.getElem?_eq_none hj]
/-- The bytes of fives: there and back. -/
theorem fives_back {b : List Nat} (h : ∀ x ∈ b, x < 256) : numsOf 8 (bitsL 5 (fivesOf b)) = b ∧ restOf 8 (bitsL 5 (fivesOf b)) = List.replicate ((5 - 8 * b.length % 5) % 5) 0 := by
  have e : bitsL 5 (fivesOf b) = padOf 5 (bitsL 8 b) := bitsL_numsOf (by omega) (padOf_are (bitsL_are _ _)) (padOf_len (by omega) _)
  have hl : (bitsL 8 b).length = 8 * b.length := bitsL_len _ _
  have h4 : (5 - 8 * b.length % 5) % 5 < 5 := Nat.mod_lt _ (by omega)
  have hd : (padOf 5 (bitsL 8 b)).length / 8 = b.length := by
    unfold padOf
    rw [List.length_append, List.length_replicate, hl]
    omega
  refine ⟨?_, ?_⟩
  · rw [e, numsOf, hd, padOf, numsTo_app (by omega), numsTo_bitsL h]
  · rw [e, restOf, hd, padOf, List.drop_append_of_le_length (by omega), List.drop_eq_nil_of_le (by omega), List.nil_append, hl]
theorem fivesOf_lt (b : List Nat) : ∀ x ∈ fivesOf b, x < 32 := fun x hx => by
  unfold fivesOf numsOf numsTo at hx
  obtain ⟨j, _, rfl⟩ := List.mem_map.1 hx
  exact numAt_lt (padOf_are (bitsL_are _ _)) j
theorem fivesOf_len (b : List Nat) : (fivesOf b).length = (8 * b.length + 4) / 5 := by
  unfold fivesOf numsOf
  rw [numsTo_len]
  unfold padOf
  rw [List.length_append, List.length_replicate, bitsL_len]
  omega
end Go.Proofs.Ytaanmikdhhdeiaa
