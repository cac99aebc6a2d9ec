/-
  A slice of bytes that came in reads as a list of numbers below 256. Said of no program. No conditions.
-/
import Derived.Test.YtaanmikdhhdeiaaArmC
namespace Go.Proofs.Ytaanmikdhhdeiaa
open Go.ChangeShapes Go.WideShapes Go.ChangeAt Go.RowKit Go.Deep
set_option linter.unusedVariables false
variable {H : Type} {enc : TypeId × Value → H} {P : Program} {w : World} {base : Nat} {spare : Nat → Bool} {held : Bool}
theorem wf_byte {x : Int} (h : (Lit.int .u8 x).wf = true) : 0 ≤ x ∧ x ≤ 255 := by
  simp [Lit.wf, IntKind.min, IntKind.max, IntKind.signed, IntKind.bits] at h
  omega
theorem rd_bytes {t e : TypeId} {fuel : Nat} {A : Option Addr} {n c : Nat} {x : DataW H × List MemPlace} (ht : P.underlying t = some (.slice e)) (he : P.underlying e = some (.int .u8)) (hC : P.cellsOf e = 1)
    (h : DataW.trod enc P w base spare held fuel t [.slice A n c] = some x) :
    ∃ l : List Nat, RdK .u8 w A n l ∧ Small 256 l ∧ n ≤ c ∧ c ≤ maxLen := by
  rcases open_ints ht he hC h with ⟨hcs, _⟩ | ⟨a, len, cap, zs, hcs, _, hl, hm, hz, _, hcell, hwz⟩
  · simp only [List.cons.injEq, Value.slice.injEq, and_true] at hcs
    obtain ⟨rfl, rfl, rfl⟩ := hcs
    exact ⟨[], RdK.nil _ _ _, fun x hx => by simp at hx, Nat.le_refl _, Nat.zero_le _⟩
  · simp only [List.cons.injEq, Value.slice.injEq, and_true] at hcs
    obtain ⟨rfl, rfl, rfl⟩ := hcs
    have hzn : n ≤ zs.length := by rw [hz]; split <;> omega
    refine ⟨(zs.take n).map Int.toNat, ⟨by rw [List.length_map, List.length_take]; omega, fun i r hr => ?_⟩, fun r hr => ?_, hl, hm⟩
    · have hi : i < n := by
        rcases Nat.lt_or_ge i n with h1 | h1
        · exact h1
        · rw [List.getElem?_eq_none (by rw [List.length_map, List.length_take]; omega)] at hr; cases hr
      have hc := hcell i (by omega)
      obtain ⟨b, off, spot⟩ := a
      have hspot : spot = none := World.cell?_spot (a := ⟨b, off, spot⟩) (by simpa [Addr.add] using hcell 0 (by omega))
      subst hspot
      rw [List.getElem?_map, List.getElem?_take_of_lt hi] at hr
      have hzi : zs[i]? = some (zs[i]'(by omega)) := List.getElem?_eq_getElem (by omega)
      rw [hzi] at hr
      simp at hr
      have hb := wf_byte (hwz _ (List.getElem_mem (show i < zs.length by omega)))
      have hv : zs.getD i 0 = (r : Int) := by rw [List.getD_eq_getElem?_getD, hzi, Option.getD_some, ← hr]; omega
      have hc' : w.cell? ⟨b, off + i, none⟩ = some (.int .u8 (r : Int)) := by
        rw [hv] at hc
        unfold Addr.add at hc
        split at hc
        · rename_i h0; subst h0; simpa using hc
        · simpa using hc
      exact ⟨b, off, rfl, lt_of_cell hc', hc'⟩
    · obtain ⟨z, hz', rfl⟩ := List.mem_map.1 hr
      have hb := wf_byte (hwz z (List.mem_of_mem_take hz'))
      omega
end Go.Proofs.Ytaanmikdhhdeiaa
