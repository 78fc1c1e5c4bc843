/- Rows that are dealt out to five lists, plainly. -/
import Derived.Test.YtkjcnjfjecfciaaMergeI
namespace Go.Proofs.Ytkjcnjfjecfciaa
open Go.RowKit

/-- the rows of class k among the first i -/
def partTo (l : List Row) (f : Nat → Nat) (k : Nat) : Nat → List Row
  | 0 => []
  | i + 1 => if f i = k then partTo l f k i ++ (l[i]?).toList else partTo l f k i

theorem partTo_len (l : List Row) (f : Nat → Nat) (k : Nat) : ∀ i, (partTo l f k i).length ≤ i
  | 0 => Nat.le_refl _
  | i + 1 => by
    have := partTo_len l f k i
    rw [partTo]
    split
    · rw [List.length_append]
      have : (l[i]?).toList.length ≤ 1 := by cases l[i]? <;> simp
      omega
    · omega

theorem partTo_sub (l : List Row) (f : Nat → Nat) (k : Nat) : ∀ i, i ≤ l.length → (partTo l f k i).Sublist (l.take i)
  | 0, _ => by simp [partTo]
  | i + 1, hi => by
    have ih := partTo_sub l f k i (by omega)
    rw [partTo, List.take_succ_eq_append_getElem (by omega : i < l.length), List.getElem?_eq_getElem (by omega)]
    split
    · exact ih.append (List.Sublist.refl _)
    · exact ih.trans (List.sublist_append_left _ _)

theorem partTo_order (l : List Row) (f : Nat → Nat) (k : Nat) (h : orderB l = true) : orderB (partTo l f k l.length) = true := by
  rw [srt_iff] at h ⊢
  have := partTo_sub l f k l.length (Nat.le_refl _)
  rw [List.take_length] at this
  exact h.sublist this

theorem partTo_perm (l : List Row) (f : Nat → Nat) (hf : ∀ i, f i < 5) : ∀ i, i ≤ l.length →
    (partTo l f 0 i ++ (partTo l f 1 i ++ (partTo l f 2 i ++ (partTo l f 3 i ++ partTo l f 4 i)))).Perm (l.take i)
  | 0, _ => by simp [partTo]
  | i + 1, hi => by
    have ih := partTo_perm l f hf i (by omega)
    rw [List.take_succ_eq_append_getElem (by omega : i < l.length)]
    simp only [partTo]
    rw [List.getElem?_eq_getElem (by omega)]
    refine List.Perm.trans ?_ (ih.append (List.Perm.refl _))
    have h5 : f i = 0 ∨ f i = 1 ∨ f i = 2 ∨ f i = 3 ∨ f i = 4 := by have := hf i; omega
    rw [List.perm_iff_count]
    intro a
    rcases h5 with h | h | h | h | h <;> rw [h] <;> simp only [List.count_append, Option.toList_some] <;> simp only [show ¬ (0:Nat) = 1 by decide, show ¬ (0:Nat) = 2 by decide, show ¬ (0:Nat) = 3 by decide, show ¬ (0:Nat) = 4 by decide, Nat.reduceEqDiff, if_false, if_true, List.count_append] <;> omega

/-- which list row i goes to -/
def clsAt (ws : List Int) (i : Nat) : Nat :=
  match ws[i]? with
  | some x => (if Int.tmod x 5 < 0 then Int.tmod x 5 + 5 else Int.tmod x 5).toNat
  | none => 0
theorem clsAt_lt (ws : List Int) (i : Nat) : clsAt ws i < 5 := by
  unfold clsAt
  split
  · rename_i x _
    have h1 := Int.tmod_lt_of_pos x (b := 5) (by omega)
    have h2 : -5 < Int.tmod x 5 := Int.lt_tmod_of_pos x (b := 5) (by omega)
    split <;> omega
  · omega
end Go.Proofs.Ytkjcnjfjecfciaa
