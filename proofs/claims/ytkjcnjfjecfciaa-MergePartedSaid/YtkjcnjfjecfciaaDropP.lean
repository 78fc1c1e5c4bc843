/- What merge.Drop computes, plainly. No program is named here. -/
import Derived.Test.YtkjcnjfjecfciaaRowP
namespace Go.Proofs.Ytkjcnjfjecfciaa

/-- which rows of a key are needed, behind the first j marks -/
def needTo (run : List Row) (marks : List Int) : Nat → List Bool
  | 0 => (List.replicate run.length false).set 0 true
  | j + 1 => match seenIx run (marks.getD j 0) with
    | some k => (needTo run marks j).set k true
    | none => needTo run marks j
theorem needTo_len (run : List Row) (marks : List Int) : ∀ j, (needTo run marks j).length = run.length
  | 0 => by simp [needTo]
  | j + 1 => by
    rw [needTo]
    split
    · rw [List.length_set, needTo_len run marks j]
    · exact needTo_len run marks j
/-- the needed ones of the first i rows -/
def keepTo (run : List Row) (nd : List Bool) : Nat → List Row
  | 0 => []
  | i + 1 => match run[i]?, nd[i]? with
    | some r, some true => keepTo run nd i ++ [r]
    | _, _ => keepTo run nd i
theorem keepTo_len (run : List Row) (nd : List Bool) : ∀ i, (keepTo run nd i).length ≤ i
  | 0 => by simp [keepTo]
  | i + 1 => by
    have := keepTo_len run nd i
    rw [keepTo]
    split
    · simp; omega
    · omega
/-- without the deletes at the end -/
def popOf (l : List Row) : List Row := (l.reverse.dropWhile fun r => !(r.kind == 1)).reverse
theorem popOf_snoc_put (l : List Row) (r : Row) (h : r.kind = 1) : popOf (l ++ [r]) = l ++ [r] := by simp [popOf, h]
theorem popOf_snoc_del (l : List Row) (r : Row) (h : ¬ r.kind = 1) : popOf (l ++ [r]) = popOf l := by simp [popOf, h]
theorem popOf_nil : popOf [] = [] := rfl
theorem dropWhile_len {α : Type} (f : α → Bool) : ∀ l : List α, (l.dropWhile f).length ≤ l.length
  | [] => by simp
  | a :: l => by
    rw [List.dropWhile_cons]
    split
    · exact Nat.le_trans (dropWhile_len f l) (by simp)
    · exact Nat.le_refl _
theorem popOf_len (l : List Row) : (popOf l).length ≤ l.length := by
  unfold popOf; rw [List.length_reverse]
  exact Nat.le_trans (dropWhile_len _ _) (by simp)

def dropRun (run : List Row) (marks : List Int) (bottom : Bool) : List Row :=
  if bottom = true then popOf (keepTo run (needTo run marks marks.length) run.length) else keepTo run (needTo run marks marks.length) run.length
def dropTo (l : List Row) (marks : List Int) (bottom : Bool) : Nat → List Row
  | 0 => []
  | j + 1 => dropTo l marks bottom j ++ (match (runsIx l)[j]? with | some p => dropRun (runOf l p) marks bottom | none => [])
def dropOf (l : List Row) (marks : List Int) (bottom : Bool) : List Row := dropTo l marks bottom (runsIx l).length

theorem dropRun_len (run : List Row) (marks : List Int) (bottom : Bool) : (dropRun run marks bottom).length ≤ run.length := by
  have h1 := keepTo_len run (needTo run marks marks.length) run.length
  unfold dropRun
  split
  · exact Nat.le_trans (popOf_len _) h1
  · exact h1

theorem runOf_len' (l : List Row) (p : Nat × Nat) : (runOf l p).length ≤ p.2 - p.1 := by unfold runOf; simp; omega
def spanOf (rs : List (Nat × Nat)) : Nat := (rs.map fun p => p.2 - p.1).sum
theorem runsTo_span (l : List Row) : ∀ i, i ≤ l.length → spanOf (runsTo l i).1 = (runsTo l i).2
  | 0, _ => rfl
  | i + 1, hi => by
    have ih := runsTo_span l i (by omega)
    have hv := (runsTo_inv l i (by omega)).1
    rw [runsTo]
    split
    · simp only [spanOf, List.map_append, List.sum_append, List.map_cons, List.map_nil, List.sum_cons, List.sum_nil] at ih ⊢
      omega
    · exact ih
theorem spanOf_take (rs : List (Nat × Nat)) (j : Nat) : spanOf (rs.take j) ≤ spanOf rs := by
  have h : rs = rs.take j ++ rs.drop j := (List.take_append_drop j rs).symm
  conv => rhs; rw [h]
  simp only [spanOf, List.map_append, List.sum_append]; omega
theorem dropTo_span (l : List Row) (marks : List Int) (bottom : Bool) : ∀ j, j ≤ (runsIx l).length → (dropTo l marks bottom j).length ≤ spanOf ((runsIx l).take j)
  | 0, _ => by simp [dropTo]
  | j + 1, hj => by
    have ih := dropTo_span l marks bottom j (by omega)
    rw [dropTo, List.take_succ_eq_append_getElem (by omega), List.getElem?_eq_getElem (by omega)]
    have h1 := dropRun_len (runOf l (runsIx l)[j]) marks bottom
    have h2 := runOf_len' l (runsIx l)[j]
    simp only [List.length_append, spanOf, List.map_append, List.sum_append, List.map_cons, List.map_nil, List.sum_cons, List.sum_nil] at ih ⊢
    omega
theorem span_room (l : List Row) (j : Nat) (hj : j < (runsIx l).length) : spanOf ((runsIx l).take j) + ((runsIx l)[j].2 - (runsIx l)[j].1) ≤ l.length := by
  have h1 := spanOf_take (runsIx l) (j + 1)
  have h2 := runsTo_span l l.length (Nat.le_refl _)
  have h3 := (runsTo_inv l l.length (Nat.le_refl _)).1
  rw [List.take_succ_eq_append_getElem (by omega)] at h1
  have h4 : spanOf (runsIx l) = (runsTo l l.length).2 := h2
  simp only [spanOf, List.map_append, List.sum_append, List.map_cons, List.map_nil, List.sum_cons, List.sum_nil] at h1 h4 ⊢
  omega
end Go.Proofs.Ytkjcnjfjecfciaa
