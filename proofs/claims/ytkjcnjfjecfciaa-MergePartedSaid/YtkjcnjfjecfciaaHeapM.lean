/- The walks of merge.heads' Len, Swap, Push and Pop. -/
import Derived.Test.YtkjcnjfjecfciaaHeapW
namespace Go.Proofs.Ytkjcnjfjecfciaa
open Go.RowKit

/-- Block g, of m cells of element type e, begins with xs. -/
def RowM (w : World) (g : Nat) (e : TypeId) (m : Nat) (xs : List Value) : Prop :=
  ∃ cur : Array Value, w.heap[g]? = some (.cells cur e (0, 0)) ∧ cur.size = m ∧ cur.toList.take xs.length = xs ∧ xs.length ≤ m

theorem RowM.lt {w : World} {g m : Nat} {e : TypeId} {xs : List Value} (h : RowM w g e m xs) : g < w.heap.size := by
  obtain ⟨cur, h, _⟩ := h
  exact (Array.getElem?_eq_some_iff.1 h).1
theorem RowM.cell {w : World} {g m : Nat} {e : TypeId} {xs : List Value} (h : RowM w g e m xs) {j : Nat} {u : Value} (hu : xs[j]? = some u) : w.cell? ⟨g, j, none⟩ = some u := by
  obtain ⟨cur, h, _, ht, _⟩ := h
  rw [cell_of_row w g j cur e (0, 0) h]
  rw [← ht, List.getElem?_take] at hu
  split at hu
  · simpa using hu
  · cases hu
theorem RowM.frozen {w : World} {g m : Nat} {e : TypeId} {xs : List Value} (h : RowM w g e m xs) (j : Nat) : w.frozen? ⟨g, j, none⟩ = false := by
  obtain ⟨cur, h, _⟩ := h
  simp [World.frozen?, h]
theorem RowM.kp {F : Nat → Prop} {w w' : World} {g m : Nat} {e : TypeId} {xs : List Value} (h : RowM w g e m xs) (hk : Kp F w w') (hg : ¬ F g) : RowM w' g e m xs := by
  have hlt := h.lt
  obtain ⟨cur, h, r⟩ := h
  exact ⟨cur, (hk.block g hlt hg).trans h, r⟩
theorem RowM.below {w w' : World} {g m : Nat} {e : TypeId} {xs : List Value} (h : RowM w g e m xs) (hk : Below w.heap.size w w') : RowM w' g e m xs :=
  h.kp (F := NoB) (Kp.ofBelow hk) (fun h => h)
theorem RowM.set {w : World} {g m : Nat} {e : TypeId} {xs : List Value} (h : RowM w g e m xs) (j : Nat) (u : Value) : RowM (w.setCell ⟨g, j, none⟩ u) g e m (xs.set j u) := by
  obtain ⟨cur, h, hm, ht, hl⟩ := h
  refine ⟨cur.setIfInBounds j u, heap_setCell_same w g j cur e u h, by simpa using hm, ?_, by simpa using hl⟩
  rw [List.length_set]
  rw [Array.toList_setIfInBounds]
  conv => rhs; rw [← ht]
  rw [List.take_set]
theorem RowM.drew {w : World} {g m : Nat} {e : TypeId} {xs : List Value} (h : RowM w g e m xs) : RowM w.drew g e m xs := h
theorem RowM.ofOwn {w : World} {base n c size : Nat} {e : TypeId} {g : Nat} {xs : List Value} (h : w.ownsRow base e size (.slice (some ⟨g, 0, none⟩) n c) n xs) : RowM w g e (c * size) xs ∧ base ≤ g ∧ n ≤ c ∧ c ≤ maxLen ∧ xs.length = n * size := by
  rcases h.2 with ⟨h0, _⟩ | ⟨g', cap, cur, hv, hb, hh, hc, hm, hs, ht⟩
  · cases h0
  · injection hv with h1 _ h2
    injection h1 with h1
    injection h1 with h1
    subst h1 h2
    refine ⟨⟨cur, hh, hs, by rw [h.1]; exact ht, ?_⟩, hb, hc, hm, h.1⟩
    rw [h.1]; exact Nat.mul_le_mul_right _ hc
theorem RowM.toOwn {w : World} {base n c size : Nat} {e : TypeId} {g : Nat} {xs : List Value} (h : RowM w g e (c * size) xs) (hb : base ≤ g) (hn : n ≤ c) (hm : c ≤ maxLen) (hl : xs.length = n * size) : w.ownsRow base e size (.slice (some ⟨g, 0, none⟩) n c) n xs := by
  obtain ⟨cur, h, hs, ht, _⟩ := h
  exact ⟨hl, .inr ⟨g, c, cur, rfl, hb, h, hn, hm, hs, by rw [← hl]; exact ht⟩⟩

theorem flat2_set : ∀ (l : List (List Value)) (k : Nat) (u v : Value), (∀ x ∈ l, x.length = 2) → k < l.length → ((l.flatten).set (k * 2) u).set (k * 2 + 1) v = (l.set k [u, v]).flatten
  | [], k, _, _, _, h => by simp at h
  | [a, b] :: l, 0, u, v, _, _ => by simp
  | x :: l, k + 1, u, v, hx, h => by
    have h2 := hx x (by simp)
    match x, h2 with
    | [a, b], _ =>
      have ih := flat2_set l k u v (fun y hy => hx y (by simp [hy])) (by simpa using h)
      rw [List.flatten_cons, List.set_cons_succ, List.flatten_cons, ← ih]
      rw [show (k + 1) * 2 = k * 2 + 1 + 1 from by omega]
      simp
  | [] :: l, 0, _, _, hx, _ => by have := hx [] (by simp); simp at this
  | [a] :: l, 0, _, _, hx, _ => by have := hx [a] (by simp); simp at this
  | (a :: b :: c :: x) :: l, 0, _, _, hx, _ => by have := hx (a :: b :: c :: x) (by simp); simp at this

theorem flat_len2 : ∀ (l : List Hd), ((l.map Hd.cells).flatten).length = l.length * 2
  | [] => rfl
  | h :: l => by
    rw [List.map_cons, List.flatten_cons, List.length_append, flat_len2 l, List.length_cons]
    show 2 + l.length * 2 = (l.length + 1) * 2
    omega

/-- the heads behind the box bx: their slice at block g, of m cells -/
structure HBox (w : World) (bx g c m N : Nat) (tl : List Value) (B : Nat) (hs : List Hd) : Prop where
  box : Blk w bx 44 #[.slice (some ⟨g, 0, none⟩) N c]
  len : hs.length ≤ N
  cap : N ≤ c
  big : N ≤ 1125899906842624
  cells : N * 2 ≤ m
  row : RowM w g 48 m ((hs.map Hd.cells).flatten ++ tl)
  rows : ∀ h ∈ hs, Rd w 4 h.A (h.rows.map Row.cells)
  low : ∀ h ∈ hs, ∀ a, h.A = some a → a.block < B
  bxB : B ≤ bx
  gB : B ≤ g

theorem RowM.front {w : World} {g m : Nat} {e : TypeId} {xs ys : List Value} (h : RowM w g e m (xs ++ ys)) : RowM w g e m xs := by
  obtain ⟨cur, h, hm, ht, hl⟩ := h
  refine ⟨cur, h, hm, ?_, by simp at hl; omega⟩
  have := congrArg (List.take xs.length) ht
  rw [List.take_take, List.length_append, Nat.min_eq_left (by omega)] at this
  simpa using this

theorem RowM.rd {w : World} {g m : Nat} {e : TypeId} {hs : List Hd} (h : RowM w g e m (hs.map Hd.cells).flatten) : Rd w 2 (some ⟨g, 0, none⟩) (hs.map Hd.cells) := by
  intro k x hx
  rw [List.getElem?_map] at hx
  cases hk : hs[k]? with
  | none => rw [hk] at hx; cases hx
  | some d =>
    rw [hk] at hx
    injection hx with hx
    subst hx
    refine ⟨rfl, g, 0, rfl, fun j u hu => ?_⟩
    have hkl := (List.getElem?_eq_some_iff.1 hk).1
    have hsplit : hs = hs.take k ++ d :: hs.drop (k + 1) := by
      have := (List.getElem?_eq_some_iff.1 hk).2
      rw [← this, List.getElem_cons_drop, List.take_append_drop]
    have hf : ((hs.map Hd.cells).flatten)[k * 2 + j]? = some u := by
      conv => lhs; rw [hsplit]
      rw [List.map_append, List.flatten_append, List.getElem?_append_right (by rw [flat_len2, List.length_take]; omega), flat_len2, List.length_take, Nat.min_eq_left (by omega), List.map_cons, List.flatten_cons]
      rw [show k * 2 + j - k * 2 = j from by omega, List.getElem?_append_left (by exact (List.getElem?_eq_some_iff.1 hu).1)]
      exact hu
    have := h.cell hf
    rwa [show 0 + k * 2 + j = k * 2 + j from by omega]

theorem HBox.heads {w : World} {bx g c m N : Nat} {tl : List Value} {B : Nat} {hs : List Hd} (h : HBox w bx g c m N tl B hs) : Heads w (some ⟨g, 0, none⟩) hs := ⟨h.row.front.rd, h.rows⟩

theorem HBox.ne {w : World} {bx g c m N : Nat} {tl : List Value} {B : Nat} {hs : List Hd} (h : HBox w bx g c m N tl B hs) : bx ≠ g := by
  obtain ⟨cur, hg, _⟩ := h.row
  exact h.box.ne_ (t := 44) (t' := 48) hg (by decide)

/-- what a call on the heads may turn -/
def fpH (bx g : Nat) : Nat → Prop := fun b => b = bx ∨ b = g

theorem HBox.below {w w' : World} {bx g c m N : Nat} {tl : List Value} {B : Nat} {hs : List Hd} (h : HBox w bx g c m N tl B hs) (hB : Below w.heap.size w w') : HBox w' bx g c m N tl B hs :=
  ⟨h.box.below hB, h.len, h.cap, h.big, h.cells, h.row.below hB, fun d hd => (h.rows d hd).below hB, h.low, h.bxB, h.gB⟩

theorem len_any (A : Option Addr) (n c : Nat) (w : World) :
    Calls Try.prog 37 #[.slice A n c] w fun e w' => e = .returned (.int .i64 n) ∧ w' = w := by
  go_enter Try.func37, Try.ntmps37
  go_wp2
  go_ret
  exact ⟨rfl, rfl⟩

def swapL (hs : List Hd) (i k : Nat) : List Hd :=
  match hs[i]?, hs[k]? with
  | some a, some b => (hs.set i b).set k a
  | _, _ => hs

theorem swapL_eq (hs : List Hd) {i k : Nat} (hi : i < hs.length) (hk : k < hs.length) : swapL hs i k = (hs.set i hs[k]).set k hs[i] := by
  unfold swapL; rw [List.getElem?_eq_getElem hi, List.getElem?_eq_getElem hk]
theorem swapL_len (hs : List Hd) (i k : Nat) : (swapL hs i k).length = hs.length := by
  unfold swapL; split <;> simp
theorem swapL_mem (hs : List Hd) (i k : Nat) : ∀ h ∈ swapL hs i k, h ∈ hs := by
  intro h hm
  unfold swapL at hm
  split at hm
  · rename_i a b ha hb
    rcases List.mem_or_eq_of_mem_set hm with hm | rfl
    · rcases List.mem_or_eq_of_mem_set hm with hm | rfl
      · exact hm
      · exact List.mem_of_getElem? hb
    · exact List.mem_of_getElem? ha
  · exact hm
theorem swapL_cells (hs : List Hd) {i k : Nat} (hi : i < hs.length) (hk : k < hs.length) :
    (((((hs.map Hd.cells).flatten.set (i * 2) (.slice hs[k].A (hs[k].rest.length + 1) hs[k].c)).set (i * 2 + 1) (.int .i64 hs[k].ix)).set (k * 2) (.slice hs[i].A (hs[i].rest.length + 1) hs[i].c)).set (k * 2 + 1) (.int .i64 hs[i].ix)) = ((swapL hs i k).map Hd.cells).flatten := by
  rw [flat2_set _ _ _ _ (by intro x hx; obtain ⟨d, _, rfl⟩ := List.mem_map.1 hx; rfl) (by simpa using hi)]
  rw [flat2_set _ _ _ _ (by
    intro x hx
    rcases List.mem_or_eq_of_mem_set hx with hx | rfl
    · obtain ⟨d, _, rfl⟩ := List.mem_map.1 hx; rfl
    · rfl) (by simpa using hk)]
  rw [swapL_eq hs hi hk, List.map_set, List.map_set]
  rfl

set_option maxRecDepth 100000 in
set_option maxHeartbeats 1000000 in
theorem swap_raw (g c m N : Nat) (xs : List Value) (i k : Nat) (hi : i < N) (hk : k < N) (hn : N ≤ maxLen) (w : World) (R : RowM w g 48 m xs)
    (P1 : Option Addr) (n1 c1 : Nat) (x1 : Int) (P2 : Option Addr) (n2 c2 : Nat) (x2 : Int)
    (h1 : xs[i * 2]? = some (.slice P1 n1 c1)) (h2 : xs[i * 2 + 1]? = some (.int .i64 x1)) (h3 : xs[k * 2]? = some (.slice P2 n2 c2)) (h4 : xs[k * 2 + 1]? = some (.int .i64 x2)) :
    Calls Try.prog 39 #[.slice (some ⟨g, 0, none⟩) N c, .int .i64 i, .int .i64 k] w fun e w' => e = .returned (.tuple #[]) ∧
      RowM w' g 48 m ((((xs.set (i * 2) (.slice P2 n2 c2)).set (i * 2 + 1) (.int .i64 x2)).set (k * 2) (.slice P1 n1 c1)).set (k * 2 + 1) (.int .i64 x1)) ∧ Kp (fun b => b = g) w w' := by
  unfold maxLen at hn
  have y1 := R.cell h1
  have y2 := R.cell h2
  have y3 := R.cell h3
  have y4 := R.cell h4
  have hf : ∀ j, w.frozen? ⟨g, j, none⟩ = false := fun j => R.frozen j
  have ha := R.lt
  have R1 := (R.set (i * 2) (.slice P2 n2 c2)).set (i * 2 + 1) (.int .i64 x2)
  have R2 := R1.set (k * 2) (.slice P1 n1 c1)
  have R3 := R2.set (k * 2 + 1) (.int .i64 x1)
  have l3 := (List.getElem?_eq_some_iff.1 h3).1
  have l4 := (List.getElem?_eq_some_iff.1 h4).1
  obtain ⟨z1, hz1⟩ : ∃ z, ((w.setCell ⟨g, i * 2, none⟩ (.slice P2 n2 c2)).setCell ⟨g, i * 2 + 1, none⟩ (.int .i64 x2)).cell? ⟨g, k * 2, none⟩ = some z :=
    ⟨_, R1.cell (List.getElem?_eq_getElem (by simpa only [List.length_set] using l3))⟩
  obtain ⟨z2, hz2⟩ : ∃ z, (((w.setCell ⟨g, i * 2, none⟩ (.slice P2 n2 c2)).setCell ⟨g, i * 2 + 1, none⟩ (.int .i64 x2)).setCell ⟨g, k * 2, none⟩ (.slice P1 n1 c1)).cell? ⟨g, k * 2 + 1, none⟩ = some z :=
    ⟨_, R2.cell (List.getElem?_eq_getElem (by simpa only [List.length_set] using l4))⟩
  have HR3 := Lib.hid R3
  clear R1 R2 R3 R h1 h2 h3 h4 l3 l4
  have hi1 : (0 : Int) ≤ (i : Int) := by omega
  have hi2 : (i : Int) < (N : Int) := by omega
  have hk1 : (0 : Int) ≤ (k : Int) := by omega
  have hk2 : (k : Int) < (N : Int) := by omega
  go_enter Try.func39, Try.ntmps39
  go_wp2
  refine wp_region_canon [0, 1, 2, 3, 4, 5, 6, 7, 8, 9, 10, 11, 12] [13, 14, 15] mixed (by kernel_rfl) ?_
  simp only [pickOps, List.map_cons, List.map_nil, List.getD_cons_zero, List.getD_cons_succ]
  repeat still_step
  refine wpStill_nil ?_
  go_wp2
  refine NP.normal ?_
  go_wp2
  go_end0
  have hK : Kp (fun b => b = g) w ((((w.setCell ⟨g, i * 2, none⟩ (.slice P2 n2 c2)).setCell ⟨g, i * 2 + 1, none⟩ (.int .i64 x2)).setCell ⟨g, k * 2, none⟩ (.slice P1 n1 c1)).setCell ⟨g, k * 2 + 1, none⟩ (.int .i64 x1)).drew :=
    (((((Kp.refl (fun b => b = g) w).setCell (.inr rfl) _).setCell (.inr rfl) _).setCell (.inr rfl) _).setCell (.inr rfl) _).drew
  exact ⟨rfl, HR3.out, hK⟩

theorem flat2_at : ∀ (l : List Hd) (k : Nat) (h : k < l.length), ((l.map Hd.cells).flatten)[k * 2]? = some (.slice l[k].A (l[k].rest.length + 1) l[k].c) ∧ ((l.map Hd.cells).flatten)[k * 2 + 1]? = some (.int .i64 l[k].ix)
  | [], k, h => by simp at h
  | x :: l, 0, _ => ⟨rfl, rfl⟩
  | x :: l, k + 1, h => by
    obtain ⟨h1, h2⟩ := flat2_at l k (by simpa using h)
    rw [List.map_cons, List.flatten_cons, show (k + 1) * 2 = k * 2 + 1 + 1 from by omega]
    exact ⟨h1, h2⟩

theorem swap_any (bx g c m N : Nat) (tl : List Value) (B : Nat) (hs : List Hd) (i k : Nat) (hi : i < hs.length) (hk : k < hs.length) (w : World) (hb : HBox w bx g c m N tl B hs) :
    Calls Try.prog 39 #[.slice (some ⟨g, 0, none⟩) N c, .int .i64 i, .int .i64 k] w fun e w' => e = .returned (.tuple #[]) ∧ HBox w' bx g c m N tl B (swapL hs i k) ∧ Kp (fpH bx g) w w' := by
  have hlen := hb.len
  have hbig := hb.big
  obtain ⟨h1, h2⟩ := flat2_at hs i hi
  obtain ⟨h3, h4⟩ := flat2_at hs k hk
  have hfl := flat_len2 hs
  have fr : ∀ {j : Nat} {u : Value}, ((hs.map Hd.cells).flatten)[j]? = some u → ((hs.map Hd.cells).flatten ++ tl)[j]? = some u := fun {j u} h => by
    rw [List.getElem?_append_left (List.getElem?_eq_some_iff.1 h).1]; exact h
  refine (swap_raw g c m N _ i k (by omega) (by omega) (by unfold maxLen; omega) w hb.row _ _ _ _ _ _ _ _ (fr h1) (fr h2) (fr h3) (fr h4)).mono ?_
  rintro e w' ⟨rfl, hR, hK⟩
  have hK2 : Kp (fpH bx g) w w' := hK.mono (fun _ _ h => .inr h)
  refine ⟨rfl, ⟨?_, ?_, hb.cap, hb.big, hb.cells, ?_, ?_, ?_, hb.bxB, hb.gB⟩, hK2⟩
  · exact hb.box.kp hK hb.ne
  · rw [swapL_len]; exact hb.len
  · rw [List.set_append_left _ _ (by omega), List.set_append_left _ _ (by rw [List.length_set]; omega), List.set_append_left _ _ (by simp only [List.length_set]; omega), List.set_append_left _ _ (by simp only [List.length_set]; omega), swapL_cells hs hi hk] at hR
    exact hR
  · intro d hd
    have hd' := swapL_mem _ _ _ d hd
    exact (hb.rows d hd').kp hK2 (by
      intro a ha hf
      have hl := hb.low d hd' a ha
      have h1 := hb.bxB
      have h2 := hb.gB
      rcases hf with hf | hf <;> omega)
  · intro d hd
    exact hb.low d (swapL_mem _ _ _ d hd)
end Go.Proofs.Ytkjcnjfjecfciaa
