/- The walks of merge.heads' methods and of container/heap over them. -/
import Derived.Test.YtkjcnjfjecfciaaDrop
namespace Go.Proofs.Ytkjcnjfjecfciaa
open Go.RowKit

/-- A head: a list's rows that are left (r is the first), as a slice, and the list's number. -/
structure Hd where
  A : Option Addr
  c : Nat
  r : Row
  rest : List Row
  ix : Int

def Hd.rows (h : Hd) : List Row := h.r :: h.rest
def Hd.cells (h : Hd) : List Value := [.slice h.A (h.rest.length + 1) h.c, .int .i64 h.ix]

def hdLess (a b : Hd) : Bool :=
  if (a.r.key.toList != b.r.key.toList) = true then Op.bytesLess a.r.key.toList b.r.key.toList
  else if (a.r.seq != b.r.seq) = true then decide (b.r.seq < a.r.seq)
  else decide (a.ix < b.ix)

/-- the heads hs lie at slice A -/
structure Heads (w : World) (A : Option Addr) (hs : List Hd) : Prop where
  rd : Rd w 2 A (hs.map Hd.cells)
  rows : ∀ h ∈ hs, Rd w 4 h.A (h.rows.map Row.cells)

theorem Heads.at_ {w : World} {A : Option Addr} {hs : List Hd} (h : Heads w A hs) {k : Nat} (hk : k < hs.length) :
    ∃ a o b p, A = some ⟨a, o, none⟩ ∧ hs[k].A = some ⟨b, p, none⟩ ∧ a < w.heap.size ∧ b < w.heap.size ∧
      w.cell? ⟨a, o + k * 2, none⟩ = some (.slice (some ⟨b, p, none⟩) (hs[k].rest.length + 1) hs[k].c) ∧ w.cell? ⟨a, o + k * 2 + 1, none⟩ = some (.int .i64 hs[k].ix) ∧
      w.cell? ⟨b, p, none⟩ = some (.string hs[k].r.key) ∧ w.cell? ⟨b, p + 1, none⟩ = some (.int .u64 hs[k].r.seq) ∧ w.cell? ⟨b, p + 2, none⟩ = some (.int .i64 hs[k].r.kind) ∧ w.cell? ⟨b, p + 3, none⟩ = some (.string hs[k].r.val) := by
  obtain ⟨_, a, o, rfl, hc⟩ := h.rd k _ (by rw [List.getElem?_map, List.getElem?_eq_getElem hk]; rfl)
  have hr := h.rows hs[k] (List.getElem_mem hk)
  obtain ⟨b, p, hb, hlt, c1, c2, c3, c4⟩ := hr.row (k := 0) (by simp [Hd.rows])
  have h1 := hc 0 _ rfl
  have h2 := hc 1 _ rfl
  rw [hb] at h1
  simp only [Nat.add_zero, Nat.zero_mul] at h1 c1 c2 c3 c4
  exact ⟨a, o, b, p, rfl, hb, World.block_lt_of_cell? w _ h1, hlt, h1, h2, c1, c2, c3, c4⟩

set_option maxRecDepth 100000 in
set_option maxHeartbeats 1000000 in
theorem less_any (A : Option Addr) (c N : Nat) (hs : List Hd) (i k : Nat) (hi : i < hs.length) (hk : k < hs.length) (hN : hs.length ≤ N) (hn : N ≤ maxLen) (w : World) (hh : Heads w A hs) :
    Calls Try.prog 38 #[.slice A N c, .int .i64 i, .int .i64 k] w fun e w' => e = .returned (.bool (hdLess hs[i] hs[k])) ∧ Below w.heap.size w w' := by
  unfold maxLen at hn
  obtain ⟨a, o, b, p, rfl, hA1, ha, hb, x1, x2, r1, r2, r3, r4⟩ := hh.at_ hi
  obtain ⟨a', o', b', p', hh', hA2, ha', hb', y1, y2, s1, s2, s3, s4⟩ := hh.at_ hk
  injection hh' with hh'
  injection hh' with e1 e2
  subst e1 e2
  clear hA1 hA2 hh
  have hi1 : (0 : Int) ≤ (i : Int) := by omega
  have hi2 : (i : Int) < (N : Int) := by omega
  have hk1 : (0 : Int) ≤ (k : Int) := by omega
  have hk2 : (k : Int) < (N : Int) := by omega
  have hp1 : (0 : Int) < ((hs[i].rest.length + 1 : Nat) : Int) := by omega
  have hp2 : (0 : Int) < ((hs[k].rest.length + 1 : Nat) : Int) := by omega
  have hp3 : (0 : Int) < ((hs[i].rest.length : Nat) : Int) + 1 := by omega
  have hp4 : (0 : Int) < ((hs[k].rest.length : Nat) : Int) + 1 := by omega
  have hB0 : Below w.heap.size w w := Below.refl _ _
  cases hkey : (hs[i].r.key.toList != hs[k].r.key.toList) with
  | true =>
    have HL : Hid (hdLess hs[i] hs[k] = Op.bytesLess hs[i].r.key.toList hs[k].r.key.toList) := by show _ = _; unfold hdLess; rw [if_pos hkey]
    have hkey2 : (hs[i].r.key.toList == hs[k].r.key.toList) = false := by simpa using hkey
    go_enter Try.func38, Try.ntmps38
    go_wp2
    go_region_held3 (fun w' => (∀ b o, b < w.heap.size → w'.cell? ⟨b, o, none⟩ = w.cell? ⟨b, o, none⟩) ∧ w.heap.size ≤ w'.heap.size ∧ Below w.heap.size w w') (first | exact S_start hB0 | exact S_alloc (by assumption) _ | exact S_start (((Below.refl _ _).alloc (by simp) _).alloc (by simp) _) | exact S_start ((Below.refl _ _).alloc (by simp) _)) (first | fail)
    all_goals
      go_wp2
      go_ret
      exact ⟨by rw [HL.out]; rfl, (((Below.refl _ _).alloc (Nat.le_refl _) _).alloc (by simp) _).drewN 1⟩
  | false =>
    have hkey2 : (hs[i].r.key.toList == hs[k].r.key.toList) = true := by simpa using hkey
    cases hseq : (hs[i].r.seq != hs[k].r.seq) with
    | true =>
      have HL : Hid (hdLess hs[i] hs[k] = decide (hs[k].r.seq < hs[i].r.seq)) := by show _ = _; unfold hdLess; rw [if_neg (by rw [hkey]; simp), if_pos hseq]
      go_enter Try.func38, Try.ntmps38
      go_wp2
      go_region_held3 (fun w' => (∀ b o, b < w.heap.size → w'.cell? ⟨b, o, none⟩ = w.cell? ⟨b, o, none⟩) ∧ w.heap.size ≤ w'.heap.size ∧ Below w.heap.size w w') (first | exact S_start hB0 | exact S_alloc (by assumption) _ | exact S_start (((Below.refl _ _).alloc (by simp) _).alloc (by simp) _) | exact S_start ((Below.refl _ _).alloc (by simp) _)) (first | fail)
      all_goals
        go_wp2
        go_ret
        exact ⟨by rw [HL.out]; rfl, (((Below.refl _ _).alloc (Nat.le_refl _) _).alloc (by simp) _).drewN 1⟩
    | false =>
      have HL : Hid (hdLess hs[i] hs[k] = decide (hs[i].ix < hs[k].ix)) := by show _ = _; unfold hdLess; rw [if_neg (by rw [hkey]; simp), if_neg (by rw [hseq]; simp)]
      go_enter Try.func38, Try.ntmps38
      go_wp2
      go_region_held3 (fun w' => (∀ b o, b < w.heap.size → w'.cell? ⟨b, o, none⟩ = w.cell? ⟨b, o, none⟩) ∧ w.heap.size ≤ w'.heap.size ∧ Below w.heap.size w w') (first | exact S_start hB0 | exact S_alloc (by assumption) _ | exact S_start (((Below.refl _ _).alloc (by simp) _).alloc (by simp) _) | exact S_start ((Below.refl _ _).alloc (by simp) _)) (first | fail)
      all_goals
        go_wp2
        refine wp_region_canon [0, 1, 2, 3, 4, 5, 6, 7, 8, 9, 10] [11] mixed (by kernel_rfl) ?_
        simp only [pickOps, List.map_cons, List.map_nil, List.getD_cons_zero, List.getD_cons_succ]
        repeat still_step
        refine wpStill_nil ?_
        go_wp2
        refine NP.normal ?_
        go_wp2
        go_ret
        exact ⟨by rw [HL.out]; rfl, (((Below.refl _ _).alloc (Nat.le_refl _) _).alloc (by simp) _).drewN 2⟩
end Go.Proofs.Ytkjcnjfjecfciaa
