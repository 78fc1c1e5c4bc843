/- The walks of block.ahead, block.Order, freshetref06.SameRows, merge.seen and slices.IndexFunc at rows: what each call answers, and that what was there is as it was. -/
import Derived.Test.YtkjcnjfjecfciaaMem
import Derived.Test.YtkjcnjfjecfciaaRowP
import Derived.Test.YtkjcnjfjecfciaaRows
import Derived.WalkKit
import Derived.WalkSpells
import Derived.WalkLawsBesides
import Derived.Deep.QuietTactic
import Derived.BigQuiet
import Derived.Deep.RegionHeld3
import Derived.Deep.DrawnRows
import Derived.Laws.StructEq
namespace Go.Proofs.Ytkjcnjfjecfciaa
open Go.RowKit

theorem row4 {w : World} {a o : Nat} {r : Row} (h : ∀ j u, r.cells[j]? = some u → w.cell? ⟨a, o + j, none⟩ = some u) :
    w.cell? ⟨a, o, none⟩ = some (.string r.key) ∧ w.cell? ⟨a, o + 1, none⟩ = some (.int .u64 r.seq) ∧ w.cell? ⟨a, o + 2, none⟩ = some (.int .i64 r.kind) ∧ w.cell? ⟨a, o + 3, none⟩ = some (.string r.val) :=
  ⟨h 0 _ rfl, h 1 _ rfl, h 2 _ rfl, h 3 _ rfl⟩

/-- the cells of row k -/
theorem Rd.row {w : World} {A : Option Addr} {l : List Row} (h : Rd w 4 A (l.map Row.cells)) {k : Nat} (hk : k < l.length) :
    ∃ a o, A = some ⟨a, o, none⟩ ∧ a < w.heap.size ∧ w.cell? ⟨a, o + k * 4, none⟩ = some (.string l[k].key) ∧ w.cell? ⟨a, o + k * 4 + 1, none⟩ = some (.int .u64 l[k].seq) ∧
      w.cell? ⟨a, o + k * 4 + 2, none⟩ = some (.int .i64 l[k].kind) ∧ w.cell? ⟨a, o + k * 4 + 3, none⟩ = some (.string l[k].val) := by
  obtain ⟨_, a, o, rfl, hc⟩ := h k (l[k].cells) (by rw [List.getElem?_map, List.getElem?_eq_getElem hk]; rfl)
  obtain ⟨h1, h2, h3, h4⟩ := row4 hc
  exact ⟨a, o, rfl, World.block_lt_of_cell? w _ h1, h1, h2, h3, h4⟩

set_option maxHeartbeats 400000 in
theorem ahead_any (r : Row) (key : ByteArray) (m : Int) (w : World) :
    Calls Try.prog 15 #[.agg #[.string r.key, .int .u64 r.seq, .int .i64 r.kind, .string r.val], .string key, .int .u64 m] w fun e w' => e = .returned (.bool (aheadB r key m)) ∧ Below w.heap.size w w' := by
  go_enter Try.func15, Try.ntmps15
  go_wp2
  all_goals go_ret
  all_goals refine ⟨?_, (Below.refl _ _).alloc (Nat.le_refl _) _⟩
  · simp only [aheadB]; rw [‹Op.bytesLess _ _ = true›]; rfl
  · simp only [aheadB]; rw [Bool.eq_false_iff.2 ‹¬ Op.bytesLess _ _ = true›]; simp [*]
  · simp [aheadB, *]

set_option maxHeartbeats 400000 in
theorem order_any (A : Option Addr) (c : Nat) (l : List Row) (w : World) (hn : l.length ≤ maxLen) (hr : Rd w 4 A (l.map Row.cells)) :
    Calls Try.prog 9 #[.slice A l.length c] w fun e w' => e = .returned (.bool (orderB l)) ∧ Below w.heap.size w w' := by
  go_enter Try.func9, Try.ntmps9
  unfold maxLen at hn
  go_wp2
  go_loopw [3] (fun i wr => ∃ k : Nat, 1 ≤ k ∧ (l.length = 0 ∨ k ≤ l.length) ∧ i = .int .i64 k ∧ orderTo l k = true ∧ Below w.heap.size w wr) (fun i _ => l.length - (intOf i).toNat)
  case atStart => exact ⟨1, by omega, by omega, rfl, rfl, Below.refl _ _⟩
  case round =>
    obtain ⟨k, h1, hk, rfl, ho, hB⟩ := hrel
    have HO := Lib.hid ho
    clear ho
    by_cases hlt : k < l.length
    · obtain ⟨a, o, rfl, ha, a1, a2, a3, a4⟩ := hr.row hlt
      obtain ⟨a', o', hh, ha', b1, b2, b3, b4⟩ := hr.row (k := k - 1) (by omega)
      injection hh with hh
      injection hh with h3 h4
      subst h3 h4
      have HS := Lib.hid (orderTo_succ l k h1 hlt)
      clear hr
      have hw1 : IntKind.i64.wrap ((k : Int) - 1) = ((k - 1 : Nat) : Int) := by rw [IntWalk.i64_in _ (by omega)]; omega
      have hi1 : (0 : Int) ≤ ((k - 1 : Nat) : Int) := by omega
      have hi2 : ((k - 1 : Nat) : Int) < (l.length : Int) := by omega
      have hi3 : (0 : Int) ≤ (k : Int) := by omega
      have hi4 : (k : Int) < (l.length : Int) := by omega
      go_wp2
      go_region_held3 (fun w' => (∀ b o, b < w.heap.size → w'.cell? ⟨b, o, none⟩ = w.cell? ⟨b, o, none⟩) ∧ w.heap.size ≤ w'.heap.size ∧ Below w.heap.size w w') (first | exact S_start hB | exact S_step (by assumption) hB1) (first | (go_at_call 15; refine (ahead_any _ _ _ _).mono ?_; rintro e w1 ⟨rfl, hB1⟩))
      obtain ⟨hc3, hs3, hB3⟩ := ‹_ ∧ _ ∧ _›
      have hfin : aheadB l[k-1] l[k].key l[k].seq = false → orderB l = false := fun hb => orderTo_false l (k + 1) (by rw [HS.out, hb, Bool.and_false]) _ hlt
      have hgo : aheadB l[k-1] l[k].key l[k].seq = true → orderTo l (k + 1) = true := fun hb => by rw [HS.out, hb, HO.out]; rfl
      have HF := Lib.hid hfin
      have HG := Lib.hid hgo
      clear hfin hgo
      cases hb : aheadB l[k-1] l[k].key l[k].seq
      · go_wp2
        go_ret
        exact ⟨by rw [HF.out hb]; rfl, hB3⟩
      · go_wp2
        go_roundw
        case rel => exact ⟨k + 1, by omega, by omega, by go_num, HG.out hb, hB3⟩
        case measure => simp [intOf]; omega
    · go_wp2
      go_ret
      refine ⟨?_, hB⟩
      have : orderB l = true := by
        unfold orderB
        rcases hk with h0 | h0
        · rw [h0]; rfl
        · obtain rfl : k = l.length := by omega
          exact HO.out
      rw [this]; rfl

theorem guardRow : (Try.prog).eqGuardType (Try.prog).depth 32 = false := by kernel_rfl
theorem heldRow : (Try.prog).stoodInHeld 32 = false := by kernel_rfl

theorem run_guardRow (op : BinOp) (x y : Operand) (xs ys : Array Value) (w : World) : (eqGuard op 32 x y (.agg xs) (.agg ys)).run Try.prog w = .ok () w :=
  run_eqGuard_agg w op _ x y xs ys guardRow
theorem run_row_neq (a b : Row) (w : World) :
    (binOp .neq 32 (.agg #[.string a.key, .int .u64 a.seq, .int .i64 a.kind, .string a.val]) (.agg #[.string b.key, .int .u64 b.seq, .int .i64 b.kind, .string b.val])).run Try.prog w = .ok (.bool (!decide (a = b))) w := by
  rw [run_neq_struct, run_equalIn_struct w _ _ _ _ (by kernel_rfl) heldRow]
  have e : decide (a = b) = ((a.key.toList == b.key.toList) && ((a.seq == b.seq) && ((a.kind == b.kind) && (a.val.toList == b.val.toList)))) := by
    rw [Bool.eq_iff_iff]; simp [row_v_eq a b]
  rw [e]
  cases h1 : a.key.toList == b.key.toList <;> cases h2 : a.seq == b.seq <;> cases h3 : a.kind == b.kind <;> cases h4 : a.val.toList == b.val.toList <;> simp [go_sem, h1, h2, h3, h4]

set_option maxHeartbeats 400000 in
theorem same_any (A B : Option Addr) (c d : Nat) (l m : List Row) (w : World) (hl : l.length ≤ maxLen) (hr : Rd w 4 A (l.map Row.cells)) (hs : Rd w 4 B (m.map Row.cells)) :
    Calls Try.prog 7 #[.slice A l.length c, .slice B m.length d] w fun e w' => e = .returned (.bool (decide (l = m))) ∧ Below w.heap.size w w' := by
  by_cases h : l.length = m.length
  · unfold maxLen at hl
    have h1 : (((l.length : Int) == (m.length : Int)) = true) := by simp; omega
    have h2 : (((l.length : Int) != (m.length : Int)) = false) := by simp; omega
    have H := Lib.hid h
    clear h
    go_enter Try.func7, Try.ntmps7
    go_wp2
    go_loopw [5] (fun i wr => ∃ k : Nat, k ≤ l.length ∧ i = .int .i64 k ∧ Hid (l.take k = m.take k) ∧ ∃ q, wr = w.drewN q) (fun i _ => l.length - (intOf i).toNat)
    case atStart => exact ⟨0, Nat.zero_le _, rfl, rfl, 0, rfl⟩
    case round =>
      obtain ⟨k, hk, rfl, ht, q, rfl⟩ := hrel
      by_cases hlt : k < l.length
      · have hlm : k < m.length := by have := H.out; omega
        obtain ⟨a, o, rfl, ha, a1, a2, a3, a4⟩ := hr.row hlt
        obtain ⟨a', o', rfl, ha', b1, b2, b3, b4⟩ := hs.row hlm
        clear hr hs
        have hg := run_guardRow
        have hx : l.take (k + 1) = l.take k ++ [l[k]] := List.take_succ_eq_append_getElem hlt
        have hy : m.take (k + 1) = m.take k ++ [m[k]] := List.take_succ_eq_append_getElem hlm
        have HX := Lib.hid hx
        have HY := Lib.hid hy
        clear hx hy
        by_cases he : l[k] = m[k]
        · have hw := fun w => (run_row_neq l[k] m[k] w).trans (by rw [decide_eq_true he]; rfl : _ = Result.ok (Value.bool false) w)
          have HE := Lib.hid he
          clear he
          go_wp2
          go_quiet (fail)
          clear hw hg
          go_wp2
          go_roundw
          case rel => exact ⟨k + 1, by omega, by go_num, by show l.take (k + 1) = m.take (k + 1); rw [HX.out, HY.out, ht.out, HE.out], _, rfl⟩
          case measure => simp [intOf]; omega
        · have hw := fun w => (run_row_neq l[k] m[k] w).trans (by rw [decide_eq_false he]; rfl : _ = Result.ok (Value.bool true) w)
          have hne : l ≠ m := by rintro rfl; exact he rfl
          have HE := Lib.hid hne
          clear he hne
          go_wp2
          go_quiet (fail)
          clear hw hg
          go_wp2
          go_ret
          refine ⟨?_, ?_⟩
          · rw [decide_eq_false HE.out]; rfl
          · rw [World.drewN_drewN]; exact Below.ofDrewN _ _
      · go_wp2
        go_ret
        refine ⟨?_, Below.ofDrewN _ _⟩
        have : l = m := by
          have h := ht.out
          obtain rfl : k = l.length := by omega
          rwa [List.take_length, H.out, List.take_length] at h
        rw [decide_eq_true this]; rfl
  · have h1 : (((l.length : Int) == (m.length : Int)) = false) := by simp; omega
    have h2 : (((l.length : Int) != (m.length : Int)) = true) := by simp; omega
    have HE : Hid (l ≠ m) := by rintro rfl; exact h rfl
    clear h
    go_enter Try.func7, Try.ntmps7
    go_wp2
    go_ret
    exact ⟨by rw [decide_eq_false HE.out]; rfl, Below.refl _ _⟩

end Go.Proofs.Ytkjcnjfjecfciaa
