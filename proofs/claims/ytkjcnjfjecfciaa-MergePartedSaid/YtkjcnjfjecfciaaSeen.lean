/- The walks of merge.seen, slices.IndexFunc at rows, merge.runs. -/
import Derived.Test.YtkjcnjfjecfciaaRowW
namespace Go.Proofs.Ytkjcnjfjecfciaa
open Go.RowKit

/-- the closure of merge.seen, at a row -/
theorem seen1_any (r : Row) (b : Nat) (n : Int) (w : World) (hb : Blk w b 29 #[.int .u64 n]) :
    Calls Try.prog 17 #[.agg #[.string r.key, .int .u64 r.seq, .int .i64 r.kind, .string r.val], .pointer (some ⟨b, 0, none⟩)] w fun e w' => e = .returned (.bool (decide (r.seq ≤ n))) ∧ Below w.heap.size w w' := by
  have hc := hb.cell 0
  simp at hc
  have hlt := hb.lt
  go_enter Try.func17, Try.ntmps17
  go_wp2
  go_ret
  exact ⟨rfl, (Below.refl _ _).alloc (Nat.le_refl _) _⟩

theorem seenIx_step (l : List Row) (n : Int) (k : Nat) (hk : k < l.length) (h : ∀ j (hj : j < k), decide (l[j].seq ≤ n) = false) (hs : decide (l[k].seq ≤ n) = true) : seenIx l n = some k := by
  unfold seenIx
  rw [List.findIdx?_eq_some_iff_getElem]
  exact ⟨hk, by simpa using hs, fun j hj => by have := h j hj; simpa using this⟩
theorem seenIx_none (l : List Row) (n : Int) (h : ∀ j (hj : j < l.length), decide (l[j].seq ≤ n) = false) : seenIx l n = none := by
  unfold seenIx
  rw [List.findIdx?_eq_none_iff]
  intro r hr
  obtain ⟨j, hj, rfl⟩ := List.getElem_of_mem hr
  exact h j hj

set_option maxHeartbeats 400000 in
theorem indexFunc_any (A : Option Addr) (c : Nat) (l : List Row) (b : Nat) (n : Int) (w : World) (hl : l.length ≤ maxLen) (hr : Rd w 4 A (l.map Row.cells)) (hb : Blk w b 29 #[.int .u64 n]) :
    Calls Try.prog 16 #[.slice A l.length c, .func (.func 17) #[] #[.pointer (some ⟨b, 0, none⟩)]] w fun e w' => e = .returned (.int .i64 (ixInt (seenIx l n))) ∧ Below w.heap.size w w' := by
  unfold maxLen at hl
  go_enter Try.func16, Try.ntmps16
  go_wp2
  go_loopw [5, 8] (fun _ i wr => ∃ k : Nat, k ≤ l.length ∧ i = .int .i64 k ∧ Hid (∀ j (hj : j < l.length), j < k → decide (l[j].seq ≤ n) = false) ∧ Below w.heap.size w wr) (fun _ i _ => l.length - (intOf i).toNat)
  case atStart => exact ⟨0, Nat.zero_le _, rfl, fun j _ h => by omega, Below.refl _ _⟩
  case round =>
    obtain ⟨k, hk, rfl, hs, hB⟩ := hrel
    by_cases hlt : k < l.length
    · obtain ⟨a, o, rfl, ha, a1, a2, a3, a4⟩ := hr.row hlt
      have hbw : Blk wr b 29 #[.int .u64 n] := hb.below hB
      obtain ⟨hcw, hfw⟩ := bcell hB
      clear hr hb
      go_wp2_with (go_at_call 17; refine (seen1_any l[k] b n _ hbw).mono ?_; rintro e w1 ⟨rfl, hB1⟩)
      all_goals have hB2 : Below w.heap.size w w1 := hB.trans (hB1.mono hB.size)
      · have hp : decide (l[k].seq ≤ n) = true := by simpa using ‹l[k].seq ≤ n›
        go_ret
        refine ⟨?_, hB2⟩
        rw [seenIx_step l n k hlt (fun j hj => hs.out j (by omega) hj) hp]; rfl
      · have hp : decide (l[k].seq ≤ n) = false := by simp; omega
        go_roundw
        case rel => exact ⟨k + 1, by omega, by go_num, fun j hj hjk => (by
          by_cases h : j = k
          · subst h; exact hp
          · exact hs.out j hj (by omega)), hB2⟩
        case measure => simp [intOf]; omega
    · go_wp2
      go_ret
      refine ⟨?_, hB⟩
      rw [seenIx_none l n (fun j hj => hs.out j hj (by omega))]; rfl

set_option maxHeartbeats 400000 in
theorem seen_any (A : Option Addr) (c : Nat) (l : List Row) (n : Int) (w : World) (hl : l.length ≤ maxLen) (hr : Rd w 4 A (l.map Row.cells)) :
    Calls Try.prog 11 #[.slice A l.length c, .int .u64 n] w fun e w' => e = .returned (.int .i64 (ixInt (seenIx l n))) ∧ Below w.heap.size w w' := by
  go_enter Try.func11, Try.ntmps11
  go_wp2_with (go_at_call 16; refine (indexFunc_any A c l _ n _ hl ?_ ?_).mono ?_)
  · exact hr.below ((Below.refl _ _).alloc (Nat.le_refl _) _)
  · exact Blk.new _ _ _
  rintro e w1 ⟨rfl, hB1⟩
  go_wp2
  go_ret
  exact ⟨rfl, ((Below.refl _ _).alloc (Nat.le_refl _) _).trans (hB1.mono (by simp))⟩

theorem elSl : El Try.prog 30 22 (.slice none 0 0) 1 24 := ⟨by kernel_rfl, by kernel_rfl, by rfl, by omega⟩

/-- the value of l[p.1 : p.2 : p.2] -/
def cutV (A : Option Addr) (c : Nat) (p : Nat × Nat) : Value := .slice (if c = p.1 then A else A.map (·.add (p.1 * 4))) (p.2 - p.1) (p.2 - p.1)

set_option maxHeartbeats 400000 in
theorem runs_any (A : Option Addr) (c : Nat) (l : List Row) (w : World) (hl : l.length ≤ c) (hc : c * 48 ≤ 140737488351232) (hr : Rd w 4 A (l.map Row.cells)) :
    Calls Try.prog 10 #[.slice A l.length c] w fun e w' => ∃ v, e = .returned v ∧ w'.ownsRow w.heap.size 22 1 v (runsIx l).length ((runsIx l).map (cutV A c)) ∧ Below w.heap.size w w' := by
  have hfit : ∀ k, k ≤ l.length → k + 1 ≤ maxLen ∧ (k + 1) * 24 ≤ 140737488355328 := fun k hk => by unfold maxLen; omega
  have HFIT := Lib.hid hfit
  clear hfit
  go_enter Try.func10, Try.ntmps10
  go_wp2
  go_loopw [3, 4, 5, 8] (fun v f _ i wr => ∃ k : Nat, k ≤ l.length ∧ i = .int .i64 k ∧ f = .int .i64 (runsTo l k).2 ∧ wr.ownsRow w.heap.size 22 1 v (runsTo l k).1.length ((runsTo l k).1.map (cutV A c)) ∧ Below w.heap.size w wr) (fun _ _ _ i _ => l.length - (intOf i).toNat)
  case atStart => exact ⟨0, Nat.zero_le _, rfl, rfl, World.ownsRow_nil _ _ _ _, Below.refl _ _⟩
  case round =>
    obtain ⟨k, hk, rfl, rfl, hown, hB⟩ := hrel
    by_cases hlt : k < l.length
    · obtain ⟨hv1, hv2, hv3⟩ := runsTo_inv l k hk
      obtain ⟨a, o, rfl, ha, a1, a2, a3, a4⟩ := hr.row hlt
      obtain ⟨hcw, hfw⟩ := bcell hB
      have hi3 : (0 : Int) ≤ (k : Int) := by omega
      have hi4 : (k : Int) < (l.length : Int) := by omega
      have hi5 : (0 : Int) ≤ (k : Int) + 1 := by omega
      have hi6 : ((k : Int) + 1).toNat = k + 1 := by omega
      by_cases hend : k + 1 = l.length
      · have ht : ((k : Int) + 1 == (l.length : Int)) = true := by simp; omega
        have he : runEnd l k = true := by unfold runEnd; rw [decide_eq_true hend]; rfl
        have HE := Lib.hid hend
        have HR := Lib.hid he
        clear he hend
        go_wp2
        go_quiet (fail)
        go_wp2_with (at_builtin; refine wpList_app1 elSl rfl _ _ rfl (by rfl) (by exact hown) (by rfl) (by simp) (by rfl) (by simp [Value.oneCell']) (by have := HFIT.out _ (Nat.le_trans hv2 hk); omega) (by have := HFIT.out _ (Nat.le_trans hv2 hk); omega) (by exact hB.size) ?_; intro v1 w1 hown1 hg1 _ hB1)
        clear hi6
        go_roundw
        case rel =>
          refine ⟨k + 1, by omega, by go_num, by rw [runsTo, if_pos HR.out]; go_num, ?_, (hB.drewN _).trans hB1⟩
          rw [runsTo, if_pos HR.out, List.length_append, List.map_append]
          have hcf : ¬ c = (runsTo l k).2 := by omega
          simpa [cutV, hcf, Addr.add_lit] using hown1
        case measure => simp [intOf]; omega
      · have hk1 : k + 1 < l.length := by omega
        obtain ⟨a', o', hh, ha', b1, b2, b3, b4⟩ := hr.row hk1
        injection hh with hh
        injection hh with h3 h4
        subst h3 h4
        have ht : ((k : Int) + 1 == (l.length : Int)) = false := by simp; omega
        have hi7 : (k : Int) + 1 < (l.length : Int) := by omega
        have he : runEnd l k = !(l[k + 1].key.toList == l[k].key.toList) := by
          unfold runEnd; rw [decide_eq_false hend, List.getElem?_eq_getElem hk1, List.getElem?_eq_getElem hlt]; rfl
        by_cases hkey : l[k + 1].key.toList = l[k].key.toList
        · have hx : (l[k + 1].key.toList == l[k].key.toList) = true := by simp [hkey]
          have hxx : (l[k + 1].key.toList != l[k].key.toList) = false := by simp [hkey]
          have HR : Hid (¬ runEnd l k = true) := by show ¬ _; rw [he, hx]; simp
          clear he hend hkey
          go_wp2
          go_quiet (fail)
          go_wp2
          clear hi6
          go_roundw
          case rel => exact ⟨k + 1, by omega, by go_num, by rw [runsTo, if_neg HR.out], by rw [runsTo, if_neg HR.out]; exact hown, hB.drewN _⟩
          case measure => simp [intOf]; omega
        · have hx : (l[k + 1].key.toList == l[k].key.toList) = false := by simp [hkey]
          have hxx : (l[k + 1].key.toList != l[k].key.toList) = true := by simp [hkey]
          have HR : Hid (runEnd l k = true) := by rw [he, hx]; rfl
          clear he hend hkey
          go_wp2
          go_quiet (fail)
          go_wp2_with (at_builtin; refine wpList_app1 elSl rfl _ _ rfl (by rfl) (by exact hown) (by rfl) (by simp) (by rfl) (by simp [Value.oneCell']) (by have := HFIT.out _ (Nat.le_trans hv2 hk); omega) (by have := HFIT.out _ (Nat.le_trans hv2 hk); omega) (by exact hB.size) ?_; intro v1 w1 hown1 hg1 _ hB1)
          clear hi6
          go_roundw
          case rel =>
            refine ⟨k + 1, by omega, by go_num, by rw [runsTo, if_pos HR.out]; go_num, ?_, (hB.drewN _).trans hB1⟩
            rw [runsTo, if_pos HR.out, List.length_append, List.map_append]
            have hcf : ¬ c = (runsTo l k).2 := by omega
            simpa [cutV, hcf, Addr.add_lit] using hown1
          case measure => simp [intOf]; omega
    · go_wp2
      go_ret
      obtain rfl : k = l.length := by omega
      exact ⟨_, rfl, hown, hB⟩
end Go.Proofs.Ytkjcnjfjecfciaa
