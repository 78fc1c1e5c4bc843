/- The walks of merge.At and merge.Drop. -/
import Derived.Test.YtkjcnjfjecfciaaSeen
import Derived.Test.YtkjcnjfjecfciaaReg
namespace Go.Proofs.Ytkjcnjfjecfciaa
open Go.RowKit

theorem mixed : (Try.prog).follows .mixedOrders = true := by kernel_rfl

theorem elPair : El Try.prog 25 39 (.agg #[.string ByteArray.empty, .string ByteArray.empty]) 2 32 := ⟨by kernel_rfl, by kernel_rfl, by rfl, by omega⟩

def pairCells (p : ByteArray × ByteArray) : List Value := [.string p.1, .string p.2]
/-- what the first j runs have at n -/
def atTo (l : List Row) (n : Int) (j : Nat) : List (ByteArray × ByteArray) := ((runsIx l).take j).filterMap fun p => atRun (runOf l p) n

theorem atTo_len (l : List Row) (n : Int) (j : Nat) : (atTo l n j).length ≤ j := by
  refine Nat.le_trans (List.length_filterMap_le _ _) ?_
  simp; omega
theorem atTo_step (l : List Row) (n : Int) (j : Nat) (hj : j < (runsIx l).length) : atTo l n (j + 1) = atTo l n j ++ (atRun (runOf l (runsIx l)[j]) n).toList := by
  unfold atTo
  rw [List.take_succ_eq_append_getElem hj, List.filterMap_append]
  cases h : atRun (runOf l (runsIx l)[j]) n <;> simp [h]

theorem runsIx_bd (l : List Row) {j : Nat} (hj : j < (runsIx l).length) : (runsIx l)[j].1 < (runsIx l)[j].2 ∧ (runsIx l)[j].2 ≤ l.length :=
  (runsTo_inv l l.length (Nat.le_refl _)).2.2 _ (List.getElem_mem hj)
theorem runsIx_len (l : List Row) : (runsIx l).length ≤ l.length := (runsTo_inv l l.length (Nat.le_refl _)).2.1
theorem runOf_len (l : List Row) (p : Nat × Nat) (h : p.2 ≤ l.length) : (runOf l p).length = p.2 - p.1 := by
  unfold runOf; simp; omega
theorem Rd.run {w : World} {a o : Nat} {l : List Row} (h : Rd w 4 (some ⟨a, o, none⟩) (l.map Row.cells)) (p : Nat × Nat) : Rd w 4 (some ⟨a, o + p.1 * 4, none⟩) ((runOf l p).map Row.cells) := by
  have := (h.drop p.1).take (p.2 - p.1)
  unfold runOf
  rw [List.map_take, List.map_drop]
  simpa [Addr.add_lit] using this
theorem seenIx_lt {run : List Row} {n : Int} {k : Nat} (h : seenIx run n = some k) : k < run.length := by
  unfold seenIx at h
  exact (List.findIdx?_eq_some_iff_getElem.1 h).1

set_option maxHeartbeats 400000 in
theorem at_bad (A : Option Addr) (c : Nat) (l : List Row) (n : Int) (w : World) (hl : l.length ≤ maxLen) (hr : Rd w 4 A (l.map Row.cells)) (ho : orderB l = false) :
    Calls Try.prog 5 #[.slice A l.length c, .int .u64 n] w fun e w' => e = .returned (.tuple #[.slice none 0 0, .int .i64 2]) ∧ Below w.heap.size w w' := by
  have h1 := order_any A c l w hl hr
  rw [ho] at h1
  go_enter Try.func5, Try.ntmps5
  go_wp2_with (go_at_call 9; refine h1.mono ?_; rintro e w1 ⟨rfl, hB1⟩)
  go_ret2
  exact ⟨rfl, hB1⟩

set_option maxHeartbeats 400000 in
theorem at_any (A : Option Addr) (c : Nat) (l : List Row) (n : Int) (w : World) (hl : l.length ≤ c) (hc : c * 48 ≤ 140737488351232) (hr : Rd w 4 A (l.map Row.cells)) (ho : orderB l = true) :
    Calls Try.prog 5 #[.slice A l.length c, .int .u64 n] w fun e w' => ∃ v, e = .returned (.tuple #[v, .int .i64 0]) ∧
      w'.ownsRow w.heap.size 39 2 v (atOf l n).length ((atOf l n).map pairCells).flatten ∧ Below w.heap.size w w' := by
  have h1 := order_any A c l w (by unfold maxLen; omega) hr
  rw [ho] at h1
  have H1 := Lib.hid h1
  clear h1 ho
  have hrl := runsIx_len l
  go_enter Try.func5, Try.ntmps5
  go_wp2_with (first
    | (go_at_call 9; refine H1.out.mono ?_; rintro e w1 ⟨rfl, hB1⟩)
    | (go_at_call 10; refine (runs_any A c l _ hl hc (hr.below hB1)).mono ?_; rintro e w2 ⟨v2, rfl, hown2, hB2⟩; obtain ⟨A2, c2, rfl⟩ := own_shape hown2))
  have hB3 : Below w.heap.size w w2 := hB1.trans (hB2.mono hB1.size)
  go_loopw [6, 8, 9, 16] (fun v _ _ i wr => ∃ j : Nat, j ≤ (runsIx l).length ∧ i = .int .i64 j ∧ wr.ownsRow w2.heap.size 39 2 v (atTo l n j).length ((atTo l n j).map pairCells).flatten ∧ Below w2.heap.size w2 wr) (fun _ _ _ i _ => (runsIx l).length - (intOf i).toNat)
  case atStart => exact ⟨0, Nat.zero_le _, rfl, by simpa [atTo] using World.ownsRow_nil _ _ _ _, Below.refl _ _⟩
  case round =>
    obtain ⟨j, hj, rfl, hown, hB⟩ := hrel
    by_cases hlt : j < (runsIx l).length
    · obtain ⟨g2, rfl, hg2, hgl2, hcell2⟩ := own_at hown2 (by omega)
      obtain ⟨hp1, hp2⟩ := runsIx_bd l hlt
      have hlen := runOf_len l _ hp2
      obtain ⟨a, o, rfl, ha, _⟩ := hr.row (k := 0) (by omega)
      have hcv := hcell2 j _ (by rw [List.getElem?_map, List.getElem?_eq_getElem hlt]; rfl)
      have hcut : cutV (some ⟨a, o, none⟩) c (runsIx l)[j] = .slice (some ⟨a, o + (runsIx l)[j].1 * 4, none⟩) (runOf l (runsIx l)[j]).length (runOf l (runsIx l)[j]).length := by
        unfold cutV; rw [if_neg (by omega), hlen]; simp [Addr.add_lit]
      rw [hcut] at hcv
      have hrun := (hr.run (runsIx l)[j]).below (hB1.trans (hB2.mono hB1.size))
      have hcw : wr.cell? ⟨g2, j, none⟩ = w2.cell? ⟨g2, j, none⟩ := hB.cell (p := ⟨g2, j, none⟩) hgl2
      rw [hcv] at hcw
      have hst := atTo_step l n j hlt
      have hal := atTo_len l n j
      have hsz2 := hB.size
      have hi1 : (0 : Int) ≤ (j : Int) := by omega
      have hi2 : (j : Int) < ((runsIx l).length : Int) := by omega
      have hpz : 0 < (runOf l (runsIx l)[j]).length := by omega
      have hpl : (runOf l (runsIx l)[j]).length ≤ maxLen := by unfold maxLen; omega
      generalize runOf l (runsIx l)[j] = run at *
      have ho4 : ∃ o4, o4 = o + (runsIx l)[j].1 * 4 := ⟨_, rfl⟩
      obtain ⟨o4, ho4⟩ := ho4
      rw [← ho4] at hcw hrun
      clear ho4 hcut hcv
      have hrw := hrun.below hB
      have hs := fun W (hW : Below wr.heap.size wr W) => seen_any (some ⟨a, o4, none⟩) run.length run n W hpl (hrw.below hW)
      have HST := Lib.hid hst
      clear hst hlen
      cases hsn : seenIx run n with
      | none =>
        rw [hsn] at hs
        simp only [ixInt] at hs
        have HS := Lib.hid hs
        have HR : Hid (atRun run n = none) := by show _ = _; unfold atRun; rw [hsn]
        clear hs hsn
        go_wp2_with (go_at_call 11; refine (HS.out _ (Below.refl _ _)).mono ?_; rintro e w3 ⟨rfl, hB4⟩)
        go_roundw
        case rel => exact ⟨j + 1, by omega, by go_num, by rw [HST.out, HR.out]; simpa using own_below hown hB4, hB.trans (hB4.mono hB.size)⟩
        case measure => simp [intOf]; omega
      | some k =>
        have hk := seenIx_lt hsn
        rw [hsn] at hs
        simp only [ixInt] at hs
        have HS := Lib.hid hs
        obtain ⟨a', o', hh, ha', b1, b2, b3, b4⟩ := hrun.row hk
        injection hh with hh
        injection hh with h3 h4
        subst h3 h4
        have hi3 : (0 : Int) ≤ (k : Int) := by omega
        have hi4 : (k : Int) < (run.length : Int) := by omega
        by_cases hkind : run[k].kind = 1
        · have ht : (run[k].kind == 1) = true := by simp [hkind]
          have HR : Hid (atRun run n = some (run[k].key, run[k].val)) := by
            show _ = _; unfold atRun; simp only [hsn]; rw [List.getElem?_eq_getElem hk]; simp [hkind]
          clear hs hsn hkind
          go_wp2_with (go_at_call 11; refine (HS.out _ (Below.refl _ _)).mono ?_; rintro e w3 ⟨rfl, hB4⟩; have hc3 := fun o => (hB.trans (hB4.mono hB.size)).cell (p := ⟨a, o, none⟩) ha')
          refine wp_region_canon [0, 1, 2, 3, 4, 5, 6, 7, 8, 9, 10, 11] [12, 13, 14] mixed (by kernel_rfl) ?_
          simp only [pickOps, List.map_cons, List.map_nil, List.getD_cons_zero, List.getD_cons_succ]
          repeat still_step
          refine wpStill_nil ?_
          have hown4 : (w3.drew).ownsRow w2.heap.size 39 2 u6 (atTo l n j).length ((atTo l n j).map pairCells).flatten := (own_below hown hB4 : w3.ownsRow w2.heap.size 39 2 u6 (atTo l n j).length ((atTo l n j).map pairCells).flatten)
          have hB6 : Below w2.heap.size w2 w3.drew := (hB.trans (hB4.mono hB.size)).drew
          clear hc3 b1 b2 b3 b4
          generalize w3.drew = w4 at *
          go_wp2_with (at_builtin; refine wpList_app1 elPair rfl _ _ rfl (by rfl) (by exact hown4) (by rfl) (by simp) (by rfl) (by simp [Value.oneCell']) (by unfold maxLen; omega) (by omega) (by exact hB6.size) ?_; intro v5 w5 hown5 hg5 _ hB5)
          refine NP.normal ?_
          go_wp2
          go_roundw
          case rel =>
            refine ⟨j + 1, by omega, by go_num, ?_, ?_⟩
            · rw [HST.out, HR.out, List.length_append, List.map_append, List.flatten_append]
              simpa [pairCells] using hown5
            · exact hB6.trans hB5
          case measure => simp [intOf]; omega
        · have ht : (run[k].kind == 1) = false := by simp [hkind]
          have HR : Hid (atRun run n = none) := by
            show _ = _; unfold atRun; simp only [hsn]; rw [List.getElem?_eq_getElem hk]; simp [hkind]
          clear hs hsn hkind
          go_wp2_with (go_at_call 11; refine (HS.out _ (Below.refl _ _)).mono ?_; rintro e w3 ⟨rfl, hB4⟩; have hc3 := fun o => (hB.trans (hB4.mono hB.size)).cell (p := ⟨a, o, none⟩) ha')
          go_roundw
          case rel => exact ⟨j + 1, by omega, by go_num, by rw [HST.out, HR.out]; simpa using own_below hown hB4, hB.trans (hB4.mono hB.size)⟩
          case measure => simp [intOf]; omega
    · go_wp2
      go_ret2
      obtain rfl : j = (runsIx l).length := by omega
      have : atTo l n (runsIx l).length = atOf l n := by unfold atTo atOf; rw [List.take_length]
      rw [this] at hown
      exact ⟨_, rfl, own_lower hown hB3.size, hB3.trans (hB.mono hB3.size)⟩
end Go.Proofs.Ytkjcnjfjecfciaa
