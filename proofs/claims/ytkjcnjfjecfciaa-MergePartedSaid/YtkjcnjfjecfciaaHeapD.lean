/- The walk of container/heap.down over merge.heads. -/
import Derived.Test.YtkjcnjfjecfciaaHeapU
namespace Go.Proofs.Ytkjcnjfjecfciaa
open Go.RowKit

theorem downL_inv (hs : List Hd) (i n : Nat) : (downL hs i n).1.length = hs.length ∧ i ≤ (downL hs i n).2 := by
  induction h : n - i using Nat.strongRecOn generalizing hs i with
  | ind d ih =>
    subst h
    rw [downL]
    split
    · exact ⟨rfl, Nat.le_refl _⟩
    · rename_i hc
      have hlt : n - downJ hs i n < n - i := by unfold downJ; split <;> omega
      obtain ⟨h1, h2⟩ := ih _ hlt (swapL hs i (downJ hs i n)) (downJ hs i n) rfl
      rw [swapL_len] at h1
      refine ⟨h1, Nat.le_trans ?_ h2⟩
      unfold downJ; split <;> omega

set_option maxRecDepth 100000 in
set_option maxHeartbeats 2000000 in
theorem down_any (bx g c m N : Nat) (tl : List Value) (B : Nat) (hs : List Hd) (i0 n : Nat) (hi0 : i0 ≤ hs.length) (hnl : n ≤ hs.length) (w : World) (hb : HBox w bx g c m N tl B hs) :
    Calls Try.prog 19 #[ifc bx, .int .i64 i0, .int .i64 n] w fun e w' => e = .returned (.bool (decide (i0 < (downL hs i0 n).2))) ∧ HBox w' bx g c m N tl B (downL hs i0 n).1 ∧ Kp (fpH bx g) w w' := by
  have hn := hb.big
  have hn2 := hb.len
  go_enter Try.func19, Try.ntmps19
  go_wp2
  go_loopw [7, 8, 9, 10] (fun s _ _ _ wr => ∃ (i : Nat) (hk : List Hd), s = .int .i64 i ∧ i ≤ hk.length ∧ i0 ≤ i ∧ Hid (hk.length = hs.length) ∧ HBox wr bx g c m N tl B hk ∧ Hid (downL hk i n = downL hs i0 n) ∧ Kp (fpH bx g) w wr) (fun s _ _ _ _ => hs.length - (intOf s).toNat)
  case atStart => exact ⟨i0, hs, rfl, hi0, Nat.le_refl _, rfl, hb, rfl, Kp.refl _ _⟩
  case round =>
    obtain ⟨i, hk, rfl, hik, hi00, hkn, hbk, hD, hK⟩ := hrel
    have hkm : hk.length ≤ 1125899906842624 := by have := hkn.out; omega
    have hnk : n ≤ hk.length := by have := hkn.out; omega
    have hbox := hbk.box.cell 0
    simp at hbox
    have n1 := fun n w => nilFind "Less" _ methLess n ⟨bx, 0, none⟩ w
    have n2 := fun n w => nilFind "Swap" _ methSwap n ⟨bx, 0, none⟩ w
    have m1 := fun n => methFind "Less" _ methLess n ⟨bx, 0, none⟩ _ _ hbox
    have HML := Lib.hid (fun (w1 : World) (h : HBox w1 bx g c m N tl B hk) n => methFind "Less" _ methLess n ⟨bx, 0, none⟩ _ w1 (by have := h.box.cell 0; simpa using this))
    have HMS := Lib.hid (fun (w1 : World) (h : HBox w1 bx g c m N tl B hk) n => methFind "Swap" _ methSwap n ⟨bx, 0, none⟩ _ w1 (by have := h.box.cell 0; simpa using this))
    by_cases hend : n ≤ 2 * i + 1
    · have HU : Hid (downL hk i n = (hk, i)) := by show _ = _; rw [downL, dif_pos (.inl hend)]
      have hf : (n : Int) ≤ 2 * (i : Int) + 1 := by omega
      clear m1 n1 n2
      go_wp2
      go_ret
      rw [HU.out] at hD
      rw [← hD.out]
      exact ⟨rfl, hbk, hK⟩
    · have hf : ¬ (n : Int) ≤ 2 * (i : Int) + 1 := by omega
      have hf1 : ¬ (2 * (i : Int) + 1 < 0) := by omega
      have hj1 : 2 * i + 1 < hk.length := by omega
      have hla := fun (a b : Nat) (ha : a < hk.length) (hb : b < hk.length) W (hW : HBox W bx g c m N tl B hk) => less_any (some ⟨g, 0, none⟩) c N hk a b ha hb hW.len (by have := hW.big; unfold maxLen; omega) W hW.heads
      -- which child
      have hLI : ∀ (J : Nat), J = downJ hk i n → J < hk.length ∧ J < n ∧ i < J := by
        rintro J rfl
        unfold downJ
        split <;> omega
      obtain ⟨J, hJ⟩ : ∃ J, J = downJ hk i n := ⟨_, rfl⟩
      obtain ⟨hJl, hJn, hiJ⟩ := hLI J hJ
      have hi2 : i < hk.length := by omega
      have hfin : lessAt hk J i = false → Hid (downL hk i n = (hk, i)) := by
        intro h; show _ = _; rw [downL, dif_pos]; right; rw [← hJ]; exact h
      have hgo : lessAt hk J i = true → Hid (downL (swapL hk i J) J n = downL hs i0 n) := by
        intro h; show _ = _; rw [← hD.out, downL.eq_def hk i n, dif_neg]
        · rw [← hJ]
        · rw [← hJ, h]; simp; omega
      rw [lessAt_eq hk hJl hi2] at hfin hgo
      have hsa := fun W (hW : HBox W bx g c m N tl B hk) => swap_any bx g c m N tl B hk i J hi2 hJl W hW
      have HSA := Lib.hid hsa
      have hlJ := hla J i hJl hi2
      clear hsa hLI
      -- the child's number as the code finds it
      by_cases h2 : 2 * i + 2 < n
      · have hf2 : 2 * (i : Int) + 1 + 1 < (n : Int) := by omega
        have hj2 : 2 * i + 2 < hk.length := by omega
        have hl2 := hla (2 * i + 2) (2 * i + 1) hj2 hj1
        have hJ2 := hJ
        unfold downJ at hJ2
        rw [lessAt_eq hk hj2 hj1] at hJ2
        have e1 : ((2 * i + 1 : Nat) : Int) = 2 * (i : Int) + 1 := by omega
        have e2 : ((2 * i + 2 : Nat) : Int) = 2 * (i : Int) + 1 + 1 := by omega
        simp only [e1, e2] at hl2
        clear e1 e2
        cases hll : hdLess hk[2 * i + 2] hk[2 * i + 1] with
        | false =>
          rw [hll] at hl2 hJ2
          rw [if_neg (by simp)] at hJ2
          have HL2 := Lib.hid hl2
          clear hl2 hll
          subst hJ2
          have eJ : (((2 * i + 1 : Nat)) : Int) = 2 * (i : Int) + 1 := by omega
          simp only [eJ] at hlJ
          have HSJ : Hid (∀ W, HBox W bx g c m N tl B hk → Calls Try.prog 39 #[.slice (some ⟨g, 0, none⟩) N c, .int .i64 i, .int .i64 (2 * (i : Int) + 1)] W fun e w' => e = .returned (.tuple #[]) ∧ HBox w' bx g c m N tl B (swapL hk i (2 * i + 1)) ∧ Kp (fpH bx g) W w') := by
            have h := HSA.out
            simp only [eJ] at h
            exact h
          clear HSA eJ hla
          cases hl : hdLess (hk[2 * i + 1]'hJl) hk[i] with
          | false =>
            rw [hl] at hlJ
            have HF := hfin hl
            have HLJ := Lib.hid hlJ
            clear hlJ hl hfin hgo hJ
            go_wp2_with fail
            refine (HL2.out _ hbk).mono ?_
            rintro e w2 ⟨rfl, hB2⟩
            have hb2 := hbk.below hB2
            have m2 := HML.out w2 hb2
            go_wp2_with fail
            refine (HLJ.out _ hb2).mono ?_
            rintro e w3 ⟨rfl, hB3⟩
            go_wp2
            go_ret
            rw [HF.out] at hD
            rw [← hD.out]
            exact ⟨rfl, hb2.below hB3, (hK.thenBelow hB2).thenBelow hB3⟩
          | true =>
            rw [hl] at hlJ
            have HG := hgo hl
            have HLJ := Lib.hid hlJ
            clear hlJ hl hfin hgo hJ
            go_wp2_with fail
            refine (HL2.out _ hbk).mono ?_
            rintro e w2 ⟨rfl, hB2⟩
            have hb2 := hbk.below hB2
            have m2 := HML.out w2 hb2
            go_wp2_with fail
            refine (HLJ.out _ hb2).mono ?_
            rintro e w3 ⟨rfl, hB3⟩
            have hb3 := hb2.below hB3
            have m3 := HMS.out w3 hb3
            go_wp2_with fail
            refine (HSJ.out _ hb3).mono ?_
            rintro e w4 ⟨rfl, hb4, hK4⟩
            go_wp2
            go_roundw
            case rel => exact ⟨2 * i + 1, swapL hk i (2 * i + 1), (by first | rfl | go_num | (congr 1; omega)), by rw [swapL_len]; omega, by omega, by show _ = _; rw [swapL_len]; exact hkn.out, hb4, HG, ((hK.thenBelow hB2).thenBelow hB3).trans hK4 (fun _ _ h => h)⟩
            case measure => simp [intOf]; have := hkn.out; omega
        | true =>
          rw [hll] at hl2 hJ2
          rw [if_pos ⟨h2, rfl⟩] at hJ2
          have HL2 := Lib.hid hl2
          clear hl2 hll
          subst hJ2
          have eJ : (((2 * i + 2 : Nat)) : Int) = 2 * (i : Int) + 1 + 1 := by omega
          simp only [eJ] at hlJ
          have HSJ : Hid (∀ W, HBox W bx g c m N tl B hk → Calls Try.prog 39 #[.slice (some ⟨g, 0, none⟩) N c, .int .i64 i, .int .i64 (2 * (i : Int) + 1 + 1)] W fun e w' => e = .returned (.tuple #[]) ∧ HBox w' bx g c m N tl B (swapL hk i (2 * i + 2)) ∧ Kp (fpH bx g) W w') := by
            have h := HSA.out
            simp only [eJ] at h
            exact h
          clear HSA eJ hla
          cases hl : hdLess (hk[2 * i + 2]'hJl) hk[i] with
          | false =>
            rw [hl] at hlJ
            have HF := hfin hl
            have HLJ := Lib.hid hlJ
            clear hlJ hl hfin hgo hJ
            go_wp2_with fail
            refine (HL2.out _ hbk).mono ?_
            rintro e w2 ⟨rfl, hB2⟩
            have hb2 := hbk.below hB2
            have m2 := HML.out w2 hb2
            go_wp2_with fail
            refine (HLJ.out _ hb2).mono ?_
            rintro e w3 ⟨rfl, hB3⟩
            go_wp2
            go_ret
            rw [HF.out] at hD
            rw [← hD.out]
            exact ⟨rfl, hb2.below hB3, (hK.thenBelow hB2).thenBelow hB3⟩
          | true =>
            rw [hl] at hlJ
            have HG := hgo hl
            have HLJ := Lib.hid hlJ
            clear hlJ hl hfin hgo hJ
            go_wp2_with fail
            refine (HL2.out _ hbk).mono ?_
            rintro e w2 ⟨rfl, hB2⟩
            have hb2 := hbk.below hB2
            have m2 := HML.out w2 hb2
            go_wp2_with fail
            refine (HLJ.out _ hb2).mono ?_
            rintro e w3 ⟨rfl, hB3⟩
            have hb3 := hb2.below hB3
            have m3 := HMS.out w3 hb3
            go_wp2_with fail
            refine (HSJ.out _ hb3).mono ?_
            rintro e w4 ⟨rfl, hb4, hK4⟩
            go_wp2
            go_roundw
            case rel => exact ⟨2 * i + 2, swapL hk i (2 * i + 2), (by first | rfl | go_num | (congr 1; omega)), by rw [swapL_len]; omega, by omega, by show _ = _; rw [swapL_len]; exact hkn.out, hb4, HG, ((hK.thenBelow hB2).thenBelow hB3).trans hK4 (fun _ _ h => h)⟩
            case measure => simp [intOf]; have := hkn.out; omega
      · have hf2 : ¬ (2 * (i : Int) + 1 + 1 < (n : Int)) := by omega
        have hJ2 : J = 2 * i + 1 := by rw [hJ]; unfold downJ; rw [if_neg]; omega
        subst hJ2
        have eJ : (((2 * i + 1 : Nat)) : Int) = 2 * (i : Int) + 1 := by omega
        simp only [eJ] at hlJ
        have HSJ : Hid (∀ W, HBox W bx g c m N tl B hk → Calls Try.prog 39 #[.slice (some ⟨g, 0, none⟩) N c, .int .i64 i, .int .i64 (2 * (i : Int) + 1)] W fun e w' => e = .returned (.tuple #[]) ∧ HBox w' bx g c m N tl B (swapL hk i (2 * i + 1)) ∧ Kp (fpH bx g) W w') := by
          have h := HSA.out
          simp only [eJ] at h
          exact h
        clear HSA eJ hla
        cases hl : hdLess (hk[2 * i + 1]'hJl) hk[i] with
        | false =>
          rw [hl] at hlJ
          have HF := hfin hl
          have HLJ := Lib.hid hlJ
          clear hlJ hl hfin hgo hJ
          skip
          go_wp2_with fail
          refine (HLJ.out _ hbk).mono ?_
          rintro e w3 ⟨rfl, hB3⟩
          go_wp2
          go_ret
          rw [HF.out] at hD
          rw [← hD.out]
          exact ⟨rfl, hbk.below hB3, (hK).thenBelow hB3⟩
        | true =>
          rw [hl] at hlJ
          have HG := hgo hl
          have HLJ := Lib.hid hlJ
          clear hlJ hl hfin hgo hJ
          skip
          go_wp2_with fail
          refine (HLJ.out _ hbk).mono ?_
          rintro e w3 ⟨rfl, hB3⟩
          have hb3 := hbk.below hB3
          have m3 := HMS.out w3 hb3
          go_wp2_with fail
          refine (HSJ.out _ hb3).mono ?_
          rintro e w4 ⟨rfl, hb4, hK4⟩
          go_wp2
          go_roundw
          case rel => exact ⟨2 * i + 1, swapL hk i (2 * i + 1), (by first | rfl | go_num | (congr 1; omega)), by rw [swapL_len]; omega, by omega, by show _ = _; rw [swapL_len]; exact hkn.out, hb4, HG, ((hK).thenBelow hB3).trans hK4 (fun _ _ h => h)⟩
          case measure => simp [intOf]; have := hkn.out; omega
end Go.Proofs.Ytkjcnjfjecfciaa
