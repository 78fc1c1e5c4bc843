/- The law of merge.Merge, plainly: the heap keeps its order, so the rows come out as they stand in the whole. -/
import Derived.Test.YtkjcnjfjecfciaaMergeW
namespace Go.Proofs.Ytkjcnjfjecfciaa
open Go.RowKit

/-- a row stands ahead of another -/
def RowLt (a b : Row) : Prop := a.key.toList < b.key.toList ∨ (a.key.toList = b.key.toList ∧ b.seq < a.seq)

theorem aheadB_iff (a b : Row) : aheadB a b.key b.seq = true ↔ RowLt a b := by
  unfold aheadB RowLt
  rw [bytesLess_lt]
  simp

theorem ll_tri (x y : List UInt8) : x < y ∨ x = y ∨ y < x := by
  by_cases h1 : x < y
  · exact .inl h1
  · by_cases h2 : y < x
    · exact .inr (.inr h2)
    · exact .inr (.inl (List.le_antisymm (List.not_lt.1 h2) (List.not_lt.1 h1)))
theorem ll_irr (x : List UInt8) : ¬ x < x := List.lt_irrefl x
theorem ll_trans {x y z : List UInt8} (h1 : x < y) (h2 : y < z) : x < z := List.lt_trans h1 h2

theorem RowLt.trans {a b c : Row} (h1 : RowLt a b) (h2 : RowLt b c) : RowLt a c := by
  unfold RowLt at *
  rcases h1 with h1 | ⟨e1, h1⟩ <;> rcases h2 with h2 | ⟨e2, h2⟩
  · exact .inl (ll_trans h1 h2)
  · exact .inl (e2 ▸ h1)
  · exact .inl (e1 ▸ h2)
  · exact .inr ⟨e1.trans e2, by omega⟩
theorem RowLt.irr {a : Row} : ¬ RowLt a a := by
  unfold RowLt
  rintro (h | ⟨_, h⟩)
  · exact ll_irr _ h
  · omega

/-- the heads' order -/
def HdLt (a b : Hd) : Prop := RowLt a.r b.r ∨ (a.r.key.toList = b.r.key.toList ∧ a.r.seq = b.r.seq ∧ a.ix < b.ix)
theorem hdLess_iff (a b : Hd) : hdLess a b = true ↔ HdLt a b := by
  unfold hdLess HdLt RowLt
  by_cases h1 : a.r.key.toList = b.r.key.toList
  · rw [if_neg (by simp [h1])]
    by_cases h2 : a.r.seq = b.r.seq
    · rw [if_neg (by simp [h2])]
      simp [h1, h2, ll_irr]
    · rw [if_pos (by simpa using h2)]
      simp [h1, h2, ll_irr]
  · rw [if_pos (by simpa using h1), bytesLess_lt]
    simp [h1]
theorem HdLt.asymm {a b : Hd} (h1 : HdLt a b) (h2 : HdLt b a) : False := by
  unfold HdLt at *
  rcases h1 with h1 | ⟨e1, s1, h1⟩ <;> rcases h2 with h2 | ⟨e2, s2, h2⟩
  · exact (h1.trans h2).irr
  · unfold RowLt at h1; rw [e2] at h1; rcases h1 with h1 | ⟨_, h1⟩
    · exact ll_irr _ h1
    · omega
  · unfold RowLt at h2; rw [e1] at h2; rcases h2 with h2 | ⟨_, h2⟩
    · exact ll_irr _ h2
    · omega
  · omega
theorem HdLt.nt {a b c : Hd} (h : HdLt a c) : HdLt a b ∨ HdLt b c := by
  unfold HdLt RowLt at *
  rcases ll_tri a.r.key.toList b.r.key.toList with h1 | h1 | h1
  · exact .inl (.inl (.inl h1))
  · rw [h1] at h ⊢
    rcases h with (h | ⟨e, h⟩) | ⟨e, s, h⟩
    · exact .inr (.inl (.inl h))
    · by_cases hs : b.r.seq < a.r.seq
      · exact .inl (.inl (.inr ⟨rfl, hs⟩))
      · exact .inr (.inl (.inr ⟨e, by omega⟩))
    · by_cases hs : b.r.seq < a.r.seq
      · exact .inl (.inl (.inr ⟨rfl, hs⟩))
      · by_cases hs2 : c.r.seq < b.r.seq
        · exact .inr (.inl (.inr ⟨e, hs2⟩))
        · by_cases hi : a.ix < b.ix
          · exact .inl (.inr ⟨rfl, by omega, hi⟩)
          · exact .inr (.inr ⟨e, by omega, by omega⟩)
  · rcases h with (h | ⟨e, h⟩) | ⟨e, s, h⟩
    · exact .inr (.inl (.inl (ll_trans h1 h)))
    · exact .inr (.inl (.inl (e ▸ h1)))
    · exact .inr (.inl (.inl (e ▸ h1)))

theorem hl_asymm {a b : Hd} (h : hdLess a b = true) : hdLess b a = false := by
  cases hb : hdLess b a with
  | false => rfl
  | true => exact ((hdLess_iff a b).1 h).asymm ((hdLess_iff b a).1 hb) |>.elim
theorem hl_nt {a b c : Hd} (h1 : hdLess a b = false) (h2 : hdLess b c = false) : hdLess a c = false := by
  cases hb : hdLess a c with
  | false => rfl
  | true =>
    rcases ((hdLess_iff a c).1 hb).nt (b := b) with h | h
    · rw [(hdLess_iff _ _).2 h] at h1; cases h1
    · rw [(hdLess_iff _ _).2 h] at h2; cases h2
theorem hl_trans {a b c : Hd} (h1 : hdLess a b = true) (h2 : hdLess b c = true) : hdLess a c = true := by
  cases hb : hdLess a c with
  | true => rfl
  | false => rw [hl_nt hb (hl_asymm h2)] at h1; cases h1

/-- a heap's order, by places -/
def le_ (hs : List Hd) (i k : Nat) : Prop := lessAt hs i k = false
theorem la_asymm {hs : List Hd} {i k : Nat} (h : lessAt hs i k = true) : lessAt hs k i = false := by
  unfold lessAt at *
  split at h
  · rename_i a b ha hb; rw [ha, hb]; exact hl_asymm h
  · cases h
theorem la_nt {hs : List Hd} {i k m : Nat} (hk : k < hs.length) (h1 : lessAt hs i k = false) (h2 : lessAt hs k m = false) : lessAt hs i m = false := by
  unfold lessAt at *
  rw [List.getElem?_eq_getElem hk] at h1 h2
  split
  · rename_i a b ha hb
    rw [ha] at h1; rw [hb] at h2
    exact hl_nt h1 h2
  · rfl
theorem la_trans {hs : List Hd} {i k m : Nat} (h1 : lessAt hs i k = true) (h2 : lessAt hs k m = true) : lessAt hs i m = true := by
  unfold lessAt at *
  split at h1
  · rename_i a b ha hb
    rw [hb] at h2
    split at h2
    · rename_i b' c hb' hc
      injection hb' with hb'
      subst hb'
      rw [ha, hc]
      exact hl_trans h1 h2
    · cases h2
  · cases h1

def tr (i k a : Nat) : Nat := if a = i then k else if a = k then i else a
theorem swapL_at (hs : List Hd) {i k : Nat} (hi : i < hs.length) (hk : k < hs.length) (a : Nat) : (swapL hs i k)[a]? = hs[tr i k a]? := by
  rw [swapL_eq hs hi hk]
  unfold tr
  rw [List.getElem?_set, List.getElem?_set, List.length_set]
  by_cases h1 : a = i
  · subst h1
    rw [if_pos rfl]
    by_cases h2 : k = a
    · subst h2
      rw [if_pos rfl, if_pos hk]
      simp [hk]
    · rw [if_neg h2, if_pos rfl, if_pos hi]
      exact (List.getElem?_eq_getElem hk).symm
  · rw [if_neg h1]
    by_cases h2 : k = a
    · subst h2
      rw [if_pos rfl, if_pos hk, if_pos rfl]
      exact (List.getElem?_eq_getElem hi).symm
    · rw [if_neg h2, if_neg (fun h => h1 h.symm), if_neg (fun h => h2 h.symm)]
theorem lessAt_swap (hs : List Hd) {i k : Nat} (hi : i < hs.length) (hk : k < hs.length) (a b : Nat) : lessAt (swapL hs i k) a b = lessAt hs (tr i k a) (tr i k b) := by
  unfold lessAt
  rw [swapL_at hs hi hk, swapL_at hs hi hk]

def HeapOk (hs : List Hd) : Prop := ∀ i, 0 < i → i < hs.length → lessAt hs i ((i - 1) / 2) = false

theorem up_heap (hs : List Hd) (j : Nat) (hj : j < hs.length) (h1 : ∀ i, 0 < i → i < hs.length → i ≠ j → lessAt hs i ((i - 1) / 2) = false)
    (h2 : ∀ c, 0 < c → c < hs.length → (c - 1) / 2 = j → 0 < j → lessAt hs c ((j - 1) / 2) = false) : HeapOk (upL hs j) := by
  induction j using Nat.strongRecOn generalizing hs with
  | ind j ih =>
    rw [upL]
    split
    · rename_i hc
      intro i hi hil
      by_cases hij : i = j
      · subst hij
        rcases hc with hc | hc
        · omega
        · exact hc
      · exact h1 i hi hil hij
    · rename_i hc
      have hj0 : 0 < j := by omega
      have hl : lessAt hs j ((j - 1) / 2) = true := by
        cases h : lessAt hs j ((j - 1) / 2) with
        | true => rfl
        | false => exact absurd (.inr h) hc
      generalize hp : (j - 1) / 2 = p at *
      have hpj : p < j := by omega
      have hpl : p < hs.length := by omega
      refine ih p hpj _ (by rw [swapL_len]; exact hpl) ?_ ?_
      · intro i hi hil hip
        rw [swapL_len] at hil
        rw [lessAt_swap hs hpl hj]
        by_cases hij : i = j
        · subst hij
          rw [hp]
          have e1 : tr p i i = p := by unfold tr; split <;> simp_all
          have e2 : tr p i p = i := by unfold tr; simp
          rw [e1, e2]
          exact la_asymm hl
        · have e1 : tr p j i = i := by unfold tr; rw [if_neg hip, if_neg hij]
          rw [e1]
          by_cases hq1 : (i - 1) / 2 = j
          · have e2 : tr p j ((i - 1) / 2) = p := by rw [hq1]; unfold tr; split <;> simp_all
            rw [e2, ← hp]
            exact hp ▸ h2 i hi hil hq1 hj0
          · by_cases hq2 : (i - 1) / 2 = p
            · have e2 : tr p j ((i - 1) / 2) = j := by rw [hq2]; unfold tr; simp
              rw [e2]
              cases hx : lessAt hs i j with
              | false => rfl
              | true =>
                have h3 := la_trans hx hl
                have h4 := h1 i hi hil hij
                rw [hq2, h3] at h4
                cases h4
            · have e2 : tr p j ((i - 1) / 2) = (i - 1) / 2 := by unfold tr; rw [if_neg hq2, if_neg hq1]
              rw [e2]
              exact h1 i hi hil hij
      · intro c hc0 hcl hcp hp0
        rw [swapL_len] at hcl
        rw [lessAt_swap hs hpl hj]
        have e2 : tr p j ((p - 1) / 2) = (p - 1) / 2 := by unfold tr; rw [if_neg (by omega), if_neg (by omega)]
        rw [e2]
        by_cases hcj : c = j
        · subst hcj
          have e1 : tr p c c = p := by unfold tr; split <;> simp_all
          rw [e1]
          exact h1 p hp0 hpl (by omega)
        · have e1 : tr p j c = c := by unfold tr; rw [if_neg (by omega), if_neg hcj]
          rw [e1]
          refine la_nt hpl ?_ (h1 p hp0 hpl (by omega))
          have := h1 c hc0 hcl hcj
          rwa [hcp] at this

theorem down_heap (hs : List Hd) (i : Nat) (h1 : ∀ k, 0 < k → k < hs.length → (k - 1) / 2 ≠ i → lessAt hs k ((k - 1) / 2) = false)
    (h2 : ∀ c, 0 < c → c < hs.length → (c - 1) / 2 = i → 0 < i → lessAt hs c ((i - 1) / 2) = false) : HeapOk (downL hs i hs.length).1 := by
  generalize hn : hs.length = n at *
  induction h : n - i using Nat.strongRecOn generalizing hs i with
  | ind d ih =>
    subst h
    rw [downL]
    split
    · rename_i hc
      intro k hk hkl
      have hkl : k < n := hn ▸ hkl
      show lessAt hs k ((k - 1) / 2) = false
      by_cases hki : (k - 1) / 2 = i
      · rw [hki]
        rcases hc with hc | hc
        · omega
        · unfold downJ at hc
          split at hc
          · rename_i hr
            by_cases hk2 : k = 2 * i + 2
            · rw [hk2]; exact hc
            · have : k = 2 * i + 1 := by omega
              rw [this]
              exact la_nt (by omega) (la_asymm hr.2) hc
          · rename_i hr
            by_cases hk2 : k = 2 * i + 1
            · rw [hk2]; exact hc
            · have hk3 : k = 2 * i + 2 := by omega
              have : lessAt hs (2 * i + 2) (2 * i + 1) = false := by
                cases hx : lessAt hs (2 * i + 2) (2 * i + 1) with
                | false => rfl
                | true => exact absurd ⟨by omega, hx⟩ hr
              rw [hk3]
              exact la_nt (by omega) this hc
      · exact h1 k hk hkl hki
    · rename_i hc
      have hil : 2 * i + 1 < n := by omega
      have hl : lessAt hs (downJ hs i n) i = true := by
        cases h : lessAt hs (downJ hs i n) i with
        | true => rfl
        | false => exact absurd (.inr h) hc
      have hJ : (downJ hs i n = 2 * i + 1 ∧ (2 * i + 2 < n → lessAt hs (2 * i + 2) (2 * i + 1) = false)) ∨ (downJ hs i n = 2 * i + 2 ∧ 2 * i + 2 < n ∧ lessAt hs (2 * i + 1) (2 * i + 2) = false) := by
        unfold downJ
        split
        · rename_i hr; exact .inr ⟨rfl, hr.1, la_asymm hr.2⟩
        · rename_i hr
          refine .inl ⟨rfl, fun hlt => ?_⟩
          cases hx : lessAt hs (2 * i + 2) (2 * i + 1) with
          | false => rfl
          | true => exact absurd ⟨hlt, hx⟩ hr
      generalize downJ hs i n = J at *
      have hJn : J < n := by omega
      have hiJ : i < J := by omega
      have hJi : (J - 1) / 2 = i := by omega
      refine ih (n - J) (by omega) (swapL hs i J) J (by rw [swapL_len]; exact hn) ?_ ?_ rfl
      · intro k hk hkl hkJ
        rw [lessAt_swap hs (by omega) (by omega)]
        by_cases h3 : k = J
        · subst h3
          rw [hJi]
          have e1 : tr i k k = i := by unfold tr; rw [if_neg (by omega), if_pos rfl]
          have e2 : tr i k i = k := by unfold tr; rw [if_pos rfl]
          rw [e1, e2]
          exact la_asymm hl
        · by_cases h4 : (k - 1) / 2 = i
          · have e1 : tr i J k = k := by unfold tr; rw [if_neg (by omega), if_neg h3]
            have e2 : tr i J ((k - 1) / 2) = J := by rw [h4]; unfold tr; rw [if_pos rfl]
            rw [e1, e2]
            rcases hJ with ⟨rfl, hJ⟩ | ⟨rfl, _, hJ⟩
            · have hk2 : k = 2 * i + 2 := by omega
              rw [hk2]; exact hJ (by omega)
            · have hk2 : k = 2 * i + 1 := by omega
              rw [hk2]; exact hJ
          · by_cases h5 : k = i
            · subst h5
              have e1 : tr k J k = J := by unfold tr; rw [if_pos rfl]
              have e2 : tr k J ((k - 1) / 2) = (k - 1) / 2 := by unfold tr; rw [if_neg (by omega), if_neg (by omega)]
              rw [e1, e2]
              exact h2 J (by omega) hJn hJi hk
            · have e1 : tr i J k = k := by unfold tr; rw [if_neg h5, if_neg h3]
              have e2 : tr i J ((k - 1) / 2) = (k - 1) / 2 := by unfold tr; rw [if_neg h4, if_neg hkJ]
              rw [e1, e2]
              exact h1 k hk hkl h4
      · intro c hc0 hcl hcJ _
        rw [lessAt_swap hs (by omega) (by omega), hJi]
        have e1 : tr i J c = c := by unfold tr; rw [if_neg (by omega), if_neg (by omega)]
        have e2 : tr i J i = J := by unfold tr; rw [if_pos rfl]
        rw [e1, e2]
        have := h1 c hc0 hcl (by omega)
        rwa [hcJ] at this

/-- the first head is least -/
theorem heap_root {hs : List Hd} (h : HeapOk hs) : ∀ i, i < hs.length → lessAt hs i 0 = false := by
  intro i
  induction i using Nat.strongRecOn with
  | ind i ih =>
    intro hi
    by_cases h0 : i = 0
    · subst h0
      cases hx : lessAt hs 0 0 with
      | false => rfl
      | true => rw [la_asymm hx] at hx; cases hx
    · exact la_nt (by omega) (h i (by omega) hi) (ih ((i - 1) / 2) (by omega) (by omega))

theorem swapL_perm (hs : List Hd) (i k : Nat) : (swapL hs i k).Perm hs := by
  by_cases h : i < hs.length ∧ k < hs.length
  · rw [swapL_eq hs h.1 h.2]
    exact List.set_set_perm h.1 h.2
  · unfold swapL
    split
    · rename_i a b ha hb
      exact absurd ⟨(List.getElem?_eq_some_iff.1 ha).1, (List.getElem?_eq_some_iff.1 hb).1⟩ h
    · exact List.Perm.refl _
theorem upL_perm (hs : List Hd) (j : Nat) : (upL hs j).Perm hs := by
  induction j using Nat.strongRecOn generalizing hs with
  | ind j ih =>
    rw [upL]
    split
    · exact List.Perm.refl _
    · exact (ih _ (by omega) _).trans (swapL_perm _ _ _)
theorem downL_perm (hs : List Hd) (i n : Nat) : (downL hs i n).1.Perm hs := by
  induction h : n - i using Nat.strongRecOn generalizing hs i with
  | ind d ih =>
    subst h
    rw [downL]
    split
    · exact List.Perm.refl _
    · rename_i hc
      have hlt : n - downJ hs i n < n - i := by unfold downJ; split <;> omega
      exact (ih _ hlt _ _ rfl).trans (swapL_perm _ _ _)
theorem frontL_perm (hs : List Hd) : (frontL hs).Perm hs := by
  unfold frontL
  rcases List.eq_nil_or_concat hs with rfl | ⟨ys, z, rfl⟩
  · exact List.Perm.refl _
  · simp only [List.concat_eq_append, List.getLast?_append, List.getLast?_singleton, Option.some_or, Option.toList_some, List.dropLast_concat]
    exact List.perm_append_comm
end Go.Proofs.Ytkjcnjfjecfciaa
