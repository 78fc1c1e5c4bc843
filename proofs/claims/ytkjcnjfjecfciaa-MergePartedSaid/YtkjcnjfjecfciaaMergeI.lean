/- merge.Merge gives the rows of the whole back, where the lists are parts of it. -/
import Derived.Test.YtkjcnjfjecfciaaMergeL
namespace Go.Proofs.Ytkjcnjfjecfciaa
open Go.RowKit

theorem orderTo_iff (l : List Row) : ∀ k, k ≤ l.length → (orderTo l k = true ↔ ∀ i (h : i + 1 < k) (hl : i + 1 < l.length), RowLt l[i] l[i + 1])
  | 0, _ => by simp [orderTo]
  | 1, _ => by simp [orderTo]
  | k + 2, hk => by
    have ih := orderTo_iff l (k + 1) (by omega)
    rw [orderTo_succ l (k + 1) (by omega) (by omega), Bool.and_eq_true, ih, aheadB_iff]
    constructor
    · rintro ⟨h1, h2⟩ i hi hl
      by_cases hik : i = k
      · subst hik; exact h2
      · exact h1 i (by omega) hl
    · intro h
      exact ⟨fun i hi hl => h i (by omega) hl, h k (by omega) (by omega)⟩
theorem srt_iff (l : List Row) : orderB l = true ↔ l.Pairwise RowLt := by
  unfold orderB
  rw [orderTo_iff l l.length (Nat.le_refl _), List.pairwise_iff_getElem]
  constructor
  · intro h i j hi hj hij
    induction j with
    | zero => omega
    | succ j ih =>
      by_cases h2 : i = j
      · subst h2; exact h i hj hj
      · exact (ih (by omega) (by omega)).trans (h j hj hj)
  · intro h i hi hl
    exact h i (i + 1) (by omega) hl (by omega)

def MI (l : List Row) (hs : List Hd) (out : List Row) : Prop :=
  ∃ suf, l = out ++ suf ∧ (hs.flatMap Hd.rows).Perm suf ∧ (∀ h ∈ hs, h.rows.Pairwise RowLt) ∧ HeapOk hs ∧ ∀ h ∈ hs, h.rest.length + 1 ≤ h.c

theorem flatMap_perm {f : Hd → List Row} {a b : List Hd} (h : a.Perm b) : (a.flatMap f).Perm (b.flatMap f) := List.Perm.flatMap_right f h

theorem nextL_tail (h : Hd) (t : List Hd) : ∃ u : List Hd, (nextL (h :: t)).Perm u ∧ (u.flatMap Hd.rows).Perm (h.rest ++ t.flatMap Hd.rows) ∧ (∀ d ∈ u, d ∈ t ∨ ∃ r rest, h.rest = r :: rest ∧ d = ⟨h.A.map (·.add 4), h.c - 1, r, rest, h.ix⟩) ∧
    (HeapOk (h :: t) → HeapOk (nextL (h :: t))) := by
  cases hr : h.rest with
  | nil =>
    have e : nextL (h :: t) = (downL (frontL t) 0 t.length).1 := by unfold nextL; simp only; rw [hr]
    refine ⟨t, ?_, List.Perm.refl _, fun d hd => .inl hd, fun hh => ?_⟩
    · rw [e]; exact (downL_perm _ _ _).trans (frontL_perm _)
    · rw [e, ← frontL_len t]
      refine down_heap _ 0 (fun k hk hkl hk0 => ?_) (fun c _ _ _ h0 => absurd h0 (by omega))
      rw [frontL_len] at hkl
      have key : ∀ k, 0 < k → k < t.length → (frontL t)[k]? = (h :: t)[k]? := by
        intro k hk hkl
        unfold frontL
        rcases List.eq_nil_or_concat t with rfl | ⟨ys, z, rfl⟩
        · simp at hkl
        · obtain ⟨k, rfl⟩ : ∃ j, k = j + 1 := ⟨k - 1, by omega⟩
          simp at hkl
          simp [List.getElem?_append_left hkl]
      unfold lessAt
      rw [key k hk hkl, key ((k - 1) / 2) (by omega) (by omega)]
      have := hh k hk (by simp; omega)
      unfold lessAt at this
      exact this
  | cons r rest =>
    have e : nextL (h :: t) = (downL (⟨h.A.map (·.add 4), h.c - 1, r, rest, h.ix⟩ :: t) 0 (t.length + 1)).1 := by unfold nextL; simp only; rw [hr]
    refine ⟨⟨h.A.map (·.add 4), h.c - 1, r, rest, h.ix⟩ :: t, ?_, ?_, fun d hd => ?_, fun hh => ?_⟩
    · rw [e]; exact downL_perm _ _ _
    · exact List.Perm.refl _
    · rcases List.mem_cons.1 hd with rfl | hd
      · exact .inr ⟨r, rest, rfl, rfl⟩
      · exact .inl hd
    · rw [e]
      refine down_heap (⟨h.A.map (·.add 4), h.c - 1, r, rest, h.ix⟩ :: t) 0 (fun k hk hkl hk0 => ?_) (fun c _ _ _ h0 => absurd h0 (by omega))
      have := hh k hk (by simpa using hkl)
      obtain ⟨k, rfl⟩ : ∃ j, k = j + 1 := ⟨k - 1, by omega⟩
      obtain ⟨p, hp⟩ : ∃ p, (k + 1 - 1) / 2 = p + 1 := ⟨(k + 1 - 1) / 2 - 1, by omega⟩
      unfold lessAt at *
      rw [hp] at this ⊢
      simpa using this

theorem mi_inv (l : List Row) (hl : l.Pairwise RowLt) (hn : l.length ≤ 1000000) : MInv (MI l) := by
  refine ⟨?_, ?_, ?_, ?_⟩
  · rintro h t out ⟨suf, rfl, hp, hs, hh, hc⟩
    rcases List.eq_nil_or_concat out with rfl | ⟨ys, x, rfl⟩
    · exact .inl rfl
    · refine .inr ⟨ys, x, by simp, ?_⟩
      have hm : h.r ∈ suf := hp.subset (by simp [Hd.rows])
      have hlt : RowLt x h.r := (List.pairwise_append.1 hl).2.2 x (by simp) h.r hm
      rcases hlt with hlt | ⟨_, hlt⟩
      · left
        cases hx : (x.key.toList == h.r.key.toList) with
        | false => rfl
        | true =>
          have := eq_of_beq hx
          rw [this] at hlt
          exact absurd hlt (ll_irr _)
      · right
        simp; omega
  · rintro h t out ⟨suf, rfl, hp, hs, hh, hc⟩
    exact hc h (by simp)
  · rintro h t out ⟨suf, rfl, hp, hs, hh, hc⟩
    have hsuf := (List.pairwise_append.1 hl).2.1
    have hm : h.r ∈ suf := hp.subset (by simp [Hd.rows])
    have hmin : ∀ x ∈ suf, ¬ RowLt x h.r := by
      intro x hx hlt
      have hx2 := hp.symm.subset hx
      obtain ⟨d, hd, hxd⟩ := List.mem_flatMap.1 hx2
      have hdl : ¬ RowLt d.r h.r := by
        intro hdl
        obtain ⟨i, hi, rfl⟩ := List.getElem_of_mem hd
        have h0 := heap_root hh i hi
        rw [lessAt_eq _ hi (by simp)] at h0
        have : hdLess (h :: t)[i] h = true := (hdLess_iff _ _).2 (.inl hdl)
        simp only [List.getElem_cons_zero] at h0
        rw [this] at h0
        cases h0
      unfold Hd.rows at hxd
      rcases List.mem_cons.1 hxd with rfl | hxd
      · exact hdl hlt
      · have h3 := hs d hd
        unfold Hd.rows at h3
        exact hdl (((List.pairwise_cons.1 h3).1 x hxd).trans hlt)
    cases suf with
    | nil => cases hm
    | cons s suf =>
      have hse : s = h.r := by
        rcases List.mem_cons.1 hm with hm | hm
        · exact hm.symm
        · exact absurd ((List.pairwise_cons.1 hsuf).1 _ hm) (hmin s (by simp))
      subst hse
      obtain ⟨u, hu1, hu2, hu3, hu4⟩ := nextL_tail h t
      have hp2 : (h.rest ++ t.flatMap Hd.rows).Perm suf := by
        have : (h.r :: (h.rest ++ t.flatMap Hd.rows)).Perm (h.r :: suf) := by simpa [Hd.rows] using hp
        exact List.Perm.cons_inv this
      refine ⟨suf, by simp, ((flatMap_perm hu1).trans hu2).trans hp2, ?_, hu4 hh, ?_⟩
      · intro d hd
        rcases hu3 d (hu1.subset hd) with hd | ⟨r, rest, hr, rfl⟩
        · exact hs d (by simp [hd])
        · have := hs h (by simp)
          unfold Hd.rows at this
          rw [hr] at this
          exact (List.pairwise_cons.1 this).2
      · intro d hd
        rcases hu3 d (hu1.subset hd) with hd | ⟨r, rest, hr, rfl⟩
        · exact hc d (by simp [hd])
        · have := hc h (by simp)
          rw [hr] at this
          simp at this ⊢
          omega
  · rintro hs out ⟨suf, rfl, _⟩
    simp at hn
    omega

theorem push_mi (ps : List Part) (hs : ∀ p ∈ ps, p.rows.Pairwise RowLt) (hc : ∀ p ∈ ps, p.rows.length ≤ p.c) : ∀ i, i ≤ ps.length →
    ((pushTo ps i).flatMap Hd.rows).Perm ((ps.take i).flatMap Part.rows) ∧ (∀ h ∈ pushTo ps i, h.rows.Pairwise RowLt) ∧ HeapOk (pushTo ps i) ∧ ∀ h ∈ pushTo ps i, h.rest.length + 1 ≤ h.c
  | 0, _ => by
    refine ⟨by simp [pushTo], by simp [pushTo], fun i hi hl => ?_, by simp [pushTo]⟩
    simp [pushTo] at hl
  | i + 1, hi => by
    obtain ⟨h1, h2, h3, h4⟩ := push_mi ps hs hc i (by omega)
    have hlt : i < ps.length := by omega
    have ht : ps.take (i + 1) = ps.take i ++ [ps[i]] := by rw [List.take_add_one, List.getElem?_eq_getElem hlt]; rfl
    rw [pushTo_succ ps hlt, ht, List.flatMap_append]
    have hsi := hs _ (List.getElem_mem hlt)
    have hci := hc _ (List.getElem_mem hlt)
    unfold stepP
    split
    · rename_i hr
      rw [show ([ps[i]].flatMap Part.rows) = [] from by simp [hr], List.append_nil]
      exact ⟨h1, h2, h3, h4⟩
    · rename_i r rest hr
      rw [hr] at hsi hci
      rw [show ([ps[i]].flatMap Part.rows) = r :: rest from by simp [hr]]
      have hperm := upL_perm (pushTo ps i ++ [⟨ps[i].A, ps[i].c, r, rest, i⟩]) (pushTo ps i).length
      refine ⟨?_, ?_, ?_, ?_⟩
      · refine (flatMap_perm hperm).trans ?_
        rw [List.flatMap_append]
        exact h1.append (by simp [Hd.rows])
      · intro d hd
        rcases List.mem_append.1 (hperm.subset hd) with hd | hd
        · exact h2 d hd
        · obtain rfl := List.mem_singleton.1 hd; exact hsi
      · refine up_heap _ _ (by simp) (fun k hk hkl hkj => ?_) (fun c hc0 hcl hcj h0 => ?_)
        · simp at hkl
          have := h3 k hk (by omega)
          unfold lessAt at *
          rw [List.getElem?_append_left (by omega), List.getElem?_append_left (by omega)]
          exact this
        · simp at hcl; omega
      · intro d hd
        rcases List.mem_append.1 (hperm.subset hd) with hd | hd
        · exact h4 d hd
        · obtain rfl := List.mem_singleton.1 hd
          simpa using hci

/-- Merge over parts of l gives l. -/
theorem merge_parts (L : Option Addr) (C : Nat) (ps : List Part) (hn : ps.length ≤ 1000000) (w : World)
    (hL : Rd w 1 L (ps.map fun p => [p.v])) (hR : ∀ p ∈ ps, Rd w 4 p.A (p.rows.map Row.cells)) (hc : ∀ p ∈ ps, p.rows.length ≤ p.c)
    (l : List Row) (hl : orderB l = true) (hln : l.length ≤ 1000000) (hsrt : ∀ p ∈ ps, orderB p.rows = true) (hp : (ps.flatMap Part.rows).Perm l) :
    Calls Try.prog 6 #[.slice L ps.length C] w fun e w' => ∃ v, e = .returned (.tuple #[v, .int .i64 0]) ∧
      w'.ownsRow w.heap.size 32 4 v l.length (l.map Row.cells).flatten ∧ Below w.heap.size w w' := by
  have hs : ∀ p ∈ ps, p.rows.Pairwise RowLt := fun p hp => (srt_iff _).1 (hsrt p hp)
  have hlen : ∀ p ∈ ps, p.rows.length ≤ maxLen := by
    intro p hpm
    have h1 : p.rows.length ≤ (ps.flatMap Part.rows).length := by
      obtain ⟨a, b, rfl⟩ := List.append_of_mem hpm
      simp; omega
    have := hp.length_eq
    unfold maxLen
    omega
  obtain ⟨h1, h2, h3, h4⟩ := push_mi ps hs hc ps.length (Nat.le_refl _)
  rw [List.take_length] at h1
  refine (merge_any L C ps hn w hL hR hlen hsrt (MI l) (mi_inv l ((srt_iff l).1 hl) hln) ⟨l, rfl, h1.trans hp, h2, h3, h4⟩).mono ?_
  rintro e w' ⟨v, out, rfl, ⟨suf, rfl, hp2, _⟩, hown, hB⟩
  simp at hp2
  subst hp2
  rw [List.append_nil]
  exact ⟨v, rfl, hown, hB⟩
end Go.Proofs.Ytkjcnjfjecfciaa
