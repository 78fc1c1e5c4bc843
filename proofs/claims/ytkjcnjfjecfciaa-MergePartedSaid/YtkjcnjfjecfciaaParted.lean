/- The walk of freshetlaw13.MergeParted. -/
import Derived.Test.YtkjcnjfjecfciaaAwake
import Derived.Test.YtkjcnjfjecfciaaPartP
namespace Go.Proofs.Ytkjcnjfjecfciaa
open Go.RowKit

theorem own_blk {w : World} {base n c g size : Nat} {e : TypeId} {xs : List Value} (h : w.ownsRow base e size (.slice (some ⟨g, 0, none⟩) n c) n xs) : ∃ cur, Blk w g e cur := by
  rcases h.2 with ⟨h', _⟩ | ⟨g', cap', cur, h', _, hg, _⟩
  · simp at h'
  · simp only [Value.slice.injEq, Option.some.injEq, Addr.mk.injEq, and_true, true_and] at h'
    obtain ⟨rfl, rfl⟩ := h'
    exact ⟨cur, hg⟩

/-- five slices of the call's own, in a slice of its own -/
structure LS (w : World) (base g c : Nat) (l : List Row) (f : Nat → Nat) (i : Nat) (vs : List Value) : Prop where
  len : vs.length = 5
  own : w.ownsRow base 22 1 (.slice (some ⟨g, 0, none⟩) 5 c) 5 vs
  rows : ∀ k (h : k < vs.length), w.ownsRow base 32 4 vs[k] (partTo l f k i).length ((partTo l f k i).map Row.cells).flatten
  apart : ∀ k j (hk : k < vs.length) (hj : j < vs.length), k ≠ j → vs[k].ownBlock = none ∨ vs[k].ownBlock ≠ vs[j].ownBlock

theorem LS.step {w w1 : World} {base g c : Nat} {l : List Row} {f : Nat → Nat} {i : Nat} {vs : List Value} (h : LS w base g c l f i vs) (hi : i < l.length) (hf : f i < 5) {v' : Value}
    (hown : w1.ownsRow base 32 4 v' ((partTo l f (f i) i).length + 1) (((partTo l f (f i) i).map Row.cells).flatten ++ l[i].cells))
    (hg : w.grownBy w1 (vs[f i]'(by rw [h.len]; exact hf)).ownBlock) (hv : v'.ownBlock = (vs[f i]'(by rw [h.len]; exact hf)).ownBlock ∨ ∃ g, v'.ownBlock = some g ∧ w.heap.size ≤ g) :
    LS (w1.setCell ⟨g, f i, none⟩ v') base g c l f (i + 1) (vs.set (f i) v') := by
  have hfl : f i < vs.length := by rw [h.len]; exact hf
  obtain ⟨cur, hB⟩ := own_blk h.own
  have hgne : ∀ k (hk : k < vs.length), vs[k].ownBlock ≠ some g := fun k hk => own_blk_ne (h.rows k hk) hB (by decide)
  have hgl : g < w.heap.size := hB.lt
  have hvg : v'.ownBlock ≠ some g := by
    rcases hv with hv | ⟨g', hv, hg'⟩
    · rw [hv]; exact hgne _ hfl
    · rw [hv]; intro e; injection e with e; omega
  have hlt : ∀ k (hk : k < vs.length) b, vs[k].ownBlock = some b → b < w.heap.size := fun k hk b hb => ((h.rows k hk).lt b hb).2
  refine ⟨by simp [h.len], ?_, ?_, ?_⟩
  · have h1 := h.own.kept hg (.inr (by simpa [Value.ownBlock] using fun e => hgne _ hfl e.symm))
    exact (h1.stored (f i) v').1
  · intro k hk
    simp only [List.length_set] at hk
    rw [List.getElem_set]
    by_cases hk2 : f i = k
    · subst hk2
      rw [if_pos rfl, partTo, if_pos rfl, List.getElem?_eq_getElem hi]
      refine ownsRow_setCell_other ?_ hvg v'
      simpa using hown
    · rw [if_neg hk2, partTo, if_neg hk2]
      refine ownsRow_setCell_other ?_ (hgne k hk) v'
      exact (h.rows k hk).kept hg (h.apart k (f i) hk hfl (fun e => hk2 e.symm))
  · intro k j hk hj hkj
    simp only [List.length_set] at hk hj
    rw [List.getElem_set, List.getElem_set]
    by_cases hk2 : f i = k
    · by_cases hj2 : f i = j
      · exact absurd (hk2.symm.trans hj2) hkj
      · rw [if_pos hk2, if_neg hj2]
        rcases hv with hv | ⟨g', hv, hg'⟩
        · rw [hv]; subst hk2; exact h.apart _ j hfl hj hkj
        · right; rw [hv]; intro e; have := hlt j hj g' e.symm; omega
    · by_cases hj2 : f i = j
      · rw [if_neg hk2, if_pos hj2]
        rcases hv with hv | ⟨g', hv, hg'⟩
        · rw [hv]; subst hj2; exact h.apart k _ hk hfl hkj
        · right; rw [hv]; intro e; have := hlt k hk g' e; omega
      · rw [if_neg hk2, if_neg hj2]; exact h.apart k j hk hj hkj

theorem LS.slot {w w1 : World} {base g c : Nat} {l : List Row} {f : Nat → Nat} {i : Nat} {vs : List Value} (h : LS w base g c l f i vs) (k : Nat) (hk : k < vs.length) (hg : w.grownBy w1 vs[k].ownBlock) :
    w1.cell? ⟨g, k, none⟩ = some vs[k] ∧ w1.frozen? ⟨g, k, none⟩ = false := by
  obtain ⟨cur, hB⟩ := own_blk h.own
  have hgne := own_blk_ne (h.rows k hk) hB (by decide)
  have h1 := h.own.kept hg (.inr (by simpa [Value.ownBlock] using fun e => hgne e.symm))
  exact ⟨(h1.cellAt k (by have := h.len; omega)).trans (List.getElem?_eq_getElem hk), h1.frozenAt k⟩

theorem LS.below {w w1 : World} {base g c : Nat} {l : List Row} {f : Nat → Nat} {i : Nat} {vs : List Value} (h : LS w base g c l f i vs) (hB : Below w.heap.size w w1) : LS w1 base g c l f i vs :=
  ⟨h.len, own_below h.own hB, fun k hk => own_below (h.rows k hk) hB, h.apart⟩

theorem LS.start {w : World} {base g c : Nat} {l : List Row} {f : Nat → Nat} (h : w.ownsRow base 22 1 (.slice (some ⟨g, 0, none⟩) 5 c) 5 (List.replicate 5 (.slice none 0 0))) : LS w base g c l f 0 (List.replicate 5 (.slice none 0 0)) := by
  refine ⟨rfl, h, fun k hk => ?_, fun k j hk hj _ => ?_⟩
  · rw [List.getElem_replicate]; exact World.ownsRow_nil _ _ _ _
  · rw [List.getElem_replicate]; exact .inl rfl

theorem parts_rd {w : World} {base n c : Nat} {A : Option Addr} {t : TypeId} {ps : List Part} (h : w.ownsRow base t 1 (.slice A n c) n (ps.map Part.v)) : Rd w 1 A (ps.map fun p => [p.v]) := by
  refine Rd.ofOwn (base := base) (n := n) (c := c) (e := t) (by omega) (by intro x hx; obtain ⟨r, _, rfl⟩ := List.mem_map.1 hx; rfl) ?_
  have e : (ps.map fun p => [p.v]).flatten = ps.map Part.v := by
    clear h
    induction ps with
    | nil => rfl
    | cons p ps ih => rw [List.map_cons, List.flatten_cons, ih]; rfl
  rw [e]
  exact h

theorem rows_rd {w : World} {base n c : Nat} {A : Option Addr} {t : TypeId} {rows : List Row} (h : w.ownsRow base t 4 (.slice A n c) n (rows.map Row.cells).flatten) : Rd w 4 A (rows.map Row.cells) :=
  Rd.ofOwn (base := base) (n := n) (c := c) (e := t) (by omega) (by intro x hx; obtain ⟨r, _, rfl⟩ := List.mem_map.1 hx; rfl) h

theorem five_eq {α : Type} : ∀ (vs : List α), vs.length = 5 → ∃ x0 x1 x2 x3 x4, vs = [x0, x1, x2, x3, x4]
  | [x0, x1, x2, x3, x4], _ => ⟨x0, x1, x2, x3, x4, rfl⟩

theorem LS.parts {w : World} {base g c : Nat} {l : List Row} {f : Nat → Nat} {vs : List Value} (h : LS w base g c l f l.length vs) (hf : ∀ i, f i < 5) (ho : orderB l = true) :
    ∃ ps : List Part, vs = ps.map Part.v ∧ ps.length = 5 ∧ (∀ p ∈ ps, Rd w 4 p.A (p.rows.map Row.cells)) ∧ (∀ p ∈ ps, p.rows.length ≤ p.c) ∧ (∀ p ∈ ps, orderB p.rows = true) ∧ (ps.flatMap Part.rows).Perm l := by
  obtain ⟨x0, x1, x2, x3, x4, rfl⟩ := five_eq vs h.len
  have one : ∀ k (hk : k < 5), ∃ p : Part, [x0, x1, x2, x3, x4][k]'(by simpa using hk) = p.v ∧ p.rows = partTo l f k l.length ∧ Rd w 4 p.A (p.rows.map Row.cells) ∧ p.rows.length ≤ p.c ∧ orderB p.rows = true := by
    intro k hk
    have hown := h.rows k (by simpa using hk)
    obtain ⟨A, c', e⟩ := own_shape hown
    rw [e] at hown
    exact ⟨⟨A, c', partTo l f k l.length⟩, e, rfl, Rd.ofOwn (by omega) (by intro x hx; obtain ⟨r, _, rfl⟩ := List.mem_map.1 hx; rfl) hown, own_cap hown, partTo_order l f k ho⟩
  obtain ⟨p0, e0, r0, a0, b0, c0⟩ := one 0 (by omega)
  obtain ⟨p1, e1, r1, a1, b1, c1⟩ := one 1 (by omega)
  obtain ⟨p2, e2, r2, a2, b2, c2⟩ := one 2 (by omega)
  obtain ⟨p3, e3, r3, a3, b3, c3⟩ := one 3 (by omega)
  obtain ⟨p4, e4, r4, a4, b4, c4⟩ := one 4 (by omega)
  simp only [List.getElem_cons_zero, List.getElem_cons_succ] at e0 e1 e2 e3 e4
  subst e0 e1 e2 e3 e4
  refine ⟨[p0, p1, p2, p3, p4], rfl, rfl, ?_, ?_, ?_, ?_⟩
  · intro p hp
    simp only [List.mem_cons, List.not_mem_nil, or_false] at hp
    rcases hp with rfl | rfl | rfl | rfl | rfl <;> assumption
  · intro p hp
    simp only [List.mem_cons, List.not_mem_nil, or_false] at hp
    rcases hp with rfl | rfl | rfl | rfl | rfl <;> assumption
  · intro p hp
    simp only [List.mem_cons, List.not_mem_nil, or_false] at hp
    rcases hp with rfl | rfl | rfl | rfl | rfl <;> assumption
  · have := partTo_perm l f hf l.length (Nat.le_refl _)
    rw [List.take_length] at this
    simpa [r0, r1, r2, r3, r4] using this

set_option maxHeartbeats 1000000 in
theorem parted_any (A W : Option Addr) (c d : Nat) (l : List Row) (ws : List Int) (w : World) (hl : l.length ≤ c) (hc : c * 48 ≤ 140737488351232) (hr : Rd w 4 A (l.map Row.cells))
    (hw : Rd w 1 W (ws.map fun x => [Value.int .i64 x])) (hwl : ws.length ≤ maxLen) :
    Calls Try.prog 3 #[.slice A l.length c, .slice W ws.length d] w fun e w' => e = .returned (.bool true) ∧ Below w.heap.size w w' := by
  by_cases h100 : 100 < l.length
  · have hi1 : (100 : Int) < (l.length : Int) := by omega
    go_enter Try.func3, Try.ntmps3
    go_wp2_with (go_at_call 4; refine (awake_any _).mono ?_; rintro e w1 ⟨rfl, hB1⟩)
    go_ret
    exact ⟨rfl, hB1⟩
  have hi1 : ¬ (100 : Int) < (l.length : Int) := by omega
  cases ho : orderB l with
  | false =>
    have h1 := at_bad A c l 0 w (by unfold maxLen; omega) hr ho
    have H1 := Lib.hid h1
    clear h1 ho
    go_enter Try.func3, Try.ntmps3
    go_wp2_with (first
      | (go_at_call 5; refine H1.out.mono ?_; rintro e w1 ⟨rfl, hB1⟩)
      | (go_at_call 4; refine (awake_any _).mono ?_; rintro e w2 ⟨rfl, hB2⟩))
    go_ret
    exact ⟨rfl, hB1.trans (hB2.mono hB1.size)⟩
  | true =>
    have h1 := at_any A c l 0 w hl hc hr ho
    have H1 := Lib.hid h1
    have HO := Lib.hid ho
    clear h1 ho
    go_enter Try.func3, Try.ntmps3
    go_wp2_with (go_at_call 5; refine H1.out.mono ?_; rintro e w1 ⟨v1, rfl, _, hB1⟩)
    go_loopw [7, 9] (fun v i wr => ∃ j : Nat, j ≤ 5 ∧ i = .int .i64 j ∧ wr.ownsRow w1.heap.size 22 1 v j (List.replicate j (.slice none 0 0)) ∧ Below w1.heap.size w1 wr) (fun _ i _ => 5 - (intOf i).toNat)
    case atStart => exact ⟨0, by omega, rfl, by simpa using World.ownsRow_nil _ _ _ _, Below.refl _ _⟩
    case round =>
      obtain ⟨j, hj, rfl, hown, hB⟩ := hrel
      by_cases hlt : j < 5
      · have hi2 : (j : Int) < 5 := by omega
        go_wp2_with (at_builtin; refine wpList_app1 elSl rfl _ _ rfl (by rfl) (by exact hown) (by rfl) (by simp) (by rfl) (by simp [Value.oneCell']) (by unfold maxLen; omega) (by omega) (by exact hB.size) ?_; intro v5 w5 hown5 hg5 _ hB5)
        go_roundw
        case rel => exact ⟨j + 1, by omega, by go_num, by simpa [List.replicate_succ'] using hown5, hB.trans hB5⟩
        case measure => simp [intOf]; omega
      · have hj5 : j = 5 := by omega
        rw [hj5] at hown
        have hi5 : ¬ (j : Int) < 5 := by omega
        clear H1 hlt hj hj5
        obtain ⟨A5, c5, rfl⟩ := own_shape hown
        obtain ⟨g, rfl, hg, hgl, _⟩ := own_at hown (by omega)
        have hls := LS.start (l := l) (f := clsAt ws) hown
        clear hown
        go_wp2
        go_loopw [10] (fun i wr => ∃ (j : Nat) (vs : List Value), j ≤ l.length ∧ i = .int .i64 j ∧ LS wr w1.heap.size g c5 l (clsAt ws) j vs ∧ Below w1.heap.size w1 wr) (fun i _ => l.length - (intOf i).toNat)
        case atStart => exact ⟨0, _, Nat.zero_le _, rfl, hls, hB⟩
        case round =>
          obtain ⟨j, vs, hj, rfl, hls, hB⟩ := hrel
          by_cases hlt : j < l.length
          · obtain ⟨a, o, rfl, ha, a1, a2, a3, a4⟩ := (hr.below (hB1.trans (hB.mono hB1.size))).row hlt
            have hi2 : (0 : Int) ≤ (j : Int) := by omega
            have hi3 : (j : Int) < (l.length : Int) := by omega
            have hvl := hls.len
            have hpl := partTo_len l (clsAt ws)
            by_cases hjw : j < ws.length
            · obtain ⟨_, aw, ow, rfl, hcw⟩ := hw j _ (by rw [List.getElem?_map, List.getElem?_eq_getElem hjw]; rfl)
              have hcw0 := hcw 0 _ rfl
              simp only [Nat.mul_one, Nat.add_zero] at hcw0
              have hcw1 := ((hB1.trans (hB.mono hB1.size)).cell (p := ⟨aw, ow + j, none⟩) (World.block_lt_of_cell? w _ hcw0)).trans hcw0
              have hi4 : (j : Int) < (ws.length : Int) := by omega
              clear hcw hcw0
              by_cases hx0 : Int.tmod ws[j] 5 < 0
              · obtain ⟨k, hk⟩ : ∃ k : Nat, Int.tmod ws[j] 5 + 5 = k := ⟨(Int.tmod ws[j] 5 + 5).toNat, by have := Int.lt_tmod_of_pos ws[j] (b := 5) (by omega); omega⟩
                have hk0 : (0 : Int) ≤ (k : Int) := by omega
                have hk5 : (k : Int) < 5 := by omega
                have HC : Hid (clsAt ws j = k) := by show _ = _; unfold clsAt; rw [List.getElem?_eq_getElem hjw]; simp only []; rw [if_pos hx0, hk]; simp
                have hk4 : k < 5 := by omega
                obtain ⟨Ak, ck, hsk⟩ := own_shape (hls.rows k (by omega))
                have hownk := hls.rows k (by omega)
                rw [hsk] at hownk
                obtain ⟨g', hg', hgl5, hgl, hcell⟩ := own_at hls.own (by omega)
                injection hg' with hg'
                injection hg' with hg'
                subst hg'
                have hck := hcell k _ (List.getElem?_eq_getElem (by omega))
                rw [hsk] at hck
                have HSK := Lib.hid hsk
                have hpl0 := hpl k j
                clear hcell hsk hr hpl
                generalize hnk : (partTo l (clsAt ws) k j).length = nk at *
                have HNK := Lib.hid hnk
                clear hnk
                go_wp2
                refine wp_region_canonS (fun w2 => Below wr.heap.size wr w2) [2, 3, 4, 5] [0, 1, 6, 7, 8, 9] [10] [11, 12, 13] mixed (by kernel_rfl) (by rfl) (Below.refl _ _).drew ?_
                simp only [pickOps, List.map_cons, List.map_nil, List.getD_cons_zero, List.getD_cons_succ]
                refine wpS_step rfl (.slice (some ⟨g, 0, none⟩) 5 c5) (fun w2 hS => rfl) ?_
                refine wpS_step rfl (.int .i64 k) (fun w2 hS => rfl) ?_
                refine wpS_step rfl (.pointer (some ⟨g, k, none⟩)) (fun w2 hS => ?_) ?_
                · go_simp
                refine wpS_step rfl (.slice Ak nk ck) (fun w2 hS => ?_) ?_
                · have hc2 := (hS.cell (p := ⟨g, k, none⟩) hgl).trans hck
                  go_simp
                refine wpS_nil ?_
                repeat still_step
                refine wpStill_nil ?_
                clear a1 a2 a3 a4 hck
                have hls4 : LS wr.drew w1.heap.size g c5 l (clsAt ws) j vs := ⟨hls.len, hls.own, hls.rows, hls.apart⟩
                have hownk4 : wr.drew.ownsRow w1.heap.size 32 4 (.slice Ak nk ck) nk ((partTo l (clsAt ws) k j).map Row.cells).flatten := hownk
                have hB4 : Below w1.heap.size w1 wr.drew := hB.drew
                have hB3 : Below wr.heap.size wr wr.drew := (Below.refl _ _).drew
                have hgw : g < wr.drew.heap.size := hgl
                clear hls hownk hB hgl
                generalize wr.drew = w4 at *
                refine wpKeep_step rfl ?_
                intro K hK
                go_simp
                refine hK _ _ (hB3.alloc (by simpa using hB3.size) _) ?_
                clear hK K
                refine wpKeep_nil ?_
                clear hB3
                go_wp2_with (at_builtin; refine wpList_app1 elRow rfl _ _ rfl (by rfl) (by exact hownk4) (by rfl) (by simp) (by rfl) (by simp [Value.oneCell']) (by unfold maxLen; omega) (by omega) (by exact hB4.size) ?_; intro v5 w5 hown5 hg5 hv5 hB5; obtain ⟨A5, c6, rfl⟩ := own_shape hown5; have hg6 : w4.grownBy w5 (vs[k]'(by omega)).ownBlock := (by rw [HSK.out]; exact hg5); have hv6 : (Value.slice A5 (nk + 1) c6).ownBlock = (vs[k]'(by omega)).ownBlock ∨ ∃ g, (Value.slice A5 (nk + 1) c6).ownBlock = some g ∧ w4.heap.size ≤ g := (by rw [HSK.out]; exact hv5); clear hg5 hv5; have HG6 := Lib.hid hg6; have HV6 := Lib.hid hv6; clear hv6; obtain ⟨hc6, hf6⟩ := hls4.slot k (by omega) hg6; rw [HSK.out] at hc6; clear hg6)
                refine NP.normal ?_
                go_wp2
                go_roundw
                case rel =>
                  refine ⟨j + 1, vs.set k (.slice A5 (nk + 1) c6), by omega, by go_num, ?_, ?_⟩
                  · have e := HC.out
                    have := hls4.step (v' := .slice A5 (nk + 1) c6) (w1 := w5) hlt (by omega) (by simp only [e, HNK.out]; exact hown5) (by simp only [e]; exact HG6.out) (by simp only [e]; exact HV6.out)
                    simp only [e] at this
                    exact this
                  · exact (hB4.trans hB5).setCell (by exact hgl5) _
                case measure => simp [intOf]; omega
              · obtain ⟨k, hk⟩ : ∃ k : Nat, Int.tmod ws[j] 5 = k := ⟨(Int.tmod ws[j] 5).toNat, by omega⟩
                have hk0 : (0 : Int) ≤ (k : Int) := by omega
                have hk5 : (k : Int) < 5 := by have := Int.tmod_lt_of_pos ws[j] (b := 5) (by omega); omega
                have HC : Hid (clsAt ws j = k) := by show _ = _; unfold clsAt; rw [List.getElem?_eq_getElem hjw]; simp only []; rw [if_neg hx0, hk]; simp
                have hk4 : k < 5 := by omega
                obtain ⟨Ak, ck, hsk⟩ := own_shape (hls.rows k (by omega))
                have hownk := hls.rows k (by omega)
                rw [hsk] at hownk
                obtain ⟨g', hg', hgl5, hgl, hcell⟩ := own_at hls.own (by omega)
                injection hg' with hg'
                injection hg' with hg'
                subst hg'
                have hck := hcell k _ (List.getElem?_eq_getElem (by omega))
                rw [hsk] at hck
                have HSK := Lib.hid hsk
                have hpl0 := hpl k j
                clear hcell hsk hr hpl
                generalize hnk : (partTo l (clsAt ws) k j).length = nk at *
                have HNK := Lib.hid hnk
                clear hnk
                go_wp2
                refine wp_region_canonS (fun w2 => Below wr.heap.size wr w2) [2, 3, 4, 5] [0, 1, 6, 7, 8, 9] [10] [11, 12, 13] mixed (by kernel_rfl) (by rfl) (Below.refl _ _).drew ?_
                simp only [pickOps, List.map_cons, List.map_nil, List.getD_cons_zero, List.getD_cons_succ]
                refine wpS_step rfl (.slice (some ⟨g, 0, none⟩) 5 c5) (fun w2 hS => rfl) ?_
                refine wpS_step rfl (.int .i64 k) (fun w2 hS => rfl) ?_
                refine wpS_step rfl (.pointer (some ⟨g, k, none⟩)) (fun w2 hS => ?_) ?_
                · go_simp
                refine wpS_step rfl (.slice Ak nk ck) (fun w2 hS => ?_) ?_
                · have hc2 := (hS.cell (p := ⟨g, k, none⟩) hgl).trans hck
                  go_simp
                refine wpS_nil ?_
                repeat still_step
                refine wpStill_nil ?_
                clear a1 a2 a3 a4 hck
                have hls4 : LS wr.drew w1.heap.size g c5 l (clsAt ws) j vs := ⟨hls.len, hls.own, hls.rows, hls.apart⟩
                have hownk4 : wr.drew.ownsRow w1.heap.size 32 4 (.slice Ak nk ck) nk ((partTo l (clsAt ws) k j).map Row.cells).flatten := hownk
                have hB4 : Below w1.heap.size w1 wr.drew := hB.drew
                have hB3 : Below wr.heap.size wr wr.drew := (Below.refl _ _).drew
                have hgw : g < wr.drew.heap.size := hgl
                clear hls hownk hB hgl
                generalize wr.drew = w4 at *
                refine wpKeep_step rfl ?_
                intro K hK
                go_simp
                refine hK _ _ (hB3.alloc (by simpa using hB3.size) _) ?_
                clear hK K
                refine wpKeep_nil ?_
                clear hB3
                go_wp2_with (at_builtin; refine wpList_app1 elRow rfl _ _ rfl (by rfl) (by exact hownk4) (by rfl) (by simp) (by rfl) (by simp [Value.oneCell']) (by unfold maxLen; omega) (by omega) (by exact hB4.size) ?_; intro v5 w5 hown5 hg5 hv5 hB5; obtain ⟨A5, c6, rfl⟩ := own_shape hown5; have hg6 : w4.grownBy w5 (vs[k]'(by omega)).ownBlock := (by rw [HSK.out]; exact hg5); have hv6 : (Value.slice A5 (nk + 1) c6).ownBlock = (vs[k]'(by omega)).ownBlock ∨ ∃ g, (Value.slice A5 (nk + 1) c6).ownBlock = some g ∧ w4.heap.size ≤ g := (by rw [HSK.out]; exact hv5); clear hg5 hv5; have HG6 := Lib.hid hg6; have HV6 := Lib.hid hv6; clear hv6; obtain ⟨hc6, hf6⟩ := hls4.slot k (by omega) hg6; rw [HSK.out] at hc6; clear hg6)
                refine NP.normal ?_
                go_wp2
                go_roundw
                case rel =>
                  refine ⟨j + 1, vs.set k (.slice A5 (nk + 1) c6), by omega, by go_num, ?_, ?_⟩
                  · have e := HC.out
                    have := hls4.step (v' := .slice A5 (nk + 1) c6) (w1 := w5) hlt (by omega) (by simp only [e, HNK.out]; exact hown5) (by simp only [e]; exact HG6.out) (by simp only [e]; exact HV6.out)
                    simp only [e] at this
                    exact this
                  · exact (hB4.trans hB5).setCell (by exact hgl5) _
                case measure => simp [intOf]; omega
            · have hi4 : ¬ (j : Int) < (ws.length : Int) := by omega
              have HC : Hid (clsAt ws j = 0) := by show _ = _; unfold clsAt; rw [List.getElem?_eq_none (by omega)]
              obtain ⟨Ak, ck, hsk⟩ := own_shape (hls.rows 0 (by omega))
              have hownk := hls.rows 0 (by omega)
              rw [hsk] at hownk
              obtain ⟨g', hg', hgl5, hgl, hcell⟩ := own_at hls.own (by omega)
              injection hg' with hg'
              injection hg' with hg'
              subst hg'
              have hck := hcell 0 _ (List.getElem?_eq_getElem (by omega))
              rw [hsk] at hck
              have HSK := Lib.hid hsk
              have hpl0 := hpl 0 j
              clear hcell hsk hr hpl
              generalize hnk : (partTo l (clsAt ws) 0 j).length = nk at *
              have HNK := Lib.hid hnk
              clear hnk
              go_wp2
              refine wp_region_canonS (fun w2 => Below wr.heap.size wr w2) [2, 3, 4, 5] [0, 1, 6, 7, 8, 9] [10] [11, 12, 13] mixed (by kernel_rfl) (by rfl) (Below.refl _ _).drew ?_
              simp only [pickOps, List.map_cons, List.map_nil, List.getD_cons_zero, List.getD_cons_succ]
              refine wpS_step rfl (.slice (some ⟨g, 0, none⟩) 5 c5) (fun w2 hS => rfl) ?_
              refine wpS_step rfl (.int .i64 0) (fun w2 hS => rfl) ?_
              refine wpS_step rfl (.pointer (some ⟨g, 0, none⟩)) (fun w2 hS => ?_) ?_
              · go_simp
              refine wpS_step rfl (.slice Ak nk ck) (fun w2 hS => ?_) ?_
              · have hc2 := (hS.cell (p := ⟨g, 0, none⟩) hgl).trans hck
                go_simp
              refine wpS_nil ?_
              repeat still_step
              refine wpStill_nil ?_
              clear a1 a2 a3 a4 hck
              have hls4 : LS wr.drew w1.heap.size g c5 l (clsAt ws) j vs := ⟨hls.len, hls.own, hls.rows, hls.apart⟩
              have hownk4 : wr.drew.ownsRow w1.heap.size 32 4 (.slice Ak nk ck) nk ((partTo l (clsAt ws) 0 j).map Row.cells).flatten := hownk
              have hB4 : Below w1.heap.size w1 wr.drew := hB.drew
              have hB3 : Below wr.heap.size wr wr.drew := (Below.refl _ _).drew
              have hgw : g < wr.drew.heap.size := hgl
              clear hls hownk hB hgl
              generalize wr.drew = w4 at *
              refine wpKeep_step rfl ?_
              intro K hK
              go_simp
              refine hK _ _ (hB3.alloc (by simpa using hB3.size) _) ?_
              clear hK K
              refine wpKeep_nil ?_
              clear hB3
              go_wp2_with (at_builtin; refine wpList_app1 elRow rfl _ _ rfl (by rfl) (by exact hownk4) (by rfl) (by simp) (by rfl) (by simp [Value.oneCell']) (by unfold maxLen; omega) (by omega) (by exact hB4.size) ?_; intro v5 w5 hown5 hg5 hv5 hB5; obtain ⟨A5, c6, rfl⟩ := own_shape hown5; have hg6 : w4.grownBy w5 (vs[0]'(by omega)).ownBlock := (by rw [HSK.out]; exact hg5); have hv6 : (Value.slice A5 (nk + 1) c6).ownBlock = (vs[0]'(by omega)).ownBlock ∨ ∃ g, (Value.slice A5 (nk + 1) c6).ownBlock = some g ∧ w4.heap.size ≤ g := (by rw [HSK.out]; exact hv5); clear hg5 hv5; have HG6 := Lib.hid hg6; have HV6 := Lib.hid hv6; clear hv6; obtain ⟨hc6, hf6⟩ := hls4.slot 0 (by omega) hg6; rw [HSK.out] at hc6; clear hg6)
              refine NP.normal ?_
              go_wp2
              go_roundw
              case rel =>
                refine ⟨j + 1, vs.set 0 (.slice A5 (nk + 1) c6), by omega, by go_num, ?_, ?_⟩
                · have e := HC.out
                  have := hls4.step (v' := .slice A5 (nk + 1) c6) (w1 := w5) hlt (by omega) (by simp only [e, HNK.out]; exact hown5) (by simp only [e]; exact HG6.out) (by simp only [e]; exact HV6.out)
                  simp only [e] at this
                  exact this
                · exact (hB4.trans hB5).setCell (by exact hgl5) _
              case measure => simp [intOf]; omega
          · obtain rfl : j = l.length := by omega
            obtain ⟨ps, rfl, hps5, hprd, hpc, hpo, hperm⟩ := hls.parts (clsAt_lt ws) HO.out
            obtain ⟨_, hgo, hgl5, hgl6, hcell⟩ := own_at hls.own (by omega)
            injection hgo with hgo
            injection hgo with hgo
            subst hgo
            have hown := hls.own
            clear hls
            have hB0 : Below w.heap.size w wr := hB1.trans (hB.mono hB1.size)
            have HP := Lib.hid hps5
            have HOW := Lib.hid hown
            have HB := Lib.hid hB
            clear hps5 hown hB
            generalize wr = wA at *
            go_wp2
            go_loopw [8, 12] (fun v i wq => ∃ m : Nat, m ≤ 5 ∧ i = .int .i64 m ∧ wq.ownsRow wA.heap.size 22 1 v m ((ps.reverse.take m).map Part.v) ∧ Below wA.heap.size wA wq) (fun _ i _ => 5 - (intOf i).toNat)
            case atStart => exact ⟨0, by omega, rfl, by simpa using World.ownsRow_nil _ _ _ _, Below.refl _ _⟩
            case round =>
              obtain ⟨m, hm, rfl, hown, hB⟩ := hrel
              have hp5 := HP.out
              by_cases hm5 : m < 5
              · have hi6 : (m : Int) < 5 := by omega
                have hi7 : (0 : Int) ≤ ((4 - m : Nat) : Int) := by omega
                have hi8 : ((4 - m : Nat) : Int) < 5 := by omega
                have hwr : IntKind.i64.wrap (4 - (m : Int)) = ((4 - m : Nat) : Int) := by rw [IntWalk.i64_in _ (by omega)]; omega
                have hwe : (4 - (m : Int)) = ((4 - m : Nat) : Int) := by omega
                obtain ⟨pm, hpm⟩ : ∃ pm, ps[4 - m]? = some pm := ⟨_, List.getElem?_eq_getElem (by omega)⟩
                have hck := ((hB.cell (p := ⟨g, 4 - m, none⟩) hgl6).trans (HOW.out.cellAt (4 - m) (by omega))).trans ((List.getElem?_map ..).trans (by rw [hpm]; rfl : _ = some pm.v))
                unfold Part.v at hck
                have htk : ps.reverse.take (m + 1) = ps.reverse.take m ++ [pm] := by
                  rw [List.take_add_one, List.getElem?_reverse (by omega), hp5, show 5 - 1 - m = 4 - m from by omega, hpm]; rfl
                have HT := Lib.hid htk
                clear htk hp5 hpm
                go_wp2_with (at_builtin; refine wpList_app1 elSl rfl _ _ rfl (by rfl) (by exact hown) (by rfl) (by simp) (by rfl) (by simp [Value.oneCell']) (by unfold maxLen; omega) (by omega) (by exact hB.size) ?_; intro v5 w5 hown5 hg5 _ hB5)
                go_roundw
                case rel =>
                  refine ⟨m + 1, by omega, by go_num, ?_, hB.trans hB5⟩
                  rw [HT.out, List.map_append]
                  exact hown5
                case measure => simp [intOf]; omega
              · have hi6 : ¬ (m : Int) < 5 := by omega
                have hm5 : m = 5 := by omega
                have hrev : ps.reverse.take m = ps.reverse := List.take_of_length_le (by simp; omega)
                rw [hrev, hm5] at hown
                clear hrev hm5
                obtain ⟨A8, c8, rfl⟩ := own_shape hown
                have hrA := parts_rd HOW.out
                have hrB := parts_rd hown
                have mA := fun W (hW : Below wA.heap.size wA W) => merge_parts (some ⟨g, 0, none⟩) c5 ps (by omega) W (hrA.below hW) (fun p hp => (hprd p hp).below hW) hpc l HO.out (by omega) hpo hperm
                have mB := fun W (hW : Below wr.heap.size wr W) (hV : Below wA.heap.size wA W) => merge_parts A8 c8 ps.reverse (by rw [List.length_reverse]; omega) W (hrB.below hW) (fun p hp => (hprd p (List.mem_reverse.1 hp)).below hV) (fun p hp => hpc p (List.mem_reverse.1 hp)) l HO.out (by omega) (fun p hp => hpo p (List.mem_reverse.1 hp)) (((List.reverse_perm ps).flatMap_right Part.rows).trans hperm)
                simp only [List.length_reverse, hp5] at mA mB
                have HMA := Lib.hid mA
                have HMB := Lib.hid mB
                have HBB := Lib.hid hB
                have hln : l.length ≤ maxLen := by unfold maxLen; omega
                have hrl := fun W (hW : Below w.heap.size w W) => hr.below hW
                have HRL := Lib.hid hrl
                clear mA mB hrA hrB hown hp5 hcell hprd hpc hpo hperm hm hr hw hrl hB hlt hj
                go_wp2_with (first
                  | (go_at_call 6; refine (HMA.out _ HBB.out).mono ?_; rintro e w5 ⟨v5, rfl, hown5, hB5⟩; obtain ⟨A5, c6, rfl⟩ := own_shape hown5; clear HMA)
                  | (go_at_call 6; refine (HMB.out _ hB5 (HBB.out.trans (hB5.mono HBB.out.size))).mono ?_; rintro e w6 ⟨v6, rfl, hown6, hB6⟩; obtain ⟨A6, c7, rfl⟩ := own_shape hown6; clear HMB; have HB6 := Lib.hid (hB0.trans ((HBB.out.trans ((hB5.trans (hB6.mono hB5.size)).mono HBB.out.size)).mono hB0.size)))
                  | (go_at_call 7; refine (same_any _ _ _ _ l l _ hln (rows_rd (own_below hown5 hB6)) (HRL.out _ HB6.out)).mono ?_; intro e w7 he; obtain ⟨he, hB7⟩ := he; rw [decide_eq_true (rfl : l = l)] at he; subst he; clear hown5)
                  | (go_at_call 7; refine (same_any _ _ _ _ l l _ hln (rows_rd (own_below hown6 hB7)) (HRL.out _ (HB6.out.trans (hB7.mono HB6.out.size)))).mono ?_; intro e w8 he; obtain ⟨he, hB8⟩ := he; rw [decide_eq_true (rfl : l = l)] at he; subst he; clear hown6)
                  | (go_at_call 4; refine (awake_any _).mono ?_; rintro e w9 ⟨rfl, hB9⟩))
                go_ret
                exact ⟨rfl, (HB6.out.trans ((hB7.trans (hB8.mono hB7.size)).mono HB6.out.size)).trans (hB9.mono ((HB6.out.trans ((hB7.trans (hB8.mono hB7.size)).mono HB6.out.size)).size))⟩
end Go.Proofs.Ytkjcnjfjecfciaa
