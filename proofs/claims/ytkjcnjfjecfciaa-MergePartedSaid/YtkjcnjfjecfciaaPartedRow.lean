/- freshetlaw13.MergeParted answers true: rows that are parted into lists, in any way, are made one again as they were, the lists in any order; and the arguments read as they did.
Conditions: none beyond the statement's own. -/
import Derived.Test.YtkjcnjfjecfciaaRows
import Derived.Test.YtkjcnjfjecfciaaParted
import Derived.WalkKit
import Derived.ProofKit
import Derived.OpenShut
import Derived.ShutString
import Derived.ChangeOld
import Derived.Below
import Derived.Deep.Slices
import Derived.Deep.Fields
import Derived.ChangeSame
import Derived.SizedLaws
namespace Go.Proofs.Ytkjcnjfjecfciaa
open Go.ChangeShapes Go.WideShapes Go.ChangeAt Go.RowKit Go.Deep
open Go.ChangeMaps (open_string shut_string)

theorem own0 : ownKnob Try.prog.godebug = none := by kernel_rfl
theorem laidOut0 : laidOutB Try.prog = true := by kernel_rfl

section
variable {H : Type} {enc : TypeId × Value → H} {P : Program} {w : World} {base : Nat} {spare : Nat → Bool} {held : Bool}
theorem open_slice_fields {t e : TypeId} {fs : Array Field} {fuel : Nat} {cs : List Value} {x : DataW H × List MemPlace} (ht : P.underlying t = some (.slice e)) (he : P.underlying e = some (.struct fs))
    (hone : oneCellFields P fs = true) (hC : P.cellsOf e = fs.size) (h : DataW.trod enc P w base spare held fuel t cs = some x) :
    (cs = [.slice none 0 0] ∧ x = (.nil, [])) ∨
    ∃ (a : Addr) (len cap m : Nat) (D : Nat → DataW H) (Pl : Nat → List MemPlace), cs = [.slice (some a) len cap] ∧ base ≤ a.block ∧ len ≤ cap ∧ cap ≤ maxLen ∧ m = (if spare a.block then cap else len) ∧
      x = (.slice ((List.range len).map D) ((List.range (m - len)).map fun j => D (len + j)), MemPlace.row a (m * fs.size) ++ (List.range m).flatMap Pl) ∧
      ∀ i, i < m → ∃ (ys : List (DataW H × List MemPlace)) (n : Nat), D i = .agg (ys.map (·.1)) ∧ Pl i = ys.flatMap (·.2) ∧ ys.length = fs.size ∧
        ∀ (j : Nat) (f : Field), fs[j]? = some f → ∃ (v : Value) (y : DataW H × List MemPlace), w.cell? (a.add (i * fs.size + j)) = some v ∧ ys[j]? = some y ∧ DataW.trod enc P w base spare held n f.type [v] = some y := by
  rcases open_slice ht h with h0 | ⟨a, len, cap, m, n, D, Pl, hcs, hb, hl, hm, hmm, hx, hi⟩
  · exact .inl h0
  · refine .inr ⟨a, len, cap, m, D, Pl, hcs, hb, hl, hm, hmm, by rw [hC] at hx; exact hx, fun i him => ?_⟩
    obtain ⟨cs', hc, ht'⟩ := hi i him
    rw [hC] at hc
    obtain ⟨ys, n', hn', hy, hlen, hyl, hf⟩ := DataW.trod_struct he ht'
    obtain ⟨_, hcl, hat⟩ := World.cells?_some hc
    simp only [Prod.mk.injEq] at hy
    refine ⟨ys, n', hy.1, hy.2, hyl, fun j f hj => ?_⟩
    obtain ⟨ho, hk⟩ := hone_of hone j f hj
    have hjl : j < fs.size := (Array.getElem?_eq_some_iff.1 hj).1
    have hcell := hat j hjl
    have hv : cs'[j]? = some (cs'[j]'(by omega)) := List.getElem?_eq_getElem (by omega)
    have h1 := hf j f hj
    rw [ho, hk] at h1
    have hone' : (cs'.drop j).take 1 = [cs'[j]'(by omega)] := by
      rw [List.drop_eq_getElem_cons (by omega)]
      rfl
    rw [hone'] at h1
    have hys : ys[j]? = some (ys[j]'(by omega)) := List.getElem?_eq_getElem (by omega)
    refine ⟨_, _, ?_, hys, h1.trans hys⟩
    rw [← Go.Deep.add_add, hcell, hv]
end

/-- rows that lie at an address, as a list -/
theorem rows_of {w : World} {a : Addr} (m : Nat) (h : ∀ i, i < m → ∃ r : Row, ∀ j u, r.cells[j]? = some u → w.cell? (a.add (i * 4 + j)) = some u) : ∃ l : List Row, l.length = m ∧ Rd w 4 (some a) (l.map Row.cells) := by
  have key : ∀ n, n ≤ m → ∃ l : List Row, l.length = n ∧ ∀ (k : Nat) (r : Row), l[k]? = some r → ∀ j u, r.cells[j]? = some u → w.cell? (a.add (k * 4 + j)) = some u := by
    intro n
    induction n with
    | zero => intro _; exact ⟨[], rfl, fun k r h => by simp at h⟩
    | succ n ih =>
      intro hn
      obtain ⟨l, hl, hc⟩ := ih (by omega)
      obtain ⟨r, hr⟩ := h n (by omega)
      refine ⟨l ++ [r], by simp [hl], fun k r' hk => ?_⟩
      by_cases hkn : k < l.length
      · rw [List.getElem?_append_left hkn] at hk; exact hc k r' hk
      · have hk2 : k = n := by
          have := (List.getElem?_eq_some_iff.1 hk).1
          simp at this
          omega
        subst hk2
        rw [List.getElem?_append_right (by omega), hl] at hk
        simp at hk
        subst hk
        exact hr
  obtain ⟨l, hl, hc⟩ := key m (Nat.le_refl _)
  refine ⟨l, hl, fun k x hx => ?_⟩
  rw [List.getElem?_map] at hx
  cases hk : l[k]? with
  | none => rw [hk] at hx; cases hx
  | some r =>
    rw [hk] at hx
    injection hx with hx
    subst hx
    refine ⟨rfl, ?_⟩
    have hcr := hc k r hk
    obtain ⟨b, off, spot⟩ := a
    have hk0 : k < l.length := (List.getElem?_eq_some_iff.1 hk).1
    have hsp : spot = none := by simpa [Addr.add] using World.cell?_spot (hc 0 l[0] (List.getElem?_eq_getElem (by omega)) 0 _ rfl)
    subst hsp
    refine ⟨b, off, rfl, fun j u hu => ?_⟩
    have := hcr j u hu
    rw [Addr.add_lit] at this
    rw [Nat.add_assoc]
    exact this

set_option maxRecDepth 100000 in
theorem lifted (os : Os) (started : os.Started) (H : Type) (enc : TypeId × Value → H) :
    ReturnsInHanded {} Try.checked os 3 .any (Rows.mergePartedSpec.pre6 enc Try.prog Try.f3 Rows.mergePartedRow.domain false) (Rows.mergePartedSpec.post enc Try.prog Try.f3 false true false false) := by
  refine returnsInHanded_of_change_sized (C := Try.checked) own0 started (by kernel_rfl) Try.func3
    (ChangeSpec.witness6 (enc := enc) (C := Try.checked) false ⟨#[], #[.slice none 0 0, .slice none 0 0], []⟩ 8 (by kernel_rfl) (by kernel_rfl) (by kernel_rfl) (by kernel_rfl)) ?_
  intro W base args ds gs before hval0 hW hcnd hsz0 _
  have hval : ∀ (j : Nat) t v, Try.f3.params[j]? = some t → args[j]? = some v → Value.okWide Try.prog W .any base t v := hval0
  have hW' := hW
  obtain ⟨p, q, hA0, hV, rfl, hfz, hnd⟩ := hW
  have hA : DataW.TrodAll enc Try.prog W 0 (fun _ => true) true Try.f3.params.toList args.toList ds p := hA0
  rw [Try.params3] at hA hval
  obtain ⟨v0, vs0, d0, ds0, p0, q0, hargs, rfl, rfl, h0, r0⟩ := trodAll_cons hA
  obtain ⟨v1, vs1, d1, ds1, p1, q1, rfl, rfl, rfl, h1, r1⟩ := trodAll_cons r0
  obtain ⟨rfl, rfl, rfl⟩ := trodAll_nil r1
  obtain rfl : args = #[v0, v1] := by cases args; simp_all
  obtain ⟨rfl, rfl⟩ := trodVars_none hV
  have hsz : (DataW.weightsEach Try.prog [22, 23] [d0, d1]).all (· ≤ reachBytes) = true := hsz0
  obtain ⟨a0, len0, cap0, rfl⟩ := okWide_slice Try.underlying22 (hval 0 22 v0 rfl rfl)
  have k0 := h0
  have lt0 : ∀ x ∈ p0, x.block < W.heap.size := by obtain ⟨m, hm⟩ := k0; exact DataW.trod_lt m _ _ _ hm
  obtain ⟨l, hl0, hl1, hl2, hl3⟩ : ∃ l : List Row, l.length = len0 ∧ len0 ≤ cap0 ∧ cap0 * 48 ≤ 140737488351232 ∧ Rd W 4 a0 (l.map Row.cells) := by
    obtain ⟨fuel, hf⟩ := h0
    rcases open_slice_fields Try.underlying22 Try.underlying32 (by kernel_rfl) (by kernel_rfl) hf with ⟨hcs, hx⟩ | ⟨a, len, cap, m, D, Pl, hcs, hb, hl, hm, hmm, hx, hi⟩
    · simp [Value.cells] at hcs
      obtain ⟨rfl, rfl, rfl⟩ := hcs
      exact ⟨[], rfl, Nat.le_refl _, by omega, Rd.nil⟩
    · simp [Value.cells] at hcs
      obtain ⟨e1, e2, e3⟩ := hcs
      subst e1 e2 e3
      simp only [if_true] at hmm
      subst hmm
      simp only [Prod.mk.injEq] at hx
      obtain ⟨hd0, _⟩ := hx
      have hreach : m * 48 ≤ 140737488351232 := by
        rw [hd0] at hsz
        have := sized_slice hsz (j := 0) (t := 22) (e := 32) rfl rfl Try.underlying22
        rw [show (Try.prog).bytesOf 32 = 48 from by kernel_rfl] at this
        simp only [List.length_map, List.length_range, reachBytes] at this
        omega
      obtain ⟨l, hll, hrd⟩ := rows_of (w := W) (a := a) len0 (fun i him => by
        obtain ⟨ys, n, _, _, hyl, hf⟩ := hi i (by omega)
        obtain ⟨v0, y0, c0, e0, t0⟩ := hf 0 _ rfl
        obtain ⟨v1, y1, c1, e1, t1⟩ := hf 1 _ rfl
        obtain ⟨v2, y2, c2, e2, t2⟩ := hf 2 _ rfl
        obtain ⟨v3, y3, c3, e3, t3⟩ := hf 3 _ rfl
        obtain ⟨s0, g0, _, _⟩ := DataW.trod_string Try.underlying9 t0
        obtain ⟨n1, g1, _, _⟩ := DataW.trod_int Try.underlying29 t1
        obtain ⟨n2, g2, _, _⟩ := DataW.trod_int Try.underlying3 t2
        obtain ⟨s3, g3, _, _⟩ := DataW.trod_string Try.underlying9 t3
        simp only [List.cons.injEq, and_true] at g0 g1 g2 g3
        subst g0 g1 g2 g3
        refine ⟨⟨s0, n1, n2, s3⟩, fun j u hu => ?_⟩
        match j, hu with
        | 0, hu => cases hu; exact c0
        | 1, hu => cases hu; exact c1
        | 2, hu => cases hu; exact c2
        | 3, hu => cases hu; exact c3)
      exact ⟨l, hll, hl, hreach, hrd⟩
  obtain ⟨a1, len1, cap1, rfl⟩ := okWide_slice Try.underlying23 (hval 1 23 v1 rfl rfl)
  have k1 := h1
  have lt1 : ∀ x ∈ p1, x.block < W.heap.size := by obtain ⟨m, hm⟩ := k1; exact DataW.trod_lt m _ _ _ hm
  obtain ⟨zs, hz0, hz1, hz2⟩ : ∃ zs : List Int, zs.length = len1 ∧ zs.length ≤ maxLen ∧ Rd W 1 a1 (zs.map fun x => [Value.int .i64 x]) := by
    obtain ⟨fuel, hf⟩ := h1
    rcases open_ints Try.underlying23 Try.underlying3 (by kernel_rfl) hf with ⟨hcs, _⟩ | ⟨x, l, c, zs, hcs, _, hl, hm, hz, _, hcell, hwz⟩
    · simp [Value.cells] at hcs
      obtain ⟨rfl, rfl, rfl⟩ := hcs
      exact ⟨[], rfl, by simp [maxLen], Rd.nil⟩
    · simp [Value.cells] at hcs
      obtain ⟨e1, e2, e3⟩ := hcs
      subst e1 e2 e3
      have hzl : zs.length = cap1 := by simpa using hz
      refine ⟨zs.take len1, by simp; omega, by simp; omega, fun k y hy => ?_⟩
      rw [List.getElem?_map] at hy
      have hk : k < len1 := by
        rcases Nat.lt_or_ge k len1 with h | h
        · exact h
        · rw [List.getElem?_eq_none (by simp; omega)] at hy; cases hy
      rw [List.getElem?_take, if_pos hk, List.getElem?_eq_getElem (by omega)] at hy
      injection hy with hy
      subst hy
      refine ⟨rfl, ?_⟩
      have hc := hcell k (by omega)
      obtain ⟨b, off, spot⟩ := x
      have hsp : spot = none := by simpa [Addr.add] using World.cell?_spot (hcell 0 (by omega))
      subst hsp
      refine ⟨b, off, rfl, fun j u hu => ?_⟩
      match j, hu with
      | 0, hu =>
        cases hu
        rw [Addr.add_lit] at hc
        simpa [List.getD, List.getElem?_eq_getElem (show k < zs.length by omega)] using hc
  clear hA0 hval0
  subst hl0
  subst hz0
  refine (parted_any a0 a1 cap0 cap1 l zs W hl1 hl2 hl3 hz2 hz1).mono fun e W' ⟨he, bel⟩ => ?_
  subst he
  exact ⟨_, rfl, _, _, _, [], _, [], hW', trodAll_mk1 (shut_bool Try.underlying4 _), (trodAll_cons_mk (Below.trod laidOut0 (by kernel_rfl) (of_decide_eq_true (by kernel_rfl)) k0 bel lt0) (trodAll_cons_mk (Below.trod laidOut0 (by kernel_rfl) (of_decide_eq_true (by kernel_rfl)) k1 bel lt1) trodAll_mk0)), rfl, bel.frame _, fun h => by cases h⟩

/-- The statement. -/
theorem mergeParted_holds : Rows.MergePartedSaid :=
  OpenClaim.holds_of_wide 3 Try.f3 rfl rfl rfl rfl rfl rfl rfl ⟨rfl, rfl, rfl, rfl, rfl⟩ rfl rfl rfl rfl rfl (by kernel_rfl) Try.func3 (by kernel_rfl)
    (of_decide_eq_true (by kernel_rfl)) (by unfold Func.isWrapper; first | (rw [if_pos (by decide +kernel)]; kernel_rfl) | (rw [if_neg (by decide +kernel)]; exact ⟨rfl, rfl⟩))
    (fun os started H enc _ => lifted os started H enc)
#print axioms mergeParted_holds
end Go.Proofs.Ytkjcnjfjecfciaa
