/- The walk of merge.heads' Pop, and of container/heap's Push, Pop and Fix. -/
import Derived.Test.YtkjcnjfjecfciaaHeapP
namespace Go.Proofs.Ytkjcnjfjecfciaa
open Go.RowKit

set_option maxRecDepth 100000 in
set_option maxHeartbeats 1000000 in
theorem popM_any (bx g c m n B : Nat) (hs : List Hd) (hN : hs.length = n) (P : Option Addr) (n1 c1 : Nat) (x1 : Int) (w : World) (hb : HBox w bx g c m (n + 1) [.slice P n1 c1, .int .i64 x1] B hs) :
    Calls Try.prog 40 #[.pointer (some ⟨bx, 0, none⟩)] w fun e w' => ∃ v, e = .returned v ∧ HBox w' bx g n m n [] B hs ∧ Kp (fpH bx g) w w' := by
  have hbig := hb.big
  have hcap := hb.cap
  have hcells := hb.cells
  have hbox := hb.box.cell 0
  simp at hbox
  have hlt := hb.box.lt
  have hfz := hb.box.frozen 0
  have hgl := hb.row.lt
  have hfl := flat_len2 hs
  have hu1 : w.cell? ⟨g, n * 2, none⟩ = some (.slice P n1 c1) := hb.row.cell (by rw [List.getElem?_append_right (by omega), show n * 2 - ((hs.map Hd.cells).flatten).length = 0 from by omega]; rfl)
  have hu2 : w.cell? ⟨g, n * 2 + 1, none⟩ = some (.int .i64 x1) := hb.row.cell (by rw [List.getElem?_append_right (by omega), show n * 2 + 1 - ((hs.map Hd.cells).flatten).length = 1 from by omega]; rfl)
  clear hfl
  have i1 : (0 : Int) ≤ (n : Int) := by omega
  have i2 : (n : Int) < (n : Int) + 1 := by omega
  have i3 : (n : Int) ≤ (c : Int) := by omega
  have e1 : ((n + 1 : Nat) : Int) - 1 = (n : Int) := by omega
  have HB := Lib.hid hb
  clear hb hcells
  go_enter Try.func40, Try.ntmps40
  go_wp2
  go_ret
  have hb := HB.out
  have hK2 := ((Kp.refl (fpH bx g) w).setCell (p := ⟨bx, 0, none⟩) (.inr (.inl rfl)) (.slice (some ⟨g, 0, none⟩) n n)).alloc (Obj.cells #[Value.slice P n1 c1, Value.int .i64 x1] 48)
  refine ⟨_, rfl, ⟨?_, by omega, Nat.le_refl _, by omega, ?_, ?_, ?_, hb.low, hb.bxB, hb.gB⟩, hK2⟩
  · simpa using (hb.box.set_ 0 (.slice (some ⟨g, 0, none⟩) n n)).alloc _
  · have := hb.cells; omega
  · rw [List.append_nil]
    exact hb.row.front.kp (F := fun b => b = bx) (((Kp.refl (fun b => b = bx) w).setCell (p := ⟨bx, 0, none⟩) (.inr rfl) _).alloc _) (fun h => hb.ne h.symm)
  · intro d hd
    exact (hb.rows d hd).kp hK2 (by
      intro a ha hf
      have hl := hb.low d hd a ha
      have h1 := hb.bxB
      have h2 := hb.gB
      rcases hf with hf | hf <;> omega)

theorem HPush.box_ {w : World} {bx g c B : Nat} {hs : List Hd} (h : HPush w bx (some ⟨g, 0, none⟩) c B hs) (hn : hs.length ≤ 1125899906842624) : HBox w bx g c (c * 2) hs.length [] B hs := by
  obtain ⟨h1, h2, h3, h4, h5⟩ := RowM.ofOwn h.own
  exact ⟨h.box, Nat.le_refl _, h3, hn, by omega, by rw [List.append_nil]; exact h1, h.rows, h.low, h.bxB, h2⟩
theorem HBox.push_ {w : World} {bx g c B : Nat} {hs : List Hd} (h : HBox w bx g c (c * 2) hs.length [] B hs) (hc : c ≤ maxLen) : HPush w bx (some ⟨g, 0, none⟩) c B hs :=
  ⟨h.box, RowM.toOwn (by have := h.row; rwa [List.append_nil] at this) h.gB h.cap hc (flat_len2 hs), h.rows, h.low, h.bxB⟩

theorem upL_len (hs : List Hd) (j : Nat) : (upL hs j).length = hs.length := by
  induction j using Nat.strongRecOn generalizing hs with
  | ind j ih =>
    rw [upL]
    split
    · rfl
    · rename_i h
      rw [ih _ (by omega), swapL_len]

set_option maxRecDepth 100000 in
set_option maxHeartbeats 1000000 in
theorem hpush_any (bx B : Nat) (A : Option Addr) (c : Nat) (hs : List Hd) (h : Hd) (hn : hs.length ≤ 1099511627776) (w : World) (hb : HPush w bx A c B hs) (hBw : B ≤ w.heap.size) (hr : Rd w 4 h.A (h.rows.map Row.cells)) (hlow : ∀ a, h.A = some a → a.block < B) :
    Calls Try.prog 12 #[ifc bx, .iface 48 (.agg #[.slice h.A (h.rest.length + 1) h.c, .int .i64 h.ix])] w fun e w' => e = .returned (.tuple #[]) ∧
      ∃ g c', HPush w' bx (some ⟨g, 0, none⟩) c' B (upL (hs ++ [h]) hs.length) ∧ Kp (fpP bx A) w w' ∧ (w.heap.size ≤ g ∨ ∃ a, A = some a ∧ a.block = g) := by
  have n1 := fun n w => nilFindP "Push" _ methPush n ⟨bx, 0, none⟩ w
  have n2 := fun n w => nilFind "Len" _ methLen n ⟨bx, 0, none⟩ w
  have m1 := fun n w => methFindP "Push" _ methPush n ⟨bx, 0, none⟩ w
  go_enter Try.func12, Try.ntmps12
  go_wp2_with fail
  refine (push_any bx B A c hs h hn w hb hBw hr hlow).mono ?_
  rintro e w1 ⟨rfl, g, c1, hb1, hK1, hg1⟩
  have hlen : (hs ++ [h]).length = hs.length + 1 := by simp
  have hx1 := hb1.box_ (by omega)
  have hcm : c1 ≤ maxLen := (RowM.ofOwn hb1.own).2.2.2.1
  have hbox := hb1.box.cell 0
  simp only [hlen] at hbox
  simp at hbox
  have m2 := fun n => methFind "Len" _ methLen n ⟨bx, 0, none⟩ _ w1 hbox
  have HB1 := Lib.hid hb1
  have HX1 := Lib.hid hx1
  have HG1 := Lib.hid hg1
  clear hb hb1 hx1 hg1 hbox
  go_wp2_with fail
  refine (len_any (some ⟨g, 0, none⟩) (hs.length + 1) c1 w1).mono ?_
  rintro e w2 ⟨rfl, rfl⟩
  have e1 : ((hs.length + 1 : Nat) : Int) - 1 = (hs.length : Int) := by omega
  have HU := Lib.hid (up_any bx g c1 (c1 * 2) (hs ++ [h]).length [] B (hs ++ [h]) hs.length (by omega) w2 HX1.out)
  have HL := Lib.hid hlen
  clear hlen
  go_wp2_with fail
  refine HU.out.mono ?_
  rintro e w3 ⟨rfl, hb3, hl3, hK3⟩
  go_wp2
  go_end0
  rw [← hl3] at hb3
  refine ⟨rfl, g, c1, hb3.push_ hcm, hK1.trans hK3 (fun i hi hf => ?_), HG1.out⟩
  rcases hf with rfl | rfl
  · exact .inl rfl
  · rcases HG1.out with h | ⟨a, ha, h⟩
    · omega
    · exact .inr ⟨a, ha, h⟩

set_option maxRecDepth 100000 in
set_option maxHeartbeats 1000000 in
theorem fix_any (bx g c m n B : Nat) (hs : List Hd) (hn : hs.length = n) (hpos : 0 < n) (w : World) (hb : HBox w bx g c m n [] B hs) :
    Calls Try.prog 14 #[ifc bx, .int .i64 0] w fun e w' => e = .returned (.tuple #[]) ∧ HBox w' bx g c m n [] B (downL hs 0 n).1 ∧ Kp (fpH bx g) w w' := by
  have n2 := fun n w => nilFind "Len" _ methLen n ⟨bx, 0, none⟩ w
  have hbox := hb.box.cell 0
  simp at hbox
  have hlt := hb.box.lt
  have m2 := fun k => methFind "Len" _ methLen k ⟨bx, 0, none⟩ _ w hbox
  have HB := Lib.hid hb
  have HN := Lib.hid hn
  clear hb hn hbox
  go_enter Try.func14, Try.ntmps14
  go_wp2_with fail
  refine (len_any (some ⟨g, 0, none⟩) n c w).mono ?_
  rintro e w1 ⟨rfl, rfl⟩
  have HD := Lib.hid (down_any bx g c m n [] B hs 0 n (by omega) (by rw [HN.out]; exact Nat.le_refl _) w1 HB.out)
  go_wp2_with fail
  refine HD.out.mono ?_
  rintro e w2 ⟨rfl, hb2, hK2⟩
  by_cases hd : 0 < (downL hs 0 n).2
  · have HDD : decide (0 < (downL hs 0 n).2) = true := by simpa using hd
    simp only [HDD]
    go_wp2
    go_end0
    exact ⟨rfl, hb2, hK2⟩
  · have HDD : decide (0 < (downL hs 0 n).2) = false := by simpa using hd
    simp only [HDD]
    have HU := Lib.hid (up_any bx g c m n [] B (downL hs 0 n).1 0 (by rw [(downL_inv hs 0 n).1, HN.out]; exact hpos) w2 hb2)
    go_wp2_with fail
    refine HU.out.mono ?_
    rintro e w3 ⟨rfl, hb3, _, hK3⟩
    rw [upL, dif_pos (.inl rfl)] at hb3
    go_wp2
    go_end0
    exact ⟨rfl, hb3, hK2.trans hK3 (fun _ _ h => h)⟩

/-- the heads when the first has gone out and the last has come in its stead -/
def frontL (hs : List Hd) : List Hd := hs.getLast?.toList ++ hs.dropLast

theorem frontL_len (hs : List Hd) : (frontL hs).length = hs.length := by
  unfold frontL
  rcases List.eq_nil_or_concat hs with rfl | ⟨ys, z, rfl⟩
  · rfl
  · simp
theorem frontL_mem (hs : List Hd) : ∀ h ∈ frontL hs, h ∈ hs := by
  intro h hm
  unfold frontL at hm
  rcases List.eq_nil_or_concat hs with rfl | ⟨ys, z, rfl⟩
  · simp at hm
  · simp at hm ⊢
    rcases hm with rfl | hm
    · exact .inr rfl
    · exact .inl hm

theorem flat2_mem (ys : List Hd) (z : Hd) : ((ys ++ [z]).map Hd.cells).flatten = (ys.map Hd.cells).flatten ++ z.cells := by simp

set_option maxRecDepth 100000 in
set_option maxHeartbeats 1000000 in
/-- Swap of the empty first head and the last -/
theorem swap0_any (bx g c m n B : Nat) (hs : List Hd) (hn : hs.length = n) (P1 : Option Addr) (c1 : Nat) (x1 : Int) (w : World)
    (hbx : Blk w bx 44 #[.slice (some ⟨g, 0, none⟩) (n + 1) c]) (hcap : n + 1 ≤ c) (hbig : n + 1 ≤ 1125899906842624) (hcm : (n + 1) * 2 ≤ m)
    (hrow : RowM w g 48 m (([.slice P1 0 c1, .int .i64 x1] : List Value) ++ (hs.map Hd.cells).flatten))
    (hrows : ∀ h ∈ hs, Rd w 4 h.A (h.rows.map Row.cells)) (hlow : ∀ h ∈ hs, ∀ a, h.A = some a → a.block < B) (hbxB : B ≤ bx) (hgB : B ≤ g) :
    Calls Try.prog 39 #[.slice (some ⟨g, 0, none⟩) (n + 1) c, .int .i64 0, .int .i64 n] w fun e w' => e = .returned (.tuple #[]) ∧ HBox w' bx g c m (n + 1) [.slice P1 0 c1, .int .i64 x1] B (frontL hs) ∧ Kp (fpH bx g) w w' := by
  have hne : bx ≠ g := by
    obtain ⟨cur, hg, _⟩ := hrow
    exact hbx.ne_ (t := 44) (t' := 48) hg (by decide)
  have key : ∃ P2 n2 c2 x2, (([.slice P1 0 c1, .int .i64 x1] : List Value) ++ (hs.map Hd.cells).flatten)[n * 2]? = some (.slice P2 n2 c2) ∧ (([.slice P1 0 c1, .int .i64 x1] : List Value) ++ (hs.map Hd.cells).flatten)[n * 2 + 1]? = some (.int .i64 x2) ∧
      (((((([.slice P1 0 c1, .int .i64 x1] : List Value) ++ (hs.map Hd.cells).flatten).set (0 * 2) (.slice P2 n2 c2)).set (0 * 2 + 1) (.int .i64 x2)).set (n * 2) (.slice P1 0 c1)).set (n * 2 + 1) (.int .i64 x1)) = ((frontL hs).map Hd.cells).flatten ++ [.slice P1 0 c1, .int .i64 x1] := by
    rcases List.eq_nil_or_concat hs with rfl | ⟨ys, z, rfl⟩
    · simp at hn
      subst hn
      exact ⟨P1, 0, c1, x1, rfl, rfl, rfl⟩
    · simp at hn
      subst hn
      have hl := flat_len2 ys
      have hf : frontL (ys.concat z) = z :: ys := by unfold frontL; simp
      rw [hf]
      refine ⟨z.A, z.rest.length + 1, z.c, z.ix, ?_, ?_, ?_⟩
      · rw [List.concat_eq_append, flat2_mem, ← List.append_assoc, List.getElem?_append_right (by simp [hl]; omega)]
        simp only [List.length_append, hl, List.length_cons, List.length_nil]
        rw [show (ys.length + 1) * 2 - (0 + 1 + 1 + ys.length * 2) = 0 from by omega]; rfl
      · rw [List.concat_eq_append, flat2_mem, ← List.append_assoc, List.getElem?_append_right (by simp [hl]; omega)]
        simp only [List.length_append, hl, List.length_cons, List.length_nil]
        rw [show (ys.length + 1) * 2 + 1 - (0 + 1 + 1 + ys.length * 2) = 1 from by omega]; rfl
      · rw [List.concat_eq_append, flat2_mem]
        rw [show (ys.length + 1) * 2 = (ys.map Hd.cells).flatten.length + 1 + 1 from by omega]
        simp [Hd.cells, List.set_append_right]
  obtain ⟨P2, n2, c2, x2, k1, k2, k3⟩ := key
  have S := swap_raw g c m (n + 1) _ 0 n (by omega) (by omega) (by unfold maxLen; omega) w hrow P1 0 c1 x1 P2 n2 c2 x2 rfl rfl k1 k2
  refine S.mono ?_
  rintro e w' ⟨rfl, hR, hK⟩
  rw [k3] at hR
  have hK2 : Kp (fpH bx g) w w' := hK.mono (fun _ _ h => .inr h)
  refine ⟨rfl, ⟨hbx.kp hK hne, by rw [frontL_len]; omega, hcap, hbig, hcm, hR, ?_, ?_, hbxB, hgB⟩, hK2⟩
  · intro d hd
    have hd' := frontL_mem _ d hd
    exact (hrows d hd').kp hK2 (by
      intro a ha hf
      have hl := hlow d hd' a ha
      rcases hf with hf | hf <;> omega)
  · intro d hd
    exact hlow d (frontL_mem _ d hd)

set_option maxRecDepth 100000 in
set_option maxHeartbeats 1000000 in
theorem hpop_any (bx g c m n B : Nat) (hs : List Hd) (hn : hs.length = n) (P1 : Option Addr) (c1 : Nat) (x1 : Int) (w : World)
    (hbx : Blk w bx 44 #[.slice (some ⟨g, 0, none⟩) (n + 1) c]) (hcap : n + 1 ≤ c) (hbig : n + 1 ≤ 1125899906842624) (hcm : (n + 1) * 2 ≤ m)
    (hrow : RowM w g 48 m (([.slice P1 0 c1, .int .i64 x1] : List Value) ++ (hs.map Hd.cells).flatten))
    (hrows : ∀ h ∈ hs, Rd w 4 h.A (h.rows.map Row.cells)) (hlow : ∀ h ∈ hs, ∀ a, h.A = some a → a.block < B) (hbxB : B ≤ bx) (hgB : B ≤ g) :
    Calls Try.prog 13 #[ifc bx] w fun e w' => ∃ v, e = .returned v ∧ HBox w' bx g n m n [] B (downL (frontL hs) 0 n).1 ∧ Kp (fpH bx g) w w' := by
  have n1 := fun n w => nilFindP "Pop" _ methPop n ⟨bx, 0, none⟩ w
  have n2 := fun n w => nilFind "Len" _ methLen n ⟨bx, 0, none⟩ w
  have n3 := fun n w => nilFind "Swap" _ methSwap n ⟨bx, 0, none⟩ w
  have m1 := fun n w => methFindP "Pop" _ methPop n ⟨bx, 0, none⟩ w
  have hbox := hbx.cell 0
  simp at hbox
  have m2 := fun k => methFind "Len" _ methLen k ⟨bx, 0, none⟩ _ w hbox
  have m3 := fun k => methFind "Swap" _ methSwap k ⟨bx, 0, none⟩ _ w hbox
  have e1 : ((n + 1 : Nat) : Int) - 1 = (n : Int) := by omega
  have HS := Lib.hid (swap0_any bx g c m n B hs hn P1 c1 x1 w hbx hcap hbig hcm hrow hrows hlow hbxB hgB)
  have HN : Hid ((frontL hs).length = n) := by show _ = _; rw [frontL_len]; exact hn
  clear hbx hrow hrows hlow hbox hn
  go_enter Try.func13, Try.ntmps13
  go_wp2_with fail
  refine (len_any (some ⟨g, 0, none⟩) (n + 1) c w).mono ?_
  rintro e w1 ⟨rfl, rfl⟩
  go_wp2_with fail
  refine HS.out.mono ?_
  rintro e w2 ⟨rfl, hb2, hK2⟩
  have HD := Lib.hid (down_any bx g c m (n + 1) _ B (frontL hs) 0 n (by omega) (by rw [HN.out]; exact Nat.le_refl _) w2 hb2)
  go_wp2_with fail
  refine HD.out.mono ?_
  rintro e w3 ⟨rfl, hb3, hK3⟩
  have HP := Lib.hid (popM_any bx g c m n B _ (by rw [(downL_inv _ _ _).1, HN.out]) P1 0 c1 x1 w3 hb3)
  go_wp2_with fail
  refine HP.out.mono ?_
  rintro e w4 ⟨v, rfl, hb4, hK4⟩
  go_wp2
  go_ret
  exact ⟨_, rfl, hb4, (hK2.trans hK3 (fun _ _ h => h)).trans hK4 (fun _ _ h => h)⟩
end Go.Proofs.Ytkjcnjfjecfciaa
