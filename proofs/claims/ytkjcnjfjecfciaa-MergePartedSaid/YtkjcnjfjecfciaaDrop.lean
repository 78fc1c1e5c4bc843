/- The walk of merge.Drop. -/
import Derived.Test.YtkjcnjfjecfciaaAt
import Derived.Test.YtkjcnjfjecfciaaDropP
import Derived.WalkSmall
namespace Go.Proofs.Ytkjcnjfjecfciaa
open Go.RowKit

theorem elRow : El Try.prog 22 32 (.agg #[.string ByteArray.empty, .int .u64 0, .int .i64 0, .string ByteArray.empty]) 4 48 := ⟨by kernel_rfl, by kernel_rfl, by rfl, by omega⟩

theorem own_kp {F : Nat → Prop} {w w' : World} {base n : Nat} {e : TypeId} {v : Value} {xs : List Value} {size : Nat} (h : w.ownsRow base e size v n xs) (hk : Kp F w w') (hF : ∀ g, v.ownBlock = some g → ¬ F g) : w'.ownsRow base e size v n xs := by
  refine ⟨h.1, ?_⟩
  rcases h.2 with h0 | ⟨g, cap, cur, rfl, hg, hh, r⟩
  · exact .inl h0
  · exact .inr ⟨g, cap, cur, rfl, hg, (hk.block g (Array.getElem?_eq_some_iff.1 hh).1 (hF g rfl)).trans hh, r⟩

def boolCells (l : List Bool) : Array Value := (l.map Value.bool).toArray
theorem boolCells_set (l : List Bool) (k : Nat) (b : Bool) : (boolCells l).setIfInBounds k (.bool b) = boolCells (l.set k b) := by
  simp [boolCells, List.map_set]
theorem boolCells_get (l : List Bool) (k : Nat) (hk : k < l.length) : (boolCells l)[k]? = some (.bool l[k]) := by
  simp [boolCells, hk]
theorem madeBools (n : Nat) : madeCells #[Value.bool false] n = boolCells (List.replicate n false) := by
  simp only [madeCells, boolCells]
  apply Array.ext
  · simp
  · intro i h1 h2
    simp [Nat.mod_one]

theorem own_cap {w : World} {base n c size : Nat} {e : TypeId} {A : Option Addr} {xs : List Value} (h : w.ownsRow base e size (.slice A n c) n xs) : n ≤ c := by
  rcases h.2 with ⟨h, rfl⟩ | ⟨g, cap, cur, hv, _, _, hc, _⟩
  · omega
  · injection hv with _ _ h; subst h; exact hc

def lenOfV : Value → Nat
  | .slice _ n _ => n
  | _ => 0

theorem rowsFlat_len : ∀ rows : List Row, ((rows.map Row.cells).flatten).length = rows.length * 4
  | [] => rfl
  | r :: rows => by
    rw [List.map_cons, List.flatten_cons, List.length_append, rowsFlat_len rows, List.length_cons]
    show 4 + rows.length * 4 = (rows.length + 1) * 4
    omega

/-- a pop of a row of the call's own -/
theorem own_pop {w : World} {base : Nat} {e : TypeId} {A : Option Addr} {c : Nat} {rows : List Row} {r : Row} (h : w.ownsRow base e 4 (.slice A (rows ++ [r]).length c) (rows ++ [r]).length ((rows ++ [r]).map Row.cells).flatten) :
    w.ownsRow base e 4 (.slice A rows.length c) rows.length (rows.map Row.cells).flatten := by
  rw [List.length_append, List.length_singleton, List.map_append, List.flatten_append] at h
  obtain ⟨g, cap, hv, _⟩ := h.form (by omega)
  injection hv with hA _ hc
  subst hA hc
  exact ownsRow_pop (rowsFlat_len rows) h

set_option maxRecDepth 100000 in
set_option maxHeartbeats 1000000 in
theorem drop_any (A M : Option Addr) (c d : Nat) (l : List Row) (marks : List Int) (bottom : Bool) (w : World) (hl : l.length ≤ c) (hc : c * 48 ≤ 140737488351232) (hm : marks.length ≤ maxLen)
    (hr : Rd w 4 A (l.map Row.cells)) (hrm : Rd w 1 M (marks.map fun m => [Value.int .u64 m])) (ho : orderB l = true) :
    Calls Try.prog 8 #[.slice A l.length c, .slice M marks.length d, .bool bottom] w fun e w' => ∃ v, e = .returned (.tuple #[v, .int .i64 0]) ∧
      w'.ownsRow w.heap.size 32 4 v (dropOf l marks bottom).length ((dropOf l marks bottom).map Row.cells).flatten ∧ Below w.heap.size w w' := by
  unfold maxLen at hm
  have h1 := order_any A c l w (by unfold maxLen; omega) hr
  rw [ho] at h1
  have H1 := Lib.hid h1
  clear h1 ho
  have hrl := runsIx_len l
  go_enter Try.func8, Try.ntmps8
  go_wp2_with (first
    | (go_at_call 9; refine H1.out.mono ?_; rintro e w1 ⟨rfl, hB1⟩)
    | (go_at_call 10; refine (runs_any A c l _ hl hc (hr.below hB1)).mono ?_; rintro e w2 ⟨v2, rfl, hown2, hB2⟩; obtain ⟨A2, c2, rfl⟩ := own_shape hown2))
  have hB3 : Below w.heap.size w w2 := hB1.trans (hB2.mono hB1.size)
  go_loopw [8, 10, 11, 13, 14, 15, 16, 17, 24] (fun v _ _ _ _ _ _ _ i wr => ∃ j : Nat, j ≤ (runsIx l).length ∧ i = .int .i64 j ∧ wr.ownsRow w2.heap.size 32 4 v (dropTo l marks bottom j).length ((dropTo l marks bottom j).map Row.cells).flatten ∧ Below w2.heap.size w2 wr) (fun _ _ _ _ _ _ _ _ i _ => (runsIx l).length - (intOf i).toNat)
  case atStart => exact ⟨0, Nat.zero_le _, rfl, World.ownsRow_nil _ _ _ _, Below.refl _ _⟩
  case round =>
    obtain ⟨j, hj, rfl, hown, hB⟩ := hrel
    by_cases hlt : j < (runsIx l).length
    · obtain ⟨g2, rfl, hg2, hgl2, hcell2⟩ := own_at hown2 (by omega)
      obtain ⟨hp1, hp2⟩ := runsIx_bd l hlt
      have hlen := runOf_len l _ hp2
      obtain ⟨a, o, rfl, ha, _⟩ := hr.row (k := 0) (by omega)
      have hcv := hcell2 j _ (by rw [List.getElem?_map, List.getElem?_eq_getElem hlt]; rfl)
      have hcut : cutV (some ⟨a, o, none⟩) c (runsIx l)[j] = .slice (some ⟨a, o + (runsIx l)[j].1 * 4, none⟩) (runOf l (runsIx l)[j]).length (runOf l (runsIx l)[j]).length := by
        unfold cutV; rw [if_neg (by omega), hlen]; simp [Addr.add_lit]
      rw [hcut] at hcv
      have hrunW := hr.run (runsIx l)[j]
      have hrun := hrunW.below hB3
      have hcw : wr.cell? ⟨g2, j, none⟩ = w2.cell? ⟨g2, j, none⟩ := hB.cell (p := ⟨g2, j, none⟩) hgl2
      rw [hcv] at hcw
      have hst : dropTo l marks bottom (j + 1) = dropTo l marks bottom j ++ dropRun (runOf l (runsIx l)[j]) marks bottom := by rw [dropTo, List.getElem?_eq_getElem hlt]
      have hroom : (dropTo l marks bottom j).length + (runOf l (runsIx l)[j]).length ≤ l.length := by
        have h1 := dropTo_span l marks bottom j hj
        have h2 := span_room l j hlt
        omega
      have hpz : 0 < (runOf l (runsIx l)[j]).length := by omega
      have hpl : (runOf l (runsIx l)[j]).length ≤ l.length := by omega
      generalize runOf l (runsIx l)[j] = run at *
      have ho4 : ∃ o4, o4 = o + (runsIx l)[j].1 * 4 := ⟨_, rfl⟩
      obtain ⟨o4, ho4⟩ := ho4
      rw [← ho4] at hcw hrun hrunW
      clear ho4 hcut hcv hlen
      have hrmw := hrm.below hB3
      have HST := Lib.hid hst
      clear hst
      have hi1 : (0 : Int) ≤ (j : Int) := by omega
      have hi2 : (j : Int) < ((runsIx l).length : Int) := by omega
      have hmk : ∀ W : World, (Instr.makeSlice 52 (.int .i64 (run.length : Int)) (.int .i64 (run.length : Int))).run Try.prog W = .ok (.slice (some ⟨W.heap.size, 0, none⟩) run.length run.length) (W.alloc (.cells (boolCells (List.replicate run.length false)) 4)) := by
        intro W
        obtain ⟨i, hi, hz, hz1, hz2⟩ := info_parts (show ((Try.prog).info? 4).map (fun i => (i.zero, i.size, i.bytes)) = some (some (.bool false), 1, 1) by kernel_rfl)
        have := run_make (P := Try.prog) W 52 4 i _ (by kernel_rfl) hi hz .i64 .i64 (run.length : Int) (run.length : Int) (by omega) (by omega) (by rw [hz2]; omega) (by omega)
        rw [this, hz1, Int.toNat_natCast, Nat.mul_one]
        rw [show (Value.bool false).cells = #[Value.bool false] from rfl, madeBools]
      have h0 : (boolCells (List.replicate run.length false))[0]? = some (.bool false) := by rw [boolCells_get _ 0 (by simpa using hpz)]; simp
      go_wp2
      have hN : Blk (wr.alloc (Obj.cells ((boolCells (List.replicate run.length false)).setIfInBounds 0 (Value.bool true)) 4)) wr.heap.size 4 (boolCells (needTo run marks 0)) := by
        rw [boolCells_set]; exact Blk.new _ _ _
      have hown4 := hown.alloc (Obj.cells ((boolCells (List.replicate run.length false)).setIfInBounds 0 (Value.bool true)) 4)
      have hB4 := hB.alloc hB.size (Obj.cells ((boolCells (List.replicate run.length false)).setIfInBounds 0 (Value.bool true)) 4)
      have hgN : w2.heap.size ≤ wr.heap.size := hB.size
      clear hmk h0 hcw
      generalize wr.alloc (Obj.cells ((boolCells (List.replicate run.length false)).setIfInBounds 0 (Value.bool true)) 4) = w4 at hN hown4 hB4 ⊢
      generalize wr.heap.size = gN at hN hgN ⊢
      go_loopw [13, 14, 35] (fun _ _ i wm => ∃ m : Nat, m ≤ marks.length ∧ i = .int .i64 m ∧ Blk wm gN 4 (boolCells (needTo run marks m)) ∧ Kp (fun b => b = gN) w4 wm) (fun _ _ i _ => marks.length - (intOf i).toNat)
      case atStart => exact ⟨0, Nat.zero_le _, rfl, hN, Kp.refl _ _⟩
      case round =>
        obtain ⟨m, hm2, rfl, hNm, hKm⟩ := hrel
        by_cases hltm : m < marks.length
        · have hrunm : Rd wr 4 (some ⟨a, o4, none⟩) (run.map Row.cells) := (hrun.below hB4).kp hKm (by
            intro a' h hb
            cases h
            have hb : a = gN := hb
            have := hB3.size
            omega)
          have hrmm : Rd wr 1 M (marks.map fun m => [Value.int .u64 m]) := (hrmw.below hB4).kp hKm (by
            intro a' h hb
            obtain ⟨_, a5, o5, h5, hc5⟩ := hrm m _ (by rw [List.getElem?_map, List.getElem?_eq_getElem hltm]; rfl)
            have := World.block_lt_of_cell? w _ (hc5 0 _ rfl)
            rw [h] at h5
            cases h5
            have hb : a5 = gN := hb
            have this : a5 < w.heap.size := this
            have := hB3.size
            omega)
          obtain ⟨_, a5, o5, rfl, hc5⟩ := hrmm m _ (by rw [List.getElem?_map, List.getElem?_eq_getElem hltm]; rfl)
          have hmc := hc5 0 _ rfl
          simp only [Nat.mul_one, Nat.add_zero] at hmc
          have hi3 : (0 : Int) ≤ (m : Int) := by omega
          have hi4 : (m : Int) < (marks.length : Int) := by omega
          have hs := fun W (hW : Below wr.heap.size wr W) => seen_any (some ⟨a, o4, none⟩) run.length run marks[m] W (by unfold maxLen; omega) (hrunm.below hW)
          have hnl := needTo_len run marks m
          cases hsn : seenIx run marks[m] with
          | none =>
            rw [hsn] at hs
            simp only [ixInt] at hs
            have HS := Lib.hid hs
            have HR : Hid (needTo run marks (m + 1) = needTo run marks m) := by
              show _ = _
              rw [needTo, List.getD_eq_getElem?_getD, List.getElem?_eq_getElem hltm, Option.getD_some, hsn]
            clear hs hsn hnl
            go_wp2_with (go_at_call 11; refine (HS.out _ (Below.refl _ _)).mono ?_; rintro e w3 ⟨rfl, hB5⟩)
            go_roundw
            case rel => exact ⟨m + 1, by omega, by go_num, by rw [HR.out]; exact hNm.below hB5, hKm.thenBelow hB5⟩
            case measure => simp [intOf]; omega
          | some k =>
            have hk := seenIx_lt hsn
            rw [hsn] at hs
            simp only [ixInt] at hs
            have HS := Lib.hid hs
            have HR : Hid (needTo run marks (m + 1) = (needTo run marks m).set k true) := by
              show _ = _
              rw [needTo, List.getD_eq_getElem?_getD, List.getElem?_eq_getElem hltm, Option.getD_some, hsn]
            have hi5 : (0 : Int) ≤ (k : Int) := by omega
            have hi6 : (k : Int) < (run.length : Int) := by omega
            have HC : Hid (∃ b, (boolCells (needTo run marks m))[k]? = some (.bool b)) := ⟨_, boolCells_get _ k (by omega)⟩
            clear hs hsn hnl
            go_wp2_with (go_at_call 11; refine (HS.out _ (Below.refl _ _)).mono ?_; rintro e w3 ⟨rfl, hB5⟩; have hN5 := hNm.below hB5; obtain ⟨b5, hb5⟩ := HC.out; have hc6 := hN5.cell k; rw [hb5] at hc6; have hf6 := hN5.frozen k)
            go_roundw
            case rel => exact ⟨m + 1, by omega, by go_num, by rw [HR.out, ← boolCells_set]; exact hN5.set_ k _, (hKm.thenBelow hB5).setCell (.inr rfl) _⟩
            case measure => simp [intOf]; omega
        · obtain rfl : m = marks.length := by omega
          have hown5 : wr.ownsRow w2.heap.size 32 4 u8 (dropTo l marks bottom j).length ((dropTo l marks bottom j).map Row.cells).flatten := own_kp hown4 hKm (fun g hg hb => by
            have hb : g = gN := hb
            subst hb
            exact own_blk_ne hown4 hN (by decide) hg)
          have hB5 : Below w2.heap.size w2 wr := hB4.trans (hKm.below hB4.size (fun k hk hb => by have hb : k = gN := hb; omega))
          obtain ⟨A8, c8, rfl⟩ := own_shape hown
          go_wp2
          have hndl := needTo_len run marks marks.length
          have hND : ∃ nd, nd = needTo run marks marks.length := ⟨_, rfl⟩
          obtain ⟨nd, hnd⟩ := hND
          rw [← hnd] at hNm hndl
          have HND := Lib.hid hnd
          clear hnd hKm hrun hcell2 hown2 hown4 hN hrmw hown
          generalize wr = w5 at hown5 hB5 hNm ⊢
          go_loopw [8, 16, 17, 52] (fun v _ _ i wr => ∃ m : Nat, m ≤ run.length ∧ i = .int .i64 m ∧ wr.ownsRow w2.heap.size 32 4 v (dropTo l marks bottom j ++ keepTo run nd m).length ((dropTo l marks bottom j ++ keepTo run nd m).map Row.cells).flatten ∧ Blk wr gN 4 (boolCells nd) ∧ Below w2.heap.size w2 wr) (fun _ _ _ i _ => run.length - (intOf i).toNat)
          case atStart => exact ⟨0, Nat.zero_le _, rfl, by simpa [keepTo] using hown5, hNm, hB5⟩
          case round =>
            obtain ⟨m, hm2, rfl, hown6, hN6, hB6⟩ := hrel
            by_cases hltm : m < run.length
            · have hrun6 := hrunW.below (hB3.trans (hB6.mono hB3.size))
              obtain ⟨a', o', hh, ha', b1, b2, b3, b4⟩ := hrun6.row hltm
              injection hh with hh
              injection hh with h3 h4
              subst h3 h4
              have hi3 : (0 : Int) ≤ (m : Int) := by omega
              have hi4 : (m : Int) < (run.length : Int) := by omega
              have hnc := hN6.cell m
              rw [boolCells_get _ m (by omega)] at hnc
              have hkl := keepTo_len run nd m
              have hgl6 : gN < wr.heap.size := hN6.lt
              cases hb : nd[m]'(by omega) with
              | false =>
                rw [hb] at hnc
                have HK : Hid (keepTo run nd (m + 1) = keepTo run nd m) := by
                  show _ = _
                  rw [keepTo, List.getElem?_eq_getElem hltm, List.getElem?_eq_getElem (by omega), hb]
                clear hb
                go_wp2
                go_roundw
                case rel => exact ⟨m + 1, by omega, by go_num, by rw [HK.out]; exact hown6.alloc _, hN6.alloc _, hB6.alloc hB6.size _⟩
                case measure => simp [intOf]; omega
              | true =>
                rw [hb] at hnc
                have HK : Hid (keepTo run nd (m + 1) = keepTo run nd m ++ [run[m]]) := by
                  show _ = _
                  rw [keepTo, List.getElem?_eq_getElem hltm, List.getElem?_eq_getElem (by omega), hb]
                clear hb
                go_wp2_with (at_builtin; refine holdHere ?_)
                refine wpList_app1 elRow rfl _ _ rfl (by rfl) (by exact hown6.alloc _) (by rfl) (by simp) (by rfl) (by simp [Value.oneCell']) (by unfold maxLen; simp; omega) (by simp; omega) (by exact (hB6.alloc hB6.size _).size) ?_
                intro v7 w7 hown7 hg7 _ hB7
                have hne7 : Value.ownBlock u8 ≠ some gN := own_blk_ne hown6 hN6 (by decide)
                have hN7 : Blk w7 gN 4 (boolCells nd) := (hg7.block gN ((hN6.alloc _).lt) (fun h => hne7 h.symm)).trans (hN6.alloc _)
                go_wp2
                go_roundw
                case rel =>
                  refine ⟨m + 1, by omega, by go_num, ?_, hN7, (hB6.alloc hB6.size _).trans hB7⟩
                  rw [HK.out, ← List.append_assoc, List.length_append, List.map_append, List.flatten_append]
                  simpa [Row.cells] using hown7
                case measure => simp [intOf]; omega
            · obtain rfl : m = run.length := by omega
              have HKL := keepTo_len run nd run.length
              have HD : Hid (dropRun run marks bottom = if bottom = true then popOf (keepTo run nd run.length) else keepTo run nd run.length) := by
                show _ = _; rw [dropRun, ← HND.out]
              generalize keepTo run nd run.length = kept at *
              obtain ⟨A9, c9, rfl⟩ := own_shape hown6
              have hkeep := hown6
              rw [List.length_append] at hown6 ⊢
              generalize wr = w8 at hown6 hN6 hB6 ⊢
              clear hkeep hown5 hNm hB5
              have hw8 : w2.heap.size ≤ w8.heap.size := hB6.size
              go_wp2
              go_loopw [8] (fun v wq => ∃ q : Nat, q ≤ kept.length ∧ wq = w8 ∧ v = .slice A9 ((dropTo l marks bottom j).length + q) c9 ∧
                w8.ownsRow w2.heap.size 32 4 (.slice A9 (dropTo l marks bottom j ++ kept.take q).length c9) (dropTo l marks bottom j ++ kept.take q).length ((dropTo l marks bottom j ++ kept.take q).map Row.cells).flatten ∧
                Hid (dropRun run marks bottom = if bottom = true then popOf (kept.take q) else kept.take q)) (fun v _ => lenOfV v)
              case atStart =>
                refine ⟨kept.length, Nat.le_refl _, rfl, rfl, ?_, ?_⟩
                · rw [List.take_length, List.length_append]; exact hown6
                · rw [List.take_length]; exact HD.out
              case round =>
                obtain ⟨q, hq, rfl, rfl, hown9, HD9⟩ := hrel
                clear HD
                have hql : (kept.take q).length = q := by rw [List.length_take]; omega
                have hfin : bottom = false ∨ q = 0 ∨ (∃ h : q - 1 < kept.length, q ≠ 0 ∧ kept[q - 1].kind = 1) → Hid (dropTo l marks bottom (j + 1) = dropTo l marks bottom j ++ kept.take q) := by
                  intro h
                  show _ = _
                  rw [HST.out, HD9.out]
                  rcases h with h | h | ⟨hlt9, h0, h⟩
                  · rw [h]; rfl
                  · subst h; simp [popOf_nil]
                  · obtain ⟨q, rfl⟩ : ∃ q', q = q' + 1 := ⟨q - 1, by omega⟩
                    simp only [Nat.add_sub_cancel] at h hlt9
                    rw [List.take_succ_eq_append_getElem hlt9, popOf_snoc_put _ _ h]
                    simp
                have HF := Lib.hid hfin
                have HQL := Lib.hid hql
                clear hfin hql
                have hd1 : (0 : Int) ≤ ((dropTo l marks bottom j).length : Int) := by omega
                cases hbt : bottom with
                | false =>
                  have HF2 := HF.out (.inl hbt)
                  clear HF
                  subst hbt
                  go_wp2
                  go_roundw
                  case rel =>
                    refine ⟨j + 1, by omega, by go_num, ?_, hB6⟩
                    have e := HQL.out
                    rw [HF2.out]
                    rw [List.length_append, e] at hown9
                    rw [List.length_append, e]
                    exact hown9
                  case measure => simp [intOf]; omega
                | true =>
                  subst hbt
                  rcases Nat.eq_zero_or_pos q with h0 | hq0
                  · have HF2 := HF.out (.inr (.inl h0))
                    clear HF
                    subst h0
                    go_wp2
                    go_roundw
                    case rel =>
                      refine ⟨j + 1, by omega, by go_num, ?_, hB6⟩
                      have e := HQL.out
                      rw [HF2.out]
                      rw [List.length_append, e] at hown9
                      rw [List.length_append, e]
                      exact hown9
                    case measure => simp [intOf]; omega
                  · obtain ⟨q, rfl⟩ : ∃ q', q = q' + 1 := ⟨q - 1, by omega⟩
                    have hqk : q < kept.length := by omega
                    have hsp : kept.take (q + 1) = kept.take q ++ [kept[q]] := List.take_succ_eq_append_getElem hqk
                    have hrows : Rd wr 4 A9 ((dropTo l marks true j ++ kept.take (q + 1)).map Row.cells) := Rd.ofOwn (by omega) (by intro x hx; obtain ⟨r, _, rfl⟩ := List.mem_map.1 hx; rfl) hown9
                    have hln : (dropTo l marks true j ++ kept.take (q + 1)).length = (dropTo l marks true j).length + (q + 1) := by rw [List.length_append, HQL.out]
                    obtain ⟨a9, o9, rfl, ha9, b1, b2, b3, b4⟩ := hrows.row (k := (dropTo l marks true j).length + q) (by omega)
                    clear b1 b2 b4
                    have hget : (dropTo l marks true j ++ kept.take (q + 1))[(dropTo l marks true j).length + q]'(by omega) = kept[q] := by
                      rw [List.getElem_append_right (by omega)]
                      simp
                    rw [hget] at b3
                    clear hrows
                    clear hget
                    have HSP := Lib.hid hsp
                    have hcap := own_cap hown9
                    rw [hln] at hcap
                    clear hsp hln
                    by_cases hkd : kept[q].kind = 1
                    · have ht : (kept[q].kind != 1) = false := by simp [hkd]
                      have HF2 := HF.out (.inr (.inr ⟨by omega, by omega, by simpa using hkd⟩))
                      clear HF hkd
                      go_wp2
                      go_roundw
                      case rel =>
                        refine ⟨j + 1, by omega, by go_num, ?_, hB6⟩
                        have e := HQL.out
                        rw [HF2.out]
                        rw [List.length_append, e] at hown9
                        rw [List.length_append, e]
                        exact hown9
                      case measure => simp [intOf]; omega
                    · have ht : (kept[q].kind != 1) = true := by simp [hkd]
                      have HPOP : Hid (dropRun run marks true = if true = true then popOf (kept.take q) else kept.take q) := by
                        show _ = _
                        rw [HD9.out, HSP.out, if_pos rfl, if_pos rfl, popOf_snoc_del _ _ hkd]
                      clear HF hkd
                      go_wp2
                      go_roundw
                      case rel =>
                        refine ⟨q, by omega, trivial, rfl, ?_, by simpa using HPOP⟩
                        rw [HSP.out, ← List.append_assoc] at hown9
                        exact own_pop hown9
                      case measure => simp [lenOfV]
    · go_wp2
      go_ret2
      obtain rfl : j = (runsIx l).length := by omega
      exact ⟨_, rfl, own_lower hown hB3.size, hB3.trans (hB.mono hB3.size)⟩
end Go.Proofs.Ytkjcnjfjecfciaa
