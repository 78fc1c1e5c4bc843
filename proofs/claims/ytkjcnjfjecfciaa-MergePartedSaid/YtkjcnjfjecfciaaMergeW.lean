/- The walk of merge.Merge over lists that stand in order. -/
import Derived.Test.YtkjcnjfjecfciaaHeapQ
namespace Go.Proofs.Ytkjcnjfjecfciaa
open Go.RowKit

structure Part where
  A : Option Addr
  c : Nat
  rows : List Row
def Part.v (p : Part) : Value := .slice p.A p.rows.length p.c

def stepP (hs : List Hd) (i : Int) (p : Part) : List Hd :=
  match p.rows with
  | [] => hs
  | r :: rest => upL (hs ++ [⟨p.A, p.c, r, rest, i⟩]) hs.length
def pushTo (ps : List Part) : Nat → List Hd
  | 0 => []
  | i + 1 => match ps[i]? with
    | some p => stepP (pushTo ps i) i p
    | none => pushTo ps i
theorem pushTo_len (ps : List Part) : ∀ i, (pushTo ps i).length ≤ i
  | 0 => Nat.le_refl _
  | i + 1 => by
    have := pushTo_len ps i
    rw [pushTo]
    split
    · unfold stepP
      split
      · omega
      · rw [upL_len]; simp; omega
    · omega
theorem pushTo_succ (ps : List Part) {i : Nat} (h : i < ps.length) : pushTo ps (i + 1) = stepP (pushTo ps i) i ps[i] := by
  rw [pushTo, List.getElem?_eq_getElem h]

theorem HPush.below {w w' : World} {bx : Nat} {A : Option Addr} {c B : Nat} {hs : List Hd} (h : HPush w bx A c B hs) (hB : Below w.heap.size w w') : HPush w' bx A c B hs :=
  ⟨h.box.below hB, own_below h.own hB, fun d hd => (h.rows d hd).below hB, h.low, h.bxB⟩

def nextL : List Hd → List Hd
  | [] => []
  | h :: t => match h.rest with
    | [] => (downL (frontL t) 0 t.length).1
    | r :: rest => (downL (⟨h.A.map (·.add 4), h.c - 1, r, rest, h.ix⟩ :: t) 0 (t.length + 1)).1

structure MInv (I : List Hd → List Row → Prop) : Prop where
  add : ∀ h t out, I (h :: t) out → out = [] ∨ ∃ ys x, out = ys ++ [x] ∧ ((x.key.toList == h.r.key.toList) = false ∨ (x.seq == h.r.seq) = false)
  cap : ∀ h t out, I (h :: t) out → h.rest.length + 1 ≤ h.c
  next : ∀ h t out, I (h :: t) out → I (nextL (h :: t)) (out ++ [h.r])
  len : ∀ hs out, I hs out → out.length ≤ 1000000

theorem Rd.one {w : World} {A : Option Addr} {l : List (List Value)} (h : Rd w 1 A l) {k : Nat} {v : Value} (hk : l[k]? = some [v]) : ∃ a o, A = some ⟨a, o, none⟩ ∧ a < w.heap.size ∧ w.cell? ⟨a, o + k, none⟩ = some v := by
  obtain ⟨_, a, o, rfl, hc⟩ := h k _ hk
  have h1 := hc 0 _ rfl
  simp only [Nat.add_zero, Nat.mul_one] at h1
  exact ⟨a, o, rfl, World.block_lt_of_cell? w _ h1, h1⟩

attribute [local irreducible] wpStill

theorem HBox.kp {F : Nat → Prop} {w w' : World} {bx g c m N : Nat} {tl : List Value} {B : Nat} {hs : List Hd} (h : HBox w bx g c m N tl B hs) (hK : Kp F w w') (h1 : ¬ F bx) (h2 : ¬ F g) (h3 : ∀ k, k < B → ¬ F k) : HBox w' bx g c m N tl B hs :=
  ⟨h.box.kp hK h1, h.len, h.cap, h.big, h.cells, h.row.kp hK h2, fun d hd => (h.rows d hd).kp hK (fun a ha => h3 _ (h.low d hd a ha)), h.low, h.bxB, h.gB⟩

theorem last_cells {w : World} {q : Nat} (ys : List Row) (x : Row) (h : ∀ (j : Nat) (u : Value), ((ys ++ [x]).map Row.cells).flatten[j]? = some u → w.cell? ⟨q, j, none⟩ = some u) :
    w.cell? ⟨q, ys.length * 4, none⟩ = some (.string x.key) ∧ w.cell? ⟨q, ys.length * 4 + 1, none⟩ = some (.int .u64 x.seq) := by
  have hl : ((ys.map Row.cells).flatten).length = ys.length * 4 := rowsFlat_len ys
  constructor
  · refine h _ _ ?_
    rw [List.map_append, List.flatten_append, List.getElem?_append_right (by omega), hl, Nat.sub_self]
    rfl
  · refine h _ _ ?_
    rw [List.map_append, List.flatten_append, List.getElem?_append_right (by omega), hl, show ys.length * 4 + 1 - ys.length * 4 = 1 from by omega]
    rfl

set_option maxRecDepth 100000 in
set_option maxHeartbeats 16000000 in
theorem merge_any (L : Option Addr) (C : Nat) (ps : List Part) (hn : ps.length ≤ 1000000) (w : World)
    (hL : Rd w 1 L (ps.map fun p => [p.v])) (hR : ∀ p ∈ ps, Rd w 4 p.A (p.rows.map Row.cells)) (hlen : ∀ p ∈ ps, p.rows.length ≤ maxLen) (hord : ∀ p ∈ ps, orderB p.rows = true)
    (I : List Hd → List Row → Prop) (hI : MInv I) (h0 : I (pushTo ps ps.length) []) :
    Calls Try.prog 6 #[.slice L ps.length C] w fun e w' => ∃ v out, e = .returned (.tuple #[v, .int .i64 0]) ∧ I [] out ∧
      w'.ownsRow w.heap.size 32 4 v out.length (out.map Row.cells).flatten ∧ Below w.heap.size w w' := by
  go_enter Try.func6, Try.ntmps6
  go_wp2
  go_loopw [5, 6, 12] (fun _ _ i wr => ∃ (j : Nat) (A : Option Addr) (c : Nat), j ≤ ps.length ∧ i = .int .i64 j ∧ HPush wr w.heap.size A c w.heap.size (pushTo ps j) ∧ Below w.heap.size w wr) (fun _ _ i _ => ps.length - (intOf i).toNat)
  case atStart =>
    refine ⟨0, none, 0, Nat.zero_le _, rfl, ⟨Blk.new _ _ _, ?_, fun h hh => by simp [pushTo] at hh, fun h hh => by simp [pushTo] at hh, Nat.le_refl _⟩, (Below.refl _ _).alloc (Nat.le_refl _) _⟩
    simpa [pushTo] using World.ownsRow_nil _ _ _ _
  case round =>
    obtain ⟨j, A, c, hj, rfl, hb, hB⟩ := hrel
    by_cases hlt : j < ps.length
    · obtain ⟨la, lo, rfl, hla, hcell⟩ := hL.one (k := j) (v := ps[j].v) (by rw [List.getElem?_map, List.getElem?_eq_getElem hlt]; rfl)
      have hcw : wr.cell? ⟨la, lo + j, none⟩ = some (.slice ps[j].A ps[j].rows.length ps[j].c) := (hB.cell (p := ⟨la, lo + j, none⟩) hla).trans hcell
      have hpl := hlen _ (List.getElem_mem hlt)
      have hrd := hR _ (List.getElem_mem hlt)
      have hoo := hord _ (List.getElem_mem hlt)
      have hi1 : (0 : Int) ≤ (j : Int) := by omega
      have hi2 : (j : Int) < (ps.length : Int) := by omega
      have HO := Lib.hid (order_any ps[j].A ps[j].c ps[j].rows wr hpl (hrd.below hB))
      rw [hoo] at HO
      have hlaw := hB.size
      have hpt := pushTo_len ps j
      cases hrows : ps[j].rows with
      | nil =>
        have HP : Hid (pushTo ps (j + 1) = pushTo ps j) := by
          show _ = _
          rw [pushTo_succ ps hlt]; unfold stepP; rw [hrows]
        rw [hrows] at hcw HO
        clear hcell hoo hpl hrd hrows
        go_wp2_with (go_at_call 9; refine HO.out.mono ?_; rintro e w1 ⟨rfl, hB1⟩)
        go_roundw
        case rel => exact ⟨j + 1, A, c, by omega, by go_num, by rw [HP.out]; exact hb.below hB1, hB.trans (hB1.mono hB.size)⟩
        case measure => simp [intOf]; omega
      | cons r rest =>
        have HP : Hid (pushTo ps (j + 1) = upL (pushTo ps j ++ [⟨ps[j].A, ps[j].c, r, rest, j⟩]) (pushTo ps j).length) := by
          show _ = _
          rw [pushTo_succ ps hlt]; unfold stepP; rw [hrows]
        rw [hrows] at hcw HO hrd hpl
        have hpz : (0 : Int) < ((r :: rest).length : Int) := by simp
        obtain ⟨b, p, hb1, hb2, _⟩ := hrd.row (k := 0) (by simp)
        have hlow : ∀ a, ps[j].A = some a → a.block < w.heap.size := by
          rintro a ha; rw [hb1] at ha; injection ha with ha; subst ha; exact hb2
        have HQ := Lib.hid (fun W (hW : Below wr.heap.size wr W) => hpush_any w.heap.size w.heap.size A c (pushTo ps j) ⟨ps[j].A, ps[j].c, r, rest, j⟩ (by omega) W (hb.below hW) (by have := hW.size; omega) ((hrd.below hB).below hW) hlow)
        have HB := Lib.hid hb
        have hbo := hb.bxB
        have hAB : ∀ a, A = some a → w.heap.size ≤ a.block := fun a ha => by subst ha; exact (hb.own.lt a.block rfl).1
        have HAB := Lib.hid hAB
        clear hcell hoo hpl hrd hrows hb1 hlow hAB hb
        go_wp2_with (first
          | (go_at_call 9; refine HO.out.mono ?_; rintro e w1 ⟨rfl, hB1⟩)
          | (go_at_call 12; refine (HQ.out w1 hB1).mono ?_; rintro e w2 ⟨rfl, g, c2, hb2, hK2, hg2⟩))
        go_roundw
        case rel => 
          refine ⟨j + 1, some ⟨g, 0, none⟩, c2, by omega, by go_num, by rw [HP.out]; exact hb2, (hB.trans (hB1.mono hB.size)).trans (hK2.below (by have := hB1.size; omega) (fun k hk hf => ?_))⟩
          rcases hf with rfl | ⟨a, ha, rfl⟩
          · omega
          · have := HAB.out a ha; omega
        case measure => simp [intOf]; omega
    · obtain rfl : j = ps.length := by omega
      have hf : ¬ ((ps.length : Int) < (ps.length : Int)) := by omega
      have hbig : (pushTo ps ps.length).length ≤ 1000000 := by have := pushTo_len ps ps.length; omega
      generalize pushTo ps ps.length = hs0 at *
      have hbx := hb.box
      have hbo := hb.bxB
      have hAB : ∀ a, A = some a → w.heap.size ≤ a.block := fun a ha => by subst ha; exact (hb.own.lt a.block rfl).1
      have hh0 : hs0 ≠ [] → ∃ g m, A = some ⟨g, 0, none⟩ ∧ HBox wr w.heap.size g c m hs0.length [] w.heap.size hs0 := by
        intro hne
        obtain ⟨g, rfl, _⟩ := own_at hb.own (by cases hs0 with | nil => exact absurd rfl hne | cons => simp)
        exact ⟨g, c * 2, rfl, hb.box_ (by omega)⟩
      have HH := Lib.hid hh0
      have HB := Lib.hid hb
      clear hb hh0
      go_wp2
      go_loopw [7, 9] (fun v _ wm => ∃ (A2 : Option Addr) (c2 : Nat) (hs : List Hd) (out : List Row), Blk wm w.heap.size 44 #[.slice A2 hs.length c2] ∧
        Hid (hs ≠ [] → ∃ g m, A2 = some ⟨g, 0, none⟩ ∧ HBox wm w.heap.size g c2 m hs.length [] w.heap.size hs) ∧ I hs out ∧
        wm.ownsRow w.heap.size 32 4 v out.length (out.map Row.cells).flatten ∧ Below w.heap.size w wm ∧ hs.length ≤ 1000000) (fun v _ _ => 1000000 - lenOfV v)
      case atStart => exact ⟨A, c, hs0, [], hbx, HH, h0, by simpa using World.ownsRow_nil _ _ _ _, hB, hbig⟩
      case round =>
        clear hbx HH HB hB h0 hbig hf hAB
        obtain ⟨A2, c2, hs, out, hbx, HH, hIn, hown, hB, hbig⟩ := hrel
        have hx0 := hbx.cell 0
        have hxl := hbx.lt
        have hxf := hbx.frozen 0
        simp at hx0
        cases hs with
        | nil =>
          have HO := Lib.hid hown
          have HI := Lib.hid hIn
          clear hown
          go_wp2
          go_ret2
          exact ⟨_, out, rfl, HI.out, HO.out, hB⟩
        | cons h t =>
          obtain ⟨g, m, rfl, hb⟩ := HH.out (by simp)
          clear HH
          obtain ⟨a', o', b, p, hh, hA1, ha, hblt, x1, x2, r1, r2, r3, r4⟩ := hb.heads.at_ (k := 0) (by simp)
          injection hh with hh
          injection hh with e1 e2
          subst e1 e2
          simp only [List.getElem_cons_zero, Nat.zero_mul, Nat.add_zero, Nat.zero_add] at hA1 x1 x2 r1 r2 r3 r4
          have hcap := hI.cap h t out hIn
          have hadd := hI.add h t out hIn
          have hnx := hI.next h t out hIn
          have hol := hI.len _ _ hnx
          have hbpos : (0 : Int) < ((h :: t).length : Int) := by simp
          have hbpos2 : (0 : Int) < ((h.rest.length + 1 : Nat) : Int) := by omega
          obtain ⟨O, oc, rfl⟩ := own_shape hown
          have HOW := Lib.hid hown
          have HB := Lib.hid hb
          have hol2 : out.length + 1 ≤ 1000000 := by simpa using hol
          clear hol
          rcases hadd with hnil | ⟨ys, x, hys, hx⟩
          · have hz : ((out.length : Int) == 0) = true := by simp [hnil]
            clear hown hnil
            go_wp2
            have hk8 : Blk (wr.alloc (Obj.cells #[Value.string h.r.key, Value.int .u64 h.r.seq, Value.int .i64 h.r.kind, Value.string h.r.val] 32)) wr.heap.size 32 #[Value.string h.r.key, Value.int .u64 h.r.seq, Value.int .i64 h.r.kind, Value.string h.r.val] := Blk.new _ _ _
            have hl8 := hk8.lt
            have hB8 : Below wr.heap.size wr (wr.alloc (Obj.cells #[Value.string h.r.key, Value.int .u64 h.r.seq, Value.int .i64 h.r.kind, Value.string h.r.val] 32)) := (Below.refl _ _).alloc (Nat.le_refl _) _
            have HK8 := Lib.hid hk8
            clear hk8
            generalize (wr.alloc (Obj.cells #[Value.string h.r.key, Value.int .u64 h.r.seq, Value.int .i64 h.r.kind, Value.string h.r.val] 32)) = w5 at *
            clear x1 x2 r1 r2 r3 r4 hx0 hxf
            have c80 : w5.cell? ⟨wr.heap.size, 0, none⟩ = some (.string h.r.key) := HK8.out.cell 0
            have c81 : w5.cell? ⟨wr.heap.size, 1, none⟩ = some (.int .u64 h.r.seq) := HK8.out.cell 1
            have hB0 : Below w5.heap.size w5 w5 := Below.refl _ _
            refine wp_region_canon [0, 1, 2, 3, 4, 5, 6, 7, 8, 9, 10, 11, 12, 13, 14, 15, 16, 17, 18, 19, 20, 21, 22, 23] [] mixed (by kernel_rfl) ?_
            simp only [pickOps, List.map_cons, List.map_nil, List.getD_cons_zero, List.getD_cons_succ]
            repeat still_step
            refine wpStill_nil ?_
            refine wpList_nil ?_
            refine NP.normal ?_
            have hB6 : Below wr.heap.size wr w5.drew := hB8.drew
            have hk6 : Blk w5.drew wr.heap.size 32 #[Value.string h.r.key, Value.int .u64 h.r.seq, Value.int .i64 h.r.kind, Value.string h.r.val] := HK8.out
            clear HK8 c80 c81 hB8 hB0
            have hl6 := hk6.lt
            generalize w5.drew = w6 at *
            have c80 := hk6.cell 0
            have c81 := hk6.cell 1
            have c82 := hk6.cell 2
            have c83 := hk6.cell 3
            simp at c80 c81 c82 c83
            have hown6 := own_below HOW.out hB6
            have hb6 := hb.below hB6
            have hB7 := hB.size
            have hB8 := hB6.size
            clear hb hbx hz
            have HB6 := Lib.hid hb6
            clear hb6
            go_wp2_with (at_builtin; refine holdHere ?_)
            refine wpList_app1 elRow rfl _ _ rfl (by rfl) (by exact hown6) (by rfl) (by simp) (by rfl) (by simp [Value.oneCell']) (by unfold maxLen; omega) (by omega) (by omega) ?_
            intro v7 w7 hown7 hg7 _ hB7'
            have hg8 : w6.grownBy w7 (Value.slice O out.length oc).ownBlock := hg7
            clear hg7
            have hne1 : (Value.slice O out.length oc).ownBlock ≠ some w.heap.size := own_blk_ne hown6 HB6.out.box (by decide)
            have hne2 : (Value.slice O out.length oc).ownBlock ≠ some g := by
              obtain ⟨cur, hcur, _⟩ := HB6.out.row
              exact own_blk_ne hown6 hcur (by decide)
            have hb7 : HBox w7 w.heap.size g c2 m (h :: t).length [] w.heap.size (h :: t) :=
              HB6.out.kp (F := fun b => (Value.slice O out.length oc).ownBlock = some b) (Kp.ofGrown hg8 (fun k hk => hk)) hne1 hne2 (fun k hk hf => by have := (hown6.lt k hf).1; omega)
            have hBw7 : Below w.heap.size w w7 := (hB.trans (hB6.mono hB7)).trans hB7'
            have HOW7 := Lib.hid hown7
            clear hown7 hg8 HB6 c80 c81 c82 c83 hk6 hown6 hne1 hne2 HB HOW
            obtain ⟨a', o', b', p', hh, hA1', ha', hblt', x1, x2, r1, r2, r3, r4⟩ := hb7.heads.at_ (k := 0) (by simp)
            injection hh with hh
            injection hh with e1 e2
            subst e1 e2
            simp only [List.getElem_cons_zero, Nat.zero_mul, Nat.add_zero, Nat.zero_add] at hA1' x1 x2
            rw [hA1] at hA1'
            injection hA1' with hh
            injection hh with e1 e2
            subst e1 e2
            have hx0 := hb7.box.cell 0
            have hxl7 := hb7.box.lt
            simp at hx0
            have hfz : ∀ j, w7.frozen? ⟨g, j, none⟩ = false := fun j => hb7.row.frozen j
            have HB7 := Lib.hid hb7
            have HA1 := Lib.hid hA1
            clear hb7 r1 r2 r3 r4 hA1
            have hc1 : (1 : Int) ≤ (h.rest.length : Int) + 1 := by omega
            go_wp2
            refine wp_region_canon [0, 1, 2, 3, 4, 5] [6, 7, 8] mixed (by kernel_rfl) ?_
            simp only [pickOps, List.map_cons, List.map_nil, List.getD_cons_zero, List.getD_cons_succ]
            repeat still_step
            refine wpStill_nil ?_
            generalize hP1 : (if h.c = 1 then some (⟨b, p, none⟩ : Addr) else some ⟨b, p + 4, none⟩) = P1
            have HP1 := Lib.hid hP1
            clear hP1
            have hB9 : Below w7.heap.size w7 w7.drew := (Below.refl _ _).drew
            have hx0 : w7.drew.cell? ⟨w.heap.size, 0, none⟩ = _ := hx0
            have hx1 : w7.drew.cell? ⟨g, 0, none⟩ = _ := x1
            have hx2 : w7.drew.cell? ⟨g, 1, none⟩ = _ := x2
            have hfz : ∀ j, w7.drew.frozen? ⟨g, j, none⟩ = false := hfz
            have hb8 : HBox w7.drew w.heap.size g c2 m (h :: t).length [] w.heap.size (h :: t) := HB7.out.below hB9
            have hown8 := own_below HOW7.out hB9
            have hBw8 : Below w.heap.size w w7.drew := hBw7.drew
            have HB8 := Lib.hid hb8
            have HOW8 := Lib.hid hown8
            clear hb8 hown8 HB7 HOW7 hB9 x1 x2
            generalize w7.drew = w8 at *
            go_wp2
            refine NP.normal ?_
            have hngx : w.heap.size ≠ g := HB8.out.ne
            have hbox9 : Blk (w8.setCell ⟨g, 0, none⟩ (.slice P1 h.rest.length (h.c - 1))) w.heap.size 44 #[.slice (some ⟨g, 0, none⟩) (t.length + 1) c2] := HB8.out.box.far (fun e => hngx e) _
            have hrow9 : RowM (w8.setCell ⟨g, 0, none⟩ (.slice P1 h.rest.length (h.c - 1))) g 48 m (([.slice P1 h.rest.length (h.c - 1), .int .i64 h.ix] : List Value) ++ (t.map Hd.cells).flatten) := by
              have := HB8.out.row.set 0 (.slice P1 h.rest.length (h.c - 1))
              rw [List.append_nil] at this
              exact this
            have hK9 : Kp (fun b => b = g) w8 (w8.setCell ⟨g, 0, none⟩ (.slice P1 h.rest.length (h.c - 1))) := (Kp.refl (fun b => b = g) w8).setCell (p := ⟨g, 0, none⟩) (.inr rfl) _
            have hown9 := own_kp HOW8.out hK9 (fun b hb hbg => by
              have hbg : b = g := hbg
              subst hbg
              obtain ⟨cur, hcur, _⟩ := HB8.out.row
              exact own_blk_ne HOW8.out hcur (by decide) hb)
            have hBw9 : Below w.heap.size w (w8.setCell ⟨g, 0, none⟩ (.slice P1 h.rest.length (h.c - 1))) := hBw8.trans (hK9.below hBw8.size (fun k hk hb => by have hb : k = g := hb; have := HB8.out.gB; omega))
            have hrows9 : ∀ d ∈ h :: t, Rd (w8.setCell ⟨g, 0, none⟩ (.slice P1 h.rest.length (h.c - 1))) 4 d.A (d.rows.map Row.cells) := fun d hd => (HB8.out.rows d hd).kp hK9 (fun a ha hb => by
              have hb : a.block = g := hb
              have := HB8.out.low d hd a ha
              have := HB8.out.gB
              omega)
            have hcap9 := HB8.out.cap
            have hbig9 := HB8.out.big
            have hcells9 := HB8.out.cells
            have hgB9 := HB8.out.gB
            have hlow9 := HB8.out.low
            clear hK9 hx0 hx1 hx2 hfz HOW8 HB8
            generalize w8.setCell ⟨g, 0, none⟩ (.slice P1 h.rest.length (h.c - 1)) = w9 at *
            have hx0 := hbox9.cell 0
            have hx1 := hrow9.cell (j := 0) rfl
            have hxl9 := hbox9.lt
            have hgl9 := hrow9.lt
            simp at hx0
            have HBX := Lib.hid hbox9
            have HRW := Lib.hid hrow9
            have HO9 := Lib.hid hown9
            clear hbox9 hrow9 hown9
            cases hrest : h.rest with
            | nil =>
              have hq : ((h.rest.length : Int) == 0) = true := by simp [hrest]
              have HRest := Lib.hid hrest
              clear hrest
              go_wp2_with fail
              have HNL : nextL (h :: t) = (downL (frontL t) 0 t.length).1 ∧ (nextL (h :: t)).length = t.length := by
                have : nextL (h :: t) = (downL (frontL t) 0 t.length).1 := by unfold nextL; simp only; rw [HRest.out]
                exact ⟨this, by rw [this, (downL_inv _ _ _).1, frontL_len]⟩
              refine (hpop_any w.heap.size g c2 m t.length w.heap.size t rfl P1 (h.c - 1) h.ix w9 HBX.out (by simpa using hcap9) (by simpa using hbig9) (by simpa using hcells9) (by have := HRW.out; rw [HRest.out] at this; exact this) (fun d hd => hrows9 d (List.mem_cons_of_mem _ hd)) (fun d hd => hlow9 d (List.mem_cons_of_mem _ hd)) (Nat.le_refl _) hgB9).mono ?_
              rintro e w10 ⟨v, rfl, hb10, hK10⟩
              go_wp2
              have hlen10 := hb10.len
              obtain ⟨O7, oc7, rfl⟩ := own_shape HO9.out
              have hown10 := own_kp HO9.out hK10 (fun k hk hf => by
                rcases hf with rfl | rfl
                · exact own_blk_ne HO9.out HBX.out (by decide) hk
                · obtain ⟨cur, hcur, _⟩ := HRW.out
                  exact own_blk_ne HO9.out hcur (by decide) hk)
              have hBw10 : Below w.heap.size w w10 := hBw9.trans (hK10.below hBw9.size (fun k hk hf => by rcases hf with rfl | rfl <;> omega))
              go_roundw
              case rel => exact ⟨some ⟨g, 0, none⟩, t.length, nextL (h :: t), out ++ [h.r], by rw [HNL.2]; exact hb10.box, fun _ => ⟨g, m, rfl, by rw [HNL.2, HNL.1]; exact hb10⟩, hnx, by simpa [Row.cells] using hown10, hBw10, by rw [HNL.2]; simp at hbig; omega⟩
              case measure => simp [lenOfV]; omega
            | cons r' rest' =>
              have hq : ((h.rest.length : Int) == 0) = false := by simp [hrest]; omega
              have HRest := Lib.hid hrest
              clear hrest
              go_wp2_with fail
              have HNL : nextL (h :: t) = (downL (⟨h.A.map (·.add 4), h.c - 1, r', rest', h.ix⟩ :: t) 0 (t.length + 1)).1 ∧ (nextL (h :: t)).length = t.length + 1 := by
                have : nextL (h :: t) = (downL (⟨h.A.map (·.add 4), h.c - 1, r', rest', h.ix⟩ :: t) 0 (t.length + 1)).1 := by unfold nextL; simp only; rw [HRest.out]
                exact ⟨this, by rw [this, (downL_inv _ _ _).1]; rfl⟩
              have hPA : P1 = h.A.map (·.add 4) := by
                have h1 := HP1.out
                rw [HA1.out, ← h1, if_neg]
                · simp [Addr.add_lit]
                · have := HRest.out; rw [this] at hcap; simp at hcap; omega
              have hb9 : HBox w9 w.heap.size g c2 m (t.length + 1) [] w.heap.size (⟨h.A.map (·.add 4), h.c - 1, r', rest', h.ix⟩ :: t) := by
                refine ⟨HBX.out, by simp, by simpa using hcap9, by simpa using hbig9, by simpa using hcells9, ?_, ?_, ?_, Nat.le_refl _, hgB9⟩
                · have := HRW.out
                  rw [HRest.out, hPA] at this
                  rw [List.append_nil]
                  exact this
                · intro d hd
                  rcases List.mem_cons.1 hd with rfl | hd
                  · have := (hrows9 h (by simp)).drop 1
                    simp only [Hd.rows, HRest.out, List.map_cons, List.drop_succ_cons, List.drop_zero, Nat.one_mul] at this
                    simpa [Hd.rows] using this
                  · exact hrows9 d (List.mem_cons_of_mem _ hd)
                · intro d hd
                  rcases List.mem_cons.1 hd with rfl | hd
                  · intro a ha
                    rw [HA1.out] at ha
                    simp at ha
                    have := hlow9 h (by simp) _ HA1.out
                    rw [← ha]
                    simpa [Addr.add_lit] using this
                  · exact hlow9 d (List.mem_cons_of_mem _ hd)
              refine (fix_any w.heap.size g c2 m (t.length + 1) w.heap.size _ (by simp) (by omega) w9 hb9).mono ?_
              rintro e w10 ⟨rfl, hb10, hK10⟩
              go_wp2
              have hlen10 := hb10.len
              obtain ⟨O7, oc7, rfl⟩ := own_shape HO9.out
              have hown10 := own_kp HO9.out hK10 (fun k hk hf => by
                rcases hf with rfl | rfl
                · exact own_blk_ne HO9.out HBX.out (by decide) hk
                · obtain ⟨cur, hcur, _⟩ := HRW.out
                  exact own_blk_ne HO9.out hcur (by decide) hk)
              have hBw10 : Below w.heap.size w w10 := hBw9.trans (hK10.below hBw9.size (fun k hk hf => by rcases hf with rfl | rfl <;> omega))
              go_roundw
              case rel => exact ⟨some ⟨g, 0, none⟩, c2, nextL (h :: t), out ++ [h.r], by rw [HNL.2]; exact hb10.box, fun _ => ⟨g, m, rfl, by rw [HNL.2, HNL.1]; exact hb10⟩, hnx, by simpa [Row.cells] using hown10, hBw10, by rw [HNL.2]; simp at hbig; omega⟩
              case measure => simp [lenOfV]; omega
          · have hz : ((out.length : Int) == 0) = false := by simp [hys]; omega
            have hlen1 : out.length = ys.length + 1 := by simp [hys]
            have hol3 : IntKind.i64.wrap ((out.length : Int) - 1) = (ys.length : Int) := by rw [IntWalk.i64_in] <;> omega
            have hj1 : (0 : Int) ≤ (ys.length : Int) := by omega
            have hj2 : (ys.length : Int) < (out.length : Int) := by omega
            obtain ⟨q, rfl, _, hql, hcells0⟩ := own_at hown (by omega)
            have hcq := last_cells (w := wr) (q := q) ys x (by rw [hys] at hcells0; exact hcells0)
            clear hcells0 hown hys hlen1
            rcases hx with hx | hx
            · have hx2 : (x.key.toList != h.r.key.toList) = true := by simpa [bne] using hx
              go_wp2
              have hk8 : Blk (wr.alloc (Obj.cells #[Value.string h.r.key, Value.int .u64 h.r.seq, Value.int .i64 h.r.kind, Value.string h.r.val] 32)) wr.heap.size 32 #[Value.string h.r.key, Value.int .u64 h.r.seq, Value.int .i64 h.r.kind, Value.string h.r.val] := Blk.new _ _ _
              have hl8 := hk8.lt
              have hB8 : Below wr.heap.size wr (wr.alloc (Obj.cells #[Value.string h.r.key, Value.int .u64 h.r.seq, Value.int .i64 h.r.kind, Value.string h.r.val] 32)) := (Below.refl _ _).alloc (Nat.le_refl _) _
              have HK8 := Lib.hid hk8
              clear hk8
              generalize (wr.alloc (Obj.cells #[Value.string h.r.key, Value.int .u64 h.r.seq, Value.int .i64 h.r.kind, Value.string h.r.val] 32)) = w5 at *
              clear x1 x2 r1 r2 r3 r4 hx0 hxf
              have c80 : w5.cell? ⟨wr.heap.size, 0, none⟩ = some (.string h.r.key) := HK8.out.cell 0
              have c81 : w5.cell? ⟨wr.heap.size, 1, none⟩ = some (.int .u64 h.r.seq) := HK8.out.cell 1
              have hB0 : Below w5.heap.size w5 w5 := Below.refl _ _
              have hcx1 : w5.cell? ⟨q, ys.length * 4, none⟩ = some (.string x.key) := (hB8.cell (p := ⟨q, ys.length * 4, none⟩) hql).trans hcq.1
              have hcx2 : w5.cell? ⟨q, ys.length * 4 + 1, none⟩ = some (.int .u64 x.seq) := (hB8.cell (p := ⟨q, ys.length * 4 + 1, none⟩) hql).trans hcq.2
              refine wp_region_canon [0, 1, 2, 3, 4, 5, 6, 7, 8, 9, 10, 11, 12, 13, 14, 15, 16, 17, 18, 19, 20, 21, 22, 23] [] mixed (by kernel_rfl) ?_
              simp only [pickOps, List.map_cons, List.map_nil, List.getD_cons_zero, List.getD_cons_succ]
              repeat still_step
              refine wpStill_nil ?_
              refine wpList_nil ?_
              clear hcx1 hcx2 hol3 hcq hx hx2
              refine NP.normal ?_
              have hB6 : Below wr.heap.size wr w5.drew := hB8.drew
              have hk6 : Blk w5.drew wr.heap.size 32 #[Value.string h.r.key, Value.int .u64 h.r.seq, Value.int .i64 h.r.kind, Value.string h.r.val] := HK8.out
              clear HK8 c80 c81 hB8 hB0
              have hl6 := hk6.lt
              generalize w5.drew = w6 at *
              have c80 := hk6.cell 0
              have c81 := hk6.cell 1
              have c82 := hk6.cell 2
              have c83 := hk6.cell 3
              simp at c80 c81 c82 c83
              have hown6 := own_below HOW.out hB6
              have hb6 := hb.below hB6
              have hB7 := hB.size
              have hB8 := hB6.size
              clear hb hbx hz
              have HB6 := Lib.hid hb6
              clear hb6
              go_wp2_with (at_builtin; refine holdHere ?_)
              refine wpList_app1 elRow rfl _ _ rfl (by rfl) (by exact hown6) (by rfl) (by simp) (by rfl) (by simp [Value.oneCell']) (by unfold maxLen; omega) (by omega) (by omega) ?_
              intro v7 w7 hown7 hg7 _ hB7'
              have hg8 : w6.grownBy w7 (Value.slice (some ⟨q, 0, none⟩) out.length oc).ownBlock := hg7
              clear hg7
              have hne1 : (Value.slice (some ⟨q, 0, none⟩) out.length oc).ownBlock ≠ some w.heap.size := own_blk_ne hown6 HB6.out.box (by decide)
              have hne2 : (Value.slice (some ⟨q, 0, none⟩) out.length oc).ownBlock ≠ some g := by
                obtain ⟨cur, hcur, _⟩ := HB6.out.row
                exact own_blk_ne hown6 hcur (by decide)
              have hb7 : HBox w7 w.heap.size g c2 m (h :: t).length [] w.heap.size (h :: t) :=
                HB6.out.kp (F := fun b => (Value.slice (some ⟨q, 0, none⟩) out.length oc).ownBlock = some b) (Kp.ofGrown hg8 (fun k hk => hk)) hne1 hne2 (fun k hk hf => by have := (hown6.lt k hf).1; omega)
              have hBw7 : Below w.heap.size w w7 := (hB.trans (hB6.mono hB7)).trans hB7'
              have HOW7 := Lib.hid hown7
              clear hown7 hg8 HB6 c80 c81 c82 c83 hk6 hown6 hne1 hne2 HB HOW
              obtain ⟨a', o', b', p', hh, hA1', ha', hblt', x1, x2, r1, r2, r3, r4⟩ := hb7.heads.at_ (k := 0) (by simp)
              injection hh with hh
              injection hh with e1 e2
              subst e1 e2
              simp only [List.getElem_cons_zero, Nat.zero_mul, Nat.add_zero, Nat.zero_add] at hA1' x1 x2
              rw [hA1] at hA1'
              injection hA1' with hh
              injection hh with e1 e2
              subst e1 e2
              have hx0 := hb7.box.cell 0
              have hxl7 := hb7.box.lt
              simp at hx0
              have hfz : ∀ j, w7.frozen? ⟨g, j, none⟩ = false := fun j => hb7.row.frozen j
              have HB7 := Lib.hid hb7
              have HA1 := Lib.hid hA1
              clear hb7 r1 r2 r3 r4 hA1
              have hc1 : (1 : Int) ≤ (h.rest.length : Int) + 1 := by omega
              go_wp2
              refine wp_region_canon [0, 1, 2, 3, 4, 5] [6, 7, 8] mixed (by kernel_rfl) ?_
              simp only [pickOps, List.map_cons, List.map_nil, List.getD_cons_zero, List.getD_cons_succ]
              repeat still_step
              refine wpStill_nil ?_
              generalize hP1 : (if h.c = 1 then some (⟨b, p, none⟩ : Addr) else some ⟨b, p + 4, none⟩) = P1
              have HP1 := Lib.hid hP1
              clear hP1
              have hB9 : Below w7.heap.size w7 w7.drew := (Below.refl _ _).drew
              have hx0 : w7.drew.cell? ⟨w.heap.size, 0, none⟩ = _ := hx0
              have hx1 : w7.drew.cell? ⟨g, 0, none⟩ = _ := x1
              have hx2 : w7.drew.cell? ⟨g, 1, none⟩ = _ := x2
              have hfz : ∀ j, w7.drew.frozen? ⟨g, j, none⟩ = false := hfz
              have hb8 : HBox w7.drew w.heap.size g c2 m (h :: t).length [] w.heap.size (h :: t) := HB7.out.below hB9
              have hown8 := own_below HOW7.out hB9
              have hBw8 : Below w.heap.size w w7.drew := hBw7.drew
              have HB8 := Lib.hid hb8
              have HOW8 := Lib.hid hown8
              clear hb8 hown8 HB7 HOW7 hB9 x1 x2
              generalize w7.drew = w8 at *
              go_wp2
              refine NP.normal ?_
              have hngx : w.heap.size ≠ g := HB8.out.ne
              have hbox9 : Blk (w8.setCell ⟨g, 0, none⟩ (.slice P1 h.rest.length (h.c - 1))) w.heap.size 44 #[.slice (some ⟨g, 0, none⟩) (t.length + 1) c2] := HB8.out.box.far (fun e => hngx e) _
              have hrow9 : RowM (w8.setCell ⟨g, 0, none⟩ (.slice P1 h.rest.length (h.c - 1))) g 48 m (([.slice P1 h.rest.length (h.c - 1), .int .i64 h.ix] : List Value) ++ (t.map Hd.cells).flatten) := by
                have := HB8.out.row.set 0 (.slice P1 h.rest.length (h.c - 1))
                rw [List.append_nil] at this
                exact this
              have hK9 : Kp (fun b => b = g) w8 (w8.setCell ⟨g, 0, none⟩ (.slice P1 h.rest.length (h.c - 1))) := (Kp.refl (fun b => b = g) w8).setCell (p := ⟨g, 0, none⟩) (.inr rfl) _
              have hown9 := own_kp HOW8.out hK9 (fun b hb hbg => by
                have hbg : b = g := hbg
                subst hbg
                obtain ⟨cur, hcur, _⟩ := HB8.out.row
                exact own_blk_ne HOW8.out hcur (by decide) hb)
              have hBw9 : Below w.heap.size w (w8.setCell ⟨g, 0, none⟩ (.slice P1 h.rest.length (h.c - 1))) := hBw8.trans (hK9.below hBw8.size (fun k hk hb => by have hb : k = g := hb; have := HB8.out.gB; omega))
              have hrows9 : ∀ d ∈ h :: t, Rd (w8.setCell ⟨g, 0, none⟩ (.slice P1 h.rest.length (h.c - 1))) 4 d.A (d.rows.map Row.cells) := fun d hd => (HB8.out.rows d hd).kp hK9 (fun a ha hb => by
                have hb : a.block = g := hb
                have := HB8.out.low d hd a ha
                have := HB8.out.gB
                omega)
              have hcap9 := HB8.out.cap
              have hbig9 := HB8.out.big
              have hcells9 := HB8.out.cells
              have hgB9 := HB8.out.gB
              have hlow9 := HB8.out.low
              clear hK9 hx0 hx1 hx2 hfz HOW8 HB8
              generalize w8.setCell ⟨g, 0, none⟩ (.slice P1 h.rest.length (h.c - 1)) = w9 at *
              have hx0 := hbox9.cell 0
              have hx1 := hrow9.cell (j := 0) rfl
              have hxl9 := hbox9.lt
              have hgl9 := hrow9.lt
              simp at hx0
              have HBX := Lib.hid hbox9
              have HRW := Lib.hid hrow9
              have HO9 := Lib.hid hown9
              clear hbox9 hrow9 hown9
              cases hrest : h.rest with
              | nil =>
                have hq : ((h.rest.length : Int) == 0) = true := by simp [hrest]
                have HRest := Lib.hid hrest
                clear hrest
                go_wp2_with fail
                have HNL : nextL (h :: t) = (downL (frontL t) 0 t.length).1 ∧ (nextL (h :: t)).length = t.length := by
                  have : nextL (h :: t) = (downL (frontL t) 0 t.length).1 := by unfold nextL; simp only; rw [HRest.out]
                  exact ⟨this, by rw [this, (downL_inv _ _ _).1, frontL_len]⟩
                refine (hpop_any w.heap.size g c2 m t.length w.heap.size t rfl P1 (h.c - 1) h.ix w9 HBX.out (by simpa using hcap9) (by simpa using hbig9) (by simpa using hcells9) (by have := HRW.out; rw [HRest.out] at this; exact this) (fun d hd => hrows9 d (List.mem_cons_of_mem _ hd)) (fun d hd => hlow9 d (List.mem_cons_of_mem _ hd)) (Nat.le_refl _) hgB9).mono ?_
                rintro e w10 ⟨v, rfl, hb10, hK10⟩
                go_wp2
                have hlen10 := hb10.len
                obtain ⟨O7, oc7, rfl⟩ := own_shape HO9.out
                have hown10 := own_kp HO9.out hK10 (fun k hk hf => by
                  rcases hf with rfl | rfl
                  · exact own_blk_ne HO9.out HBX.out (by decide) hk
                  · obtain ⟨cur, hcur, _⟩ := HRW.out
                    exact own_blk_ne HO9.out hcur (by decide) hk)
                have hBw10 : Below w.heap.size w w10 := hBw9.trans (hK10.below hBw9.size (fun k hk hf => by rcases hf with rfl | rfl <;> omega))
                go_roundw
                case rel => exact ⟨some ⟨g, 0, none⟩, t.length, nextL (h :: t), out ++ [h.r], by rw [HNL.2]; exact hb10.box, fun _ => ⟨g, m, rfl, by rw [HNL.2, HNL.1]; exact hb10⟩, hnx, by simpa [Row.cells] using hown10, hBw10, by rw [HNL.2]; simp at hbig; omega⟩
                case measure => simp [lenOfV]; omega
              | cons r' rest' =>
                have hq : ((h.rest.length : Int) == 0) = false := by simp [hrest]; omega
                have HRest := Lib.hid hrest
                clear hrest
                go_wp2_with fail
                have HNL : nextL (h :: t) = (downL (⟨h.A.map (·.add 4), h.c - 1, r', rest', h.ix⟩ :: t) 0 (t.length + 1)).1 ∧ (nextL (h :: t)).length = t.length + 1 := by
                  have : nextL (h :: t) = (downL (⟨h.A.map (·.add 4), h.c - 1, r', rest', h.ix⟩ :: t) 0 (t.length + 1)).1 := by unfold nextL; simp only; rw [HRest.out]
                  exact ⟨this, by rw [this, (downL_inv _ _ _).1]; rfl⟩
                have hPA : P1 = h.A.map (·.add 4) := by
                  have h1 := HP1.out
                  rw [HA1.out, ← h1, if_neg]
                  · simp [Addr.add_lit]
                  · have := HRest.out; rw [this] at hcap; simp at hcap; omega
                have hb9 : HBox w9 w.heap.size g c2 m (t.length + 1) [] w.heap.size (⟨h.A.map (·.add 4), h.c - 1, r', rest', h.ix⟩ :: t) := by
                  refine ⟨HBX.out, by simp, by simpa using hcap9, by simpa using hbig9, by simpa using hcells9, ?_, ?_, ?_, Nat.le_refl _, hgB9⟩
                  · have := HRW.out
                    rw [HRest.out, hPA] at this
                    rw [List.append_nil]
                    exact this
                  · intro d hd
                    rcases List.mem_cons.1 hd with rfl | hd
                    · have := (hrows9 h (by simp)).drop 1
                      simp only [Hd.rows, HRest.out, List.map_cons, List.drop_succ_cons, List.drop_zero, Nat.one_mul] at this
                      simpa [Hd.rows] using this
                    · exact hrows9 d (List.mem_cons_of_mem _ hd)
                  · intro d hd
                    rcases List.mem_cons.1 hd with rfl | hd
                    · intro a ha
                      rw [HA1.out] at ha
                      simp at ha
                      have := hlow9 h (by simp) _ HA1.out
                      rw [← ha]
                      simpa [Addr.add_lit] using this
                    · exact hlow9 d (List.mem_cons_of_mem _ hd)
                refine (fix_any w.heap.size g c2 m (t.length + 1) w.heap.size _ (by simp) (by omega) w9 hb9).mono ?_
                rintro e w10 ⟨rfl, hb10, hK10⟩
                go_wp2
                have hlen10 := hb10.len
                obtain ⟨O7, oc7, rfl⟩ := own_shape HO9.out
                have hown10 := own_kp HO9.out hK10 (fun k hk hf => by
                  rcases hf with rfl | rfl
                  · exact own_blk_ne HO9.out HBX.out (by decide) hk
                  · obtain ⟨cur, hcur, _⟩ := HRW.out
                    exact own_blk_ne HO9.out hcur (by decide) hk)
                have hBw10 : Below w.heap.size w w10 := hBw9.trans (hK10.below hBw9.size (fun k hk hf => by rcases hf with rfl | rfl <;> omega))
                go_roundw
                case rel => exact ⟨some ⟨g, 0, none⟩, c2, nextL (h :: t), out ++ [h.r], by rw [HNL.2]; exact hb10.box, fun _ => ⟨g, m, rfl, by rw [HNL.2, HNL.1]; exact hb10⟩, hnx, by simpa [Row.cells] using hown10, hBw10, by rw [HNL.2]; simp at hbig; omega⟩
                case measure => simp [lenOfV]; omega
            · have hx2 : (x.seq != h.r.seq) = true := by simpa [bne] using hx
              cases hkk : (x.key.toList == h.r.key.toList) with
              | false =>
                have hkk2 : (x.key.toList != h.r.key.toList) = true := by simpa [bne] using hkk
                go_wp2
                have hk8 : Blk (wr.alloc (Obj.cells #[Value.string h.r.key, Value.int .u64 h.r.seq, Value.int .i64 h.r.kind, Value.string h.r.val] 32)) wr.heap.size 32 #[Value.string h.r.key, Value.int .u64 h.r.seq, Value.int .i64 h.r.kind, Value.string h.r.val] := Blk.new _ _ _
                have hl8 := hk8.lt
                have hB8 : Below wr.heap.size wr (wr.alloc (Obj.cells #[Value.string h.r.key, Value.int .u64 h.r.seq, Value.int .i64 h.r.kind, Value.string h.r.val] 32)) := (Below.refl _ _).alloc (Nat.le_refl _) _
                have HK8 := Lib.hid hk8
                clear hk8
                generalize (wr.alloc (Obj.cells #[Value.string h.r.key, Value.int .u64 h.r.seq, Value.int .i64 h.r.kind, Value.string h.r.val] 32)) = w5 at *
                clear x1 x2 r1 r2 r3 r4 hx0 hxf
                have c80 : w5.cell? ⟨wr.heap.size, 0, none⟩ = some (.string h.r.key) := HK8.out.cell 0
                have c81 : w5.cell? ⟨wr.heap.size, 1, none⟩ = some (.int .u64 h.r.seq) := HK8.out.cell 1
                have hB0 : Below w5.heap.size w5 w5 := Below.refl _ _
                have hcx1 : w5.cell? ⟨q, ys.length * 4, none⟩ = some (.string x.key) := (hB8.cell (p := ⟨q, ys.length * 4, none⟩) hql).trans hcq.1
                have hcx2 : w5.cell? ⟨q, ys.length * 4 + 1, none⟩ = some (.int .u64 x.seq) := (hB8.cell (p := ⟨q, ys.length * 4 + 1, none⟩) hql).trans hcq.2
                refine wp_region_canon [0, 1, 2, 3, 4, 5, 6, 7, 8, 9, 10, 11, 12, 13, 14, 15, 16, 17, 18, 19, 20, 21, 22, 23] [] mixed (by kernel_rfl) ?_
                simp only [pickOps, List.map_cons, List.map_nil, List.getD_cons_zero, List.getD_cons_succ]
                repeat still_step
                refine wpStill_nil ?_
                refine wpList_nil ?_
                clear hcx1 hcx2 hol3 hcq hx hx2 hkk hkk2
                refine NP.normal ?_
                have hB6 : Below wr.heap.size wr w5.drew := hB8.drew
                have hk6 : Blk w5.drew wr.heap.size 32 #[Value.string h.r.key, Value.int .u64 h.r.seq, Value.int .i64 h.r.kind, Value.string h.r.val] := HK8.out
                clear HK8 c80 c81 hB8 hB0
                have hl6 := hk6.lt
                generalize w5.drew = w6 at *
                have c80 := hk6.cell 0
                have c81 := hk6.cell 1
                have c82 := hk6.cell 2
                have c83 := hk6.cell 3
                simp at c80 c81 c82 c83
                have hown6 := own_below HOW.out hB6
                have hb6 := hb.below hB6
                have hB7 := hB.size
                have hB8 := hB6.size
                clear hb hbx hz
                have HB6 := Lib.hid hb6
                clear hb6
                go_wp2_with (at_builtin; refine holdHere ?_)
                refine wpList_app1 elRow rfl _ _ rfl (by rfl) (by exact hown6) (by rfl) (by simp) (by rfl) (by simp [Value.oneCell']) (by unfold maxLen; omega) (by omega) (by omega) ?_
                intro v7 w7 hown7 hg7 _ hB7'
                have hg8 : w6.grownBy w7 (Value.slice (some ⟨q, 0, none⟩) out.length oc).ownBlock := hg7
                clear hg7
                have hne1 : (Value.slice (some ⟨q, 0, none⟩) out.length oc).ownBlock ≠ some w.heap.size := own_blk_ne hown6 HB6.out.box (by decide)
                have hne2 : (Value.slice (some ⟨q, 0, none⟩) out.length oc).ownBlock ≠ some g := by
                  obtain ⟨cur, hcur, _⟩ := HB6.out.row
                  exact own_blk_ne hown6 hcur (by decide)
                have hb7 : HBox w7 w.heap.size g c2 m (h :: t).length [] w.heap.size (h :: t) :=
                  HB6.out.kp (F := fun b => (Value.slice (some ⟨q, 0, none⟩) out.length oc).ownBlock = some b) (Kp.ofGrown hg8 (fun k hk => hk)) hne1 hne2 (fun k hk hf => by have := (hown6.lt k hf).1; omega)
                have hBw7 : Below w.heap.size w w7 := (hB.trans (hB6.mono hB7)).trans hB7'
                have HOW7 := Lib.hid hown7
                clear hown7 hg8 HB6 c80 c81 c82 c83 hk6 hown6 hne1 hne2 HB HOW
                obtain ⟨a', o', b', p', hh, hA1', ha', hblt', x1, x2, r1, r2, r3, r4⟩ := hb7.heads.at_ (k := 0) (by simp)
                injection hh with hh
                injection hh with e1 e2
                subst e1 e2
                simp only [List.getElem_cons_zero, Nat.zero_mul, Nat.add_zero, Nat.zero_add] at hA1' x1 x2
                rw [hA1] at hA1'
                injection hA1' with hh
                injection hh with e1 e2
                subst e1 e2
                have hx0 := hb7.box.cell 0
                have hxl7 := hb7.box.lt
                simp at hx0
                have hfz : ∀ j, w7.frozen? ⟨g, j, none⟩ = false := fun j => hb7.row.frozen j
                have HB7 := Lib.hid hb7
                have HA1 := Lib.hid hA1
                clear hb7 r1 r2 r3 r4 hA1
                have hc1 : (1 : Int) ≤ (h.rest.length : Int) + 1 := by omega
                go_wp2
                refine wp_region_canon [0, 1, 2, 3, 4, 5] [6, 7, 8] mixed (by kernel_rfl) ?_
                simp only [pickOps, List.map_cons, List.map_nil, List.getD_cons_zero, List.getD_cons_succ]
                repeat still_step
                refine wpStill_nil ?_
                generalize hP1 : (if h.c = 1 then some (⟨b, p, none⟩ : Addr) else some ⟨b, p + 4, none⟩) = P1
                have HP1 := Lib.hid hP1
                clear hP1
                have hB9 : Below w7.heap.size w7 w7.drew := (Below.refl _ _).drew
                have hx0 : w7.drew.cell? ⟨w.heap.size, 0, none⟩ = _ := hx0
                have hx1 : w7.drew.cell? ⟨g, 0, none⟩ = _ := x1
                have hx2 : w7.drew.cell? ⟨g, 1, none⟩ = _ := x2
                have hfz : ∀ j, w7.drew.frozen? ⟨g, j, none⟩ = false := hfz
                have hb8 : HBox w7.drew w.heap.size g c2 m (h :: t).length [] w.heap.size (h :: t) := HB7.out.below hB9
                have hown8 := own_below HOW7.out hB9
                have hBw8 : Below w.heap.size w w7.drew := hBw7.drew
                have HB8 := Lib.hid hb8
                have HOW8 := Lib.hid hown8
                clear hb8 hown8 HB7 HOW7 hB9 x1 x2
                generalize w7.drew = w8 at *
                go_wp2
                refine NP.normal ?_
                have hngx : w.heap.size ≠ g := HB8.out.ne
                have hbox9 : Blk (w8.setCell ⟨g, 0, none⟩ (.slice P1 h.rest.length (h.c - 1))) w.heap.size 44 #[.slice (some ⟨g, 0, none⟩) (t.length + 1) c2] := HB8.out.box.far (fun e => hngx e) _
                have hrow9 : RowM (w8.setCell ⟨g, 0, none⟩ (.slice P1 h.rest.length (h.c - 1))) g 48 m (([.slice P1 h.rest.length (h.c - 1), .int .i64 h.ix] : List Value) ++ (t.map Hd.cells).flatten) := by
                  have := HB8.out.row.set 0 (.slice P1 h.rest.length (h.c - 1))
                  rw [List.append_nil] at this
                  exact this
                have hK9 : Kp (fun b => b = g) w8 (w8.setCell ⟨g, 0, none⟩ (.slice P1 h.rest.length (h.c - 1))) := (Kp.refl (fun b => b = g) w8).setCell (p := ⟨g, 0, none⟩) (.inr rfl) _
                have hown9 := own_kp HOW8.out hK9 (fun b hb hbg => by
                  have hbg : b = g := hbg
                  subst hbg
                  obtain ⟨cur, hcur, _⟩ := HB8.out.row
                  exact own_blk_ne HOW8.out hcur (by decide) hb)
                have hBw9 : Below w.heap.size w (w8.setCell ⟨g, 0, none⟩ (.slice P1 h.rest.length (h.c - 1))) := hBw8.trans (hK9.below hBw8.size (fun k hk hb => by have hb : k = g := hb; have := HB8.out.gB; omega))
                have hrows9 : ∀ d ∈ h :: t, Rd (w8.setCell ⟨g, 0, none⟩ (.slice P1 h.rest.length (h.c - 1))) 4 d.A (d.rows.map Row.cells) := fun d hd => (HB8.out.rows d hd).kp hK9 (fun a ha hb => by
                  have hb : a.block = g := hb
                  have := HB8.out.low d hd a ha
                  have := HB8.out.gB
                  omega)
                have hcap9 := HB8.out.cap
                have hbig9 := HB8.out.big
                have hcells9 := HB8.out.cells
                have hgB9 := HB8.out.gB
                have hlow9 := HB8.out.low
                clear hK9 hx0 hx1 hx2 hfz HOW8 HB8
                generalize w8.setCell ⟨g, 0, none⟩ (.slice P1 h.rest.length (h.c - 1)) = w9 at *
                have hx0 := hbox9.cell 0
                have hx1 := hrow9.cell (j := 0) rfl
                have hxl9 := hbox9.lt
                have hgl9 := hrow9.lt
                simp at hx0
                have HBX := Lib.hid hbox9
                have HRW := Lib.hid hrow9
                have HO9 := Lib.hid hown9
                clear hbox9 hrow9 hown9
                cases hrest : h.rest with
                | nil =>
                  have hq : ((h.rest.length : Int) == 0) = true := by simp [hrest]
                  have HRest := Lib.hid hrest
                  clear hrest
                  go_wp2_with fail
                  have HNL : nextL (h :: t) = (downL (frontL t) 0 t.length).1 ∧ (nextL (h :: t)).length = t.length := by
                    have : nextL (h :: t) = (downL (frontL t) 0 t.length).1 := by unfold nextL; simp only; rw [HRest.out]
                    exact ⟨this, by rw [this, (downL_inv _ _ _).1, frontL_len]⟩
                  refine (hpop_any w.heap.size g c2 m t.length w.heap.size t rfl P1 (h.c - 1) h.ix w9 HBX.out (by simpa using hcap9) (by simpa using hbig9) (by simpa using hcells9) (by have := HRW.out; rw [HRest.out] at this; exact this) (fun d hd => hrows9 d (List.mem_cons_of_mem _ hd)) (fun d hd => hlow9 d (List.mem_cons_of_mem _ hd)) (Nat.le_refl _) hgB9).mono ?_
                  rintro e w10 ⟨v, rfl, hb10, hK10⟩
                  go_wp2
                  have hlen10 := hb10.len
                  obtain ⟨O7, oc7, rfl⟩ := own_shape HO9.out
                  have hown10 := own_kp HO9.out hK10 (fun k hk hf => by
                    rcases hf with rfl | rfl
                    · exact own_blk_ne HO9.out HBX.out (by decide) hk
                    · obtain ⟨cur, hcur, _⟩ := HRW.out
                      exact own_blk_ne HO9.out hcur (by decide) hk)
                  have hBw10 : Below w.heap.size w w10 := hBw9.trans (hK10.below hBw9.size (fun k hk hf => by rcases hf with rfl | rfl <;> omega))
                  go_roundw
                  case rel => exact ⟨some ⟨g, 0, none⟩, t.length, nextL (h :: t), out ++ [h.r], by rw [HNL.2]; exact hb10.box, fun _ => ⟨g, m, rfl, by rw [HNL.2, HNL.1]; exact hb10⟩, hnx, by simpa [Row.cells] using hown10, hBw10, by rw [HNL.2]; simp at hbig; omega⟩
                  case measure => simp [lenOfV]; omega
                | cons r' rest' =>
                  have hq : ((h.rest.length : Int) == 0) = false := by simp [hrest]; omega
                  have HRest := Lib.hid hrest
                  clear hrest
                  go_wp2_with fail
                  have HNL : nextL (h :: t) = (downL (⟨h.A.map (·.add 4), h.c - 1, r', rest', h.ix⟩ :: t) 0 (t.length + 1)).1 ∧ (nextL (h :: t)).length = t.length + 1 := by
                    have : nextL (h :: t) = (downL (⟨h.A.map (·.add 4), h.c - 1, r', rest', h.ix⟩ :: t) 0 (t.length + 1)).1 := by unfold nextL; simp only; rw [HRest.out]
                    exact ⟨this, by rw [this, (downL_inv _ _ _).1]; rfl⟩
                  have hPA : P1 = h.A.map (·.add 4) := by
                    have h1 := HP1.out
                    rw [HA1.out, ← h1, if_neg]
                    · simp [Addr.add_lit]
                    · have := HRest.out; rw [this] at hcap; simp at hcap; omega
                  have hb9 : HBox w9 w.heap.size g c2 m (t.length + 1) [] w.heap.size (⟨h.A.map (·.add 4), h.c - 1, r', rest', h.ix⟩ :: t) := by
                    refine ⟨HBX.out, by simp, by simpa using hcap9, by simpa using hbig9, by simpa using hcells9, ?_, ?_, ?_, Nat.le_refl _, hgB9⟩
                    · have := HRW.out
                      rw [HRest.out, hPA] at this
                      rw [List.append_nil]
                      exact this
                    · intro d hd
                      rcases List.mem_cons.1 hd with rfl | hd
                      · have := (hrows9 h (by simp)).drop 1
                        simp only [Hd.rows, HRest.out, List.map_cons, List.drop_succ_cons, List.drop_zero, Nat.one_mul] at this
                        simpa [Hd.rows] using this
                      · exact hrows9 d (List.mem_cons_of_mem _ hd)
                    · intro d hd
                      rcases List.mem_cons.1 hd with rfl | hd
                      · intro a ha
                        rw [HA1.out] at ha
                        simp at ha
                        have := hlow9 h (by simp) _ HA1.out
                        rw [← ha]
                        simpa [Addr.add_lit] using this
                      · exact hlow9 d (List.mem_cons_of_mem _ hd)
                  refine (fix_any w.heap.size g c2 m (t.length + 1) w.heap.size _ (by simp) (by omega) w9 hb9).mono ?_
                  rintro e w10 ⟨rfl, hb10, hK10⟩
                  go_wp2
                  have hlen10 := hb10.len
                  obtain ⟨O7, oc7, rfl⟩ := own_shape HO9.out
                  have hown10 := own_kp HO9.out hK10 (fun k hk hf => by
                    rcases hf with rfl | rfl
                    · exact own_blk_ne HO9.out HBX.out (by decide) hk
                    · obtain ⟨cur, hcur, _⟩ := HRW.out
                      exact own_blk_ne HO9.out hcur (by decide) hk)
                  have hBw10 : Below w.heap.size w w10 := hBw9.trans (hK10.below hBw9.size (fun k hk hf => by rcases hf with rfl | rfl <;> omega))
                  go_roundw
                  case rel => exact ⟨some ⟨g, 0, none⟩, c2, nextL (h :: t), out ++ [h.r], by rw [HNL.2]; exact hb10.box, fun _ => ⟨g, m, rfl, by rw [HNL.2, HNL.1]; exact hb10⟩, hnx, by simpa [Row.cells] using hown10, hBw10, by rw [HNL.2]; simp at hbig; omega⟩
                  case measure => simp [lenOfV]; omega
              | true =>
                have hkk2 : (x.key.toList != h.r.key.toList) = false := by simpa [bne] using hkk
                go_wp2
                have hk8 : Blk (wr.alloc (Obj.cells #[Value.string h.r.key, Value.int .u64 h.r.seq, Value.int .i64 h.r.kind, Value.string h.r.val] 32)) wr.heap.size 32 #[Value.string h.r.key, Value.int .u64 h.r.seq, Value.int .i64 h.r.kind, Value.string h.r.val] := Blk.new _ _ _
                have hl8 := hk8.lt
                have hB8 : Below wr.heap.size wr (wr.alloc (Obj.cells #[Value.string h.r.key, Value.int .u64 h.r.seq, Value.int .i64 h.r.kind, Value.string h.r.val] 32)) := (Below.refl _ _).alloc (Nat.le_refl _) _
                have HK8 := Lib.hid hk8
                clear hk8
                generalize (wr.alloc (Obj.cells #[Value.string h.r.key, Value.int .u64 h.r.seq, Value.int .i64 h.r.kind, Value.string h.r.val] 32)) = w5 at *
                clear x1 x2 r1 r2 r3 r4 hx0 hxf
                have c80 : w5.cell? ⟨wr.heap.size, 0, none⟩ = some (.string h.r.key) := HK8.out.cell 0
                have c81 : w5.cell? ⟨wr.heap.size, 1, none⟩ = some (.int .u64 h.r.seq) := HK8.out.cell 1
                have hB0 : Below w5.heap.size w5 w5 := Below.refl _ _
                have hcx1 : w5.cell? ⟨q, ys.length * 4, none⟩ = some (.string x.key) := (hB8.cell (p := ⟨q, ys.length * 4, none⟩) hql).trans hcq.1
                have hcx2 : w5.cell? ⟨q, ys.length * 4 + 1, none⟩ = some (.int .u64 x.seq) := (hB8.cell (p := ⟨q, ys.length * 4 + 1, none⟩) hql).trans hcq.2
                refine wp_region_canon [0, 1, 2, 3, 4, 5, 6, 7, 8, 9, 10, 11, 12, 13, 14, 15, 16, 17, 18, 19, 20, 21, 22, 23] [] mixed (by kernel_rfl) ?_
                simp only [pickOps, List.map_cons, List.map_nil, List.getD_cons_zero, List.getD_cons_succ]
                repeat still_step
                refine wpStill_nil ?_
                refine wpList_nil ?_
                clear hcx1 hcx2 hol3 hcq hx hx2 hkk hkk2
                refine NP.normal ?_
                have hB6 : Below wr.heap.size wr w5.drew := hB8.drew
                have hk6 : Blk w5.drew wr.heap.size 32 #[Value.string h.r.key, Value.int .u64 h.r.seq, Value.int .i64 h.r.kind, Value.string h.r.val] := HK8.out
                clear HK8 c80 c81 hB8 hB0
                have hl6 := hk6.lt
                generalize w5.drew = w6 at *
                have c80 := hk6.cell 0
                have c81 := hk6.cell 1
                have c82 := hk6.cell 2
                have c83 := hk6.cell 3
                simp at c80 c81 c82 c83
                have hown6 := own_below HOW.out hB6
                have hb6 := hb.below hB6
                have hB7 := hB.size
                have hB8 := hB6.size
                clear hb hbx hz
                have HB6 := Lib.hid hb6
                clear hb6
                go_wp2_with (at_builtin; refine holdHere ?_)
                refine wpList_app1 elRow rfl _ _ rfl (by rfl) (by exact hown6) (by rfl) (by simp) (by rfl) (by simp [Value.oneCell']) (by unfold maxLen; omega) (by omega) (by omega) ?_
                intro v7 w7 hown7 hg7 _ hB7'
                have hg8 : w6.grownBy w7 (Value.slice (some ⟨q, 0, none⟩) out.length oc).ownBlock := hg7
                clear hg7
                have hne1 : (Value.slice (some ⟨q, 0, none⟩) out.length oc).ownBlock ≠ some w.heap.size := own_blk_ne hown6 HB6.out.box (by decide)
                have hne2 : (Value.slice (some ⟨q, 0, none⟩) out.length oc).ownBlock ≠ some g := by
                  obtain ⟨cur, hcur, _⟩ := HB6.out.row
                  exact own_blk_ne hown6 hcur (by decide)
                have hb7 : HBox w7 w.heap.size g c2 m (h :: t).length [] w.heap.size (h :: t) :=
                  HB6.out.kp (F := fun b => (Value.slice (some ⟨q, 0, none⟩) out.length oc).ownBlock = some b) (Kp.ofGrown hg8 (fun k hk => hk)) hne1 hne2 (fun k hk hf => by have := (hown6.lt k hf).1; omega)
                have hBw7 : Below w.heap.size w w7 := (hB.trans (hB6.mono hB7)).trans hB7'
                have HOW7 := Lib.hid hown7
                clear hown7 hg8 HB6 c80 c81 c82 c83 hk6 hown6 hne1 hne2 HB HOW
                obtain ⟨a', o', b', p', hh, hA1', ha', hblt', x1, x2, r1, r2, r3, r4⟩ := hb7.heads.at_ (k := 0) (by simp)
                injection hh with hh
                injection hh with e1 e2
                subst e1 e2
                simp only [List.getElem_cons_zero, Nat.zero_mul, Nat.add_zero, Nat.zero_add] at hA1' x1 x2
                rw [hA1] at hA1'
                injection hA1' with hh
                injection hh with e1 e2
                subst e1 e2
                have hx0 := hb7.box.cell 0
                have hxl7 := hb7.box.lt
                simp at hx0
                have hfz : ∀ j, w7.frozen? ⟨g, j, none⟩ = false := fun j => hb7.row.frozen j
                have HB7 := Lib.hid hb7
                have HA1 := Lib.hid hA1
                clear hb7 r1 r2 r3 r4 hA1
                have hc1 : (1 : Int) ≤ (h.rest.length : Int) + 1 := by omega
                go_wp2
                refine wp_region_canon [0, 1, 2, 3, 4, 5] [6, 7, 8] mixed (by kernel_rfl) ?_
                simp only [pickOps, List.map_cons, List.map_nil, List.getD_cons_zero, List.getD_cons_succ]
                repeat still_step
                refine wpStill_nil ?_
                generalize hP1 : (if h.c = 1 then some (⟨b, p, none⟩ : Addr) else some ⟨b, p + 4, none⟩) = P1
                have HP1 := Lib.hid hP1
                clear hP1
                have hB9 : Below w7.heap.size w7 w7.drew := (Below.refl _ _).drew
                have hx0 : w7.drew.cell? ⟨w.heap.size, 0, none⟩ = _ := hx0
                have hx1 : w7.drew.cell? ⟨g, 0, none⟩ = _ := x1
                have hx2 : w7.drew.cell? ⟨g, 1, none⟩ = _ := x2
                have hfz : ∀ j, w7.drew.frozen? ⟨g, j, none⟩ = false := hfz
                have hb8 : HBox w7.drew w.heap.size g c2 m (h :: t).length [] w.heap.size (h :: t) := HB7.out.below hB9
                have hown8 := own_below HOW7.out hB9
                have hBw8 : Below w.heap.size w w7.drew := hBw7.drew
                have HB8 := Lib.hid hb8
                have HOW8 := Lib.hid hown8
                clear hb8 hown8 HB7 HOW7 hB9 x1 x2
                generalize w7.drew = w8 at *
                go_wp2
                refine NP.normal ?_
                have hngx : w.heap.size ≠ g := HB8.out.ne
                have hbox9 : Blk (w8.setCell ⟨g, 0, none⟩ (.slice P1 h.rest.length (h.c - 1))) w.heap.size 44 #[.slice (some ⟨g, 0, none⟩) (t.length + 1) c2] := HB8.out.box.far (fun e => hngx e) _
                have hrow9 : RowM (w8.setCell ⟨g, 0, none⟩ (.slice P1 h.rest.length (h.c - 1))) g 48 m (([.slice P1 h.rest.length (h.c - 1), .int .i64 h.ix] : List Value) ++ (t.map Hd.cells).flatten) := by
                  have := HB8.out.row.set 0 (.slice P1 h.rest.length (h.c - 1))
                  rw [List.append_nil] at this
                  exact this
                have hK9 : Kp (fun b => b = g) w8 (w8.setCell ⟨g, 0, none⟩ (.slice P1 h.rest.length (h.c - 1))) := (Kp.refl (fun b => b = g) w8).setCell (p := ⟨g, 0, none⟩) (.inr rfl) _
                have hown9 := own_kp HOW8.out hK9 (fun b hb hbg => by
                  have hbg : b = g := hbg
                  subst hbg
                  obtain ⟨cur, hcur, _⟩ := HB8.out.row
                  exact own_blk_ne HOW8.out hcur (by decide) hb)
                have hBw9 : Below w.heap.size w (w8.setCell ⟨g, 0, none⟩ (.slice P1 h.rest.length (h.c - 1))) := hBw8.trans (hK9.below hBw8.size (fun k hk hb => by have hb : k = g := hb; have := HB8.out.gB; omega))
                have hrows9 : ∀ d ∈ h :: t, Rd (w8.setCell ⟨g, 0, none⟩ (.slice P1 h.rest.length (h.c - 1))) 4 d.A (d.rows.map Row.cells) := fun d hd => (HB8.out.rows d hd).kp hK9 (fun a ha hb => by
                  have hb : a.block = g := hb
                  have := HB8.out.low d hd a ha
                  have := HB8.out.gB
                  omega)
                have hcap9 := HB8.out.cap
                have hbig9 := HB8.out.big
                have hcells9 := HB8.out.cells
                have hgB9 := HB8.out.gB
                have hlow9 := HB8.out.low
                clear hK9 hx0 hx1 hx2 hfz HOW8 HB8
                generalize w8.setCell ⟨g, 0, none⟩ (.slice P1 h.rest.length (h.c - 1)) = w9 at *
                have hx0 := hbox9.cell 0
                have hx1 := hrow9.cell (j := 0) rfl
                have hxl9 := hbox9.lt
                have hgl9 := hrow9.lt
                simp at hx0
                have HBX := Lib.hid hbox9
                have HRW := Lib.hid hrow9
                have HO9 := Lib.hid hown9
                clear hbox9 hrow9 hown9
                cases hrest : h.rest with
                | nil =>
                  have hq : ((h.rest.length : Int) == 0) = true := by simp [hrest]
                  have HRest := Lib.hid hrest
                  clear hrest
                  go_wp2_with fail
                  have HNL : nextL (h :: t) = (downL (frontL t) 0 t.length).1 ∧ (nextL (h :: t)).length = t.length := by
                    have : nextL (h :: t) = (downL (frontL t) 0 t.length).1 := by unfold nextL; simp only; rw [HRest.out]
                    exact ⟨this, by rw [this, (downL_inv _ _ _).1, frontL_len]⟩
                  refine (hpop_any w.heap.size g c2 m t.length w.heap.size t rfl P1 (h.c - 1) h.ix w9 HBX.out (by simpa using hcap9) (by simpa using hbig9) (by simpa using hcells9) (by have := HRW.out; rw [HRest.out] at this; exact this) (fun d hd => hrows9 d (List.mem_cons_of_mem _ hd)) (fun d hd => hlow9 d (List.mem_cons_of_mem _ hd)) (Nat.le_refl _) hgB9).mono ?_
                  rintro e w10 ⟨v, rfl, hb10, hK10⟩
                  go_wp2
                  have hlen10 := hb10.len
                  obtain ⟨O7, oc7, rfl⟩ := own_shape HO9.out
                  have hown10 := own_kp HO9.out hK10 (fun k hk hf => by
                    rcases hf with rfl | rfl
                    · exact own_blk_ne HO9.out HBX.out (by decide) hk
                    · obtain ⟨cur, hcur, _⟩ := HRW.out
                      exact own_blk_ne HO9.out hcur (by decide) hk)
                  have hBw10 : Below w.heap.size w w10 := hBw9.trans (hK10.below hBw9.size (fun k hk hf => by rcases hf with rfl | rfl <;> omega))
                  go_roundw
                  case rel => exact ⟨some ⟨g, 0, none⟩, t.length, nextL (h :: t), out ++ [h.r], by rw [HNL.2]; exact hb10.box, fun _ => ⟨g, m, rfl, by rw [HNL.2, HNL.1]; exact hb10⟩, hnx, by simpa [Row.cells] using hown10, hBw10, by rw [HNL.2]; simp at hbig; omega⟩
                  case measure => simp [lenOfV]; omega
                | cons r' rest' =>
                  have hq : ((h.rest.length : Int) == 0) = false := by simp [hrest]; omega
                  have HRest := Lib.hid hrest
                  clear hrest
                  go_wp2_with fail
                  have HNL : nextL (h :: t) = (downL (⟨h.A.map (·.add 4), h.c - 1, r', rest', h.ix⟩ :: t) 0 (t.length + 1)).1 ∧ (nextL (h :: t)).length = t.length + 1 := by
                    have : nextL (h :: t) = (downL (⟨h.A.map (·.add 4), h.c - 1, r', rest', h.ix⟩ :: t) 0 (t.length + 1)).1 := by unfold nextL; simp only; rw [HRest.out]
                    exact ⟨this, by rw [this, (downL_inv _ _ _).1]; rfl⟩
                  have hPA : P1 = h.A.map (·.add 4) := by
                    have h1 := HP1.out
                    rw [HA1.out, ← h1, if_neg]
                    · simp [Addr.add_lit]
                    · have := HRest.out; rw [this] at hcap; simp at hcap; omega
                  have hb9 : HBox w9 w.heap.size g c2 m (t.length + 1) [] w.heap.size (⟨h.A.map (·.add 4), h.c - 1, r', rest', h.ix⟩ :: t) := by
                    refine ⟨HBX.out, by simp, by simpa using hcap9, by simpa using hbig9, by simpa using hcells9, ?_, ?_, ?_, Nat.le_refl _, hgB9⟩
                    · have := HRW.out
                      rw [HRest.out, hPA] at this
                      rw [List.append_nil]
                      exact this
                    · intro d hd
                      rcases List.mem_cons.1 hd with rfl | hd
                      · have := (hrows9 h (by simp)).drop 1
                        simp only [Hd.rows, HRest.out, List.map_cons, List.drop_succ_cons, List.drop_zero, Nat.one_mul] at this
                        simpa [Hd.rows] using this
                      · exact hrows9 d (List.mem_cons_of_mem _ hd)
                    · intro d hd
                      rcases List.mem_cons.1 hd with rfl | hd
                      · intro a ha
                        rw [HA1.out] at ha
                        simp at ha
                        have := hlow9 h (by simp) _ HA1.out
                        rw [← ha]
                        simpa [Addr.add_lit] using this
                      · exact hlow9 d (List.mem_cons_of_mem _ hd)
                  refine (fix_any w.heap.size g c2 m (t.length + 1) w.heap.size _ (by simp) (by omega) w9 hb9).mono ?_
                  rintro e w10 ⟨rfl, hb10, hK10⟩
                  go_wp2
                  have hlen10 := hb10.len
                  obtain ⟨O7, oc7, rfl⟩ := own_shape HO9.out
                  have hown10 := own_kp HO9.out hK10 (fun k hk hf => by
                    rcases hf with rfl | rfl
                    · exact own_blk_ne HO9.out HBX.out (by decide) hk
                    · obtain ⟨cur, hcur, _⟩ := HRW.out
                      exact own_blk_ne HO9.out hcur (by decide) hk)
                  have hBw10 : Below w.heap.size w w10 := hBw9.trans (hK10.below hBw9.size (fun k hk hf => by rcases hf with rfl | rfl <;> omega))
                  go_roundw
                  case rel => exact ⟨some ⟨g, 0, none⟩, c2, nextL (h :: t), out ++ [h.r], by rw [HNL.2]; exact hb10.box, fun _ => ⟨g, m, rfl, by rw [HNL.2, HNL.1]; exact hb10⟩, hnx, by simpa [Row.cells] using hown10, hBw10, by rw [HNL.2]; simp at hbig; omega⟩
                  case measure => simp [lenOfV]; omega
end Go.Proofs.Ytkjcnjfjecfciaa
