/- The walks of merge.heads' Push and Pop, and of container/heap's Push, Pop and Fix over them. -/
import Derived.Test.YtkjcnjfjecfciaaHeapD
namespace Go.Proofs.Ytkjcnjfjecfciaa
open Go.RowKit

theorem elHead : El Try.prog 44 48 (.agg #[.slice none 0 0, .int .i64 0]) 2 32 := ⟨by kernel_rfl, by kernel_rfl, by rfl, by omega⟩

theorem methFindP (name : String) (f : FuncId) (h : ((Try.prog).info? 46).bind (fun i => (i.methods.find? (·.name == name)).map (fun m => (m.path.toList, m.func))) = some ([], some (f, true)))
   (n : Nat) (a : Addr) (w : World) : (method (n + 1) 46 (.pointer (some a)) name).run Try.prog w = .ok (f, .pointer (some a)) w := by
  cases hi : (Try.prog).info? 46 with
  | none => rw [hi] at h; cases h
  | some i =>
    rw [hi] at h
    simp only [Option.bind_some] at h
    cases hm : i.methods.find? (·.name == name) with
    | none => rw [hm] at h; cases h
    | some m =>
      rw [hm] at h
      simp only [Option.map_some, Option.some.injEq, Prod.mk.injEq] at h
      obtain ⟨h1, h2⟩ := h
      have h3 : m.path = #[] := by simpa using h1
      simp only [method, typeInfo]
      simp [go_sem, hi, hm, h2, h3, follow, receiverAt, run_underlying (show (Try.prog).underlying 46 = some (.pointer 44) by kernel_rfl), Place.get]
theorem nilFindP (name : String) (f : FuncId) (h : ((Try.prog).info? 46).bind (fun i => (i.methods.find? (·.name == name)).map (fun m => (m.path.toList, m.func))) = some ([], some (f, true)))
   (n : Nat) (a : Addr) (w : World) : (nilAhead (n + 1) 46 (.pointer (some a)) name).run Try.prog w = .ok (some false) w := by
  cases hi : (Try.prog).info? 46 with
  | none => rw [hi] at h; cases h
  | some i =>
    rw [hi] at h
    simp only [Option.bind_some] at h
    cases hm : i.methods.find? (·.name == name) with
    | none => rw [hm] at h; cases h
    | some m =>
      rw [hm] at h
      simp only [Option.map_some, Option.some.injEq, Prod.mk.injEq] at h
      obtain ⟨h1, h2⟩ := h
      simp only [nilAhead, typeInfo]
      simp [go_sem, hi, hm, h1, h2, followBlind]
theorem methPush : ((Try.prog).info? 46).bind (fun i => (i.methods.find? (·.name == "Push")).map (fun m => (m.path.toList, m.func))) = some ([], some (41, true)) := by kernel_rfl
theorem methPop : ((Try.prog).info? 46).bind (fun i => (i.methods.find? (·.name == "Pop")).map (fun m => (m.path.toList, m.func))) = some ([], some (40, true)) := by kernel_rfl

theorem assertHead (v : Value) (w : World) : (Instr.typeAssert (.iface 48 v) 20 48 true).run Try.prog w = .ok (.tuple #[v, .bool true]) w := by kernel_rfl

/-- the heads behind the box bx while they are pushed -/
structure HPush (w : World) (bx : Nat) (A : Option Addr) (c B : Nat) (hs : List Hd) : Prop where
  box : Blk w bx 44 #[.slice A hs.length c]
  own : w.ownsRow B 48 2 (.slice A hs.length c) hs.length (hs.map Hd.cells).flatten
  rows : ∀ h ∈ hs, Rd w 4 h.A (h.rows.map Row.cells)
  low : ∀ h ∈ hs, ∀ a, h.A = some a → a.block < B
  bxB : B ≤ bx

def fpP (bx : Nat) (A : Option Addr) : Nat → Prop := fun b => b = bx ∨ ∃ a, A = some a ∧ a.block = b
def Hd.v (h : Hd) : Value := .agg #[.slice h.A (h.rest.length + 1) h.c, .int .i64 h.ix]

set_option maxRecDepth 100000 in
set_option maxHeartbeats 1000000 in
theorem push_any (bx B : Nat) (A : Option Addr) (c : Nat) (hs : List Hd) (h : Hd) (hn : hs.length ≤ 1099511627776) (w : World) (hb : HPush w bx A c B hs) (hBw : B ≤ w.heap.size) (hr : Rd w 4 h.A (h.rows.map Row.cells)) (hlow : ∀ a, h.A = some a → a.block < B) :
    Calls Try.prog 41 #[.pointer (some ⟨bx, 0, none⟩), .iface 48 (.agg #[.slice h.A (h.rest.length + 1) h.c, .int .i64 h.ix])] w fun e w' => e = .returned (.tuple #[]) ∧
      ∃ g c', HPush w' bx (some ⟨g, 0, none⟩) c' B (hs ++ [h]) ∧ Kp (fpP bx A) w w' ∧ (w.heap.size ≤ g ∨ ∃ a, A = some a ∧ a.block = g) := by
  have hbox := hb.box.cell 0
  simp at hbox
  have hlt := hb.box.lt
  have hfz := hb.box.frozen 0
  have ha := assertHead (.agg #[.slice h.A (h.rest.length + 1) h.c, .int .i64 h.ix])
  go_enter Try.func41, Try.ntmps41
  go_wp2
  have hb0 : Below w.heap.size w (w.alloc (Obj.cells #[Value.slice h.A (h.rest.length + 1) h.c, Value.int IntKind.i64 h.ix] 48)) := (Below.refl _ _).alloc (Nat.le_refl _) _
  have hbx : Blk (w.alloc (Obj.cells #[Value.slice h.A (h.rest.length + 1) h.c, Value.int IntKind.i64 h.ix] 48)) bx 44 #[.slice A hs.length c] := hb.box.alloc _
  have hnb : Blk (w.alloc (Obj.cells #[Value.slice h.A (h.rest.length + 1) h.c, Value.int IntKind.i64 h.ix] 48)) w.heap.size 48 #[Value.slice h.A (h.rest.length + 1) h.c, Value.int IntKind.i64 h.ix] := Blk.new _ _ _
  have hown0 := own_below hb.own hb0
  clear ha hfz hbox
  have hb1 := Lib.hid hb0
  generalize w.alloc (Obj.cells #[Value.slice h.A (h.rest.length + 1) h.c, Value.int IntKind.i64 h.ix] 48) = w0 at *
  refine wp_region_canonS (fun w2 => Below w0.heap.size w0 w2) [1, 2, 3] [0, 4] [5] [6, 7, 8] mixed (by kernel_rfl) (by rfl) (Below.refl _ _).drew ?_
  simp only [pickOps, List.map_cons, List.map_nil, List.getD_cons_zero, List.getD_cons_succ]
  refine wpS_step rfl (.pointer (some ⟨bx, 0, none⟩)) (fun w2 hS => rfl) ?_
  refine wpS_step rfl (.pointer (some ⟨bx, 0, none⟩)) (fun w2 hS => ?_) ?_
  · go_simp
  refine wpS_step rfl (.slice A hs.length c) (fun w2 hS => ?_) ?_
  · have hc := (hbx.below hS).cell 0
    simp at hc
    go_simp
  refine wpS_nil ?_
  have hc4 := hnb.cell 0
  have hc5 := hnb.cell 1
  have hlt4 := hnb.lt
  simp at hc4 hc5
  repeat still_step
  refine wpStill_nil ?_
  have hbx := (hbx.drew : Blk w0.drew bx _ _)
  have hown1 : w0.drew.ownsRow B 48 2 (.slice A hs.length c) hs.length (hs.map Hd.cells).flatten := own_below hown0 (Below.refl _ _).drew
  have hb2 : Below w.heap.size w w0.drew := hb0.drew
  have hb3 : Below w0.heap.size w0 w0.drew := (Below.refl _ _).drew
  clear hnb hc4 hc5 hown0 hb0
  generalize w0.drew = w4 at *
  refine wpKeep_step rfl ?_
  intro K hK
  go_simp
  refine hK _ _ (hb3.alloc (by simpa using hb3.size) _) ?_
  clear hK K
  refine wpKeep_nil ?_
  have hb4 := hb3.size
  refine wpList_app1 elHead rfl _ _ rfl (by rfl) (by exact hown1) (by rfl) (by simp) (by rfl) (by simp [Value.oneCell']) (by unfold maxLen; omega) (by omega) (by omega) ?_
  intro v5 w5 hown5 hg5 hw5 hB5
  have hg6 : w4.grownBy w5 (Value.slice A hs.length c).ownBlock := hg5
  have hw6 : v5.ownBlock = (Value.slice A hs.length c).ownBlock ∨ ∃ g, v5.ownBlock = some g ∧ w4.heap.size ≤ g := hw5
  clear hg5 hw5
  have hne : (Value.slice A hs.length c).ownBlock ≠ some bx := own_blk_ne hown1 hbx (by decide)
  have hbx5 : Blk w5 bx 44 #[.slice A hs.length c] := hbx.kp (F := fun b => (Value.slice A hs.length c).ownBlock = some b) (Kp.ofGrown hg6 (fun k hk => hk)) hne
  have hne5 : v5.ownBlock ≠ some bx := own_blk_ne hown5 hbx5 (by decide)
  obtain ⟨A5, c6, rfl⟩ := own_shape hown5
  obtain ⟨g, rfl, hgB, hgl, -⟩ := own_at hown5 (by omega)
  have hc5 := hbx5.cell 0
  have hf5 := hbx5.frozen 0
  have hlt5 := hbx5.lt
  have hKg : Kp (fun b => (Value.slice A hs.length c).ownBlock = some b) w4 w5 := Kp.ofGrown hg6 (fun k hk => hk)
  clear hg6
  have hh1 := Lib.hid hown5
  have hh2 := Lib.hid hw6
  clear hown5 hw6
  simp at hc5
  go_wp2
  refine NP.normal ?_
  go_wp2
  have hown5 := hh1.out
  have hK : Kp (fpP bx A) w (w5.setCell ⟨bx, 0, none⟩ (.slice (some ⟨g, 0, none⟩) (hs.length + 1) c6)) := by
    refine (((Kp.ofBelow (F := fpP bx A) hb2).trans hKg (fun i hi hA => ?_)).setCell (.inr (.inl rfl)) _)
    cases A with
    | none => cases hA
    | some a => exact .inr ⟨a, rfl, by simpa [Value.ownBlock] using hA⟩
  go_end0
  refine ⟨rfl, g, c6, ⟨?_, ?_, ?_, ?_, hb.bxB⟩, hK, ?_⟩
  · simpa using hbx5.set_ 0 (.slice (some ⟨g, 0, none⟩) (hs.length + 1) c6)
  · simpa [Hd.cells] using ownsRow_setCell_other hown5 (a := ⟨bx, 0, none⟩) hne5 _
  · intro h' hh'
    have hhB : ∀ a, h'.A = some a → a.block < B := by
      rcases List.mem_append.1 hh' with hm | hm
      · exact hb.low h' hm
      · obtain rfl := List.mem_singleton.1 hm; exact hlow
    have hrd : Rd w 4 h'.A (h'.rows.map Row.cells) := by
      rcases List.mem_append.1 hh' with hm | hm
      · exact hb.rows h' hm
      · obtain rfl := List.mem_singleton.1 hm; exact hr
    refine hrd.kp hK (fun a ha hf => ?_)
    have h1 := hhB a ha
    rcases hf with hf | ⟨a', rfl, hf⟩
    · have := hb.bxB; omega
    · have := (hb.own.lt a'.block (by rfl)).1
      omega
  · intro h' hh'
    rcases List.mem_append.1 hh' with hm | hm
    · exact hb.low h' hm
    · obtain rfl := List.mem_singleton.1 hm; exact hlow
  · rcases hh2.out with h2 | ⟨g', h2, h3⟩
    · right
      cases A with
      | none => cases h2
      | some a => exact ⟨a, rfl, by simpa [Value.ownBlock] using h2.symm⟩
    · left
      have : g = g' := by simpa [Value.ownBlock] using h2
      have := hb2.size
      omega
end Go.Proofs.Ytkjcnjfjecfciaa
