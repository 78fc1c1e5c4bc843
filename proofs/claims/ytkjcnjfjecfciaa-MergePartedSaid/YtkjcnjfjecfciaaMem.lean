/- Memory words of this seat's walks: which blocks a call may have turned (Kp), a slice that reads as a list (Rd), a block known whole (Blk). No program is named here. -/
import Derived.Below
import Derived.Laws.OwnMore
import Derived.Deep.AppendLies
import Derived.Deep.Draws
import Derived.Laws.Rows
import Derived.Lib.Hide
import Derived.IntWalk
import Derived.Maps.AppendAt
import Derived.RegionTactic
import Derived.OwnWalk
namespace Go.Proofs.Ytkjcnjfjecfciaa
open Go.RowKit

/-- The walk stops here. -/
theorem holdHere {p : Prop} (h : Hid p) : p := h

/-- Only the blocks that F names, of those that were there, may have turned. -/
structure Kp (F : Nat → Prop) (w w' : World) : Prop where
  os : w'.os = w.os
  tape : w'.tape = w.tape
  output : w'.output = w.output
  size : w.heap.size ≤ w'.heap.size
  block : ∀ k, k < w.heap.size → ¬ F k → w'.heap[k]? = w.heap[k]?

def NoB : Nat → Prop := fun _ => False

section
variable {F G : Nat → Prop} {w w' a b c : World}
theorem Kp.refl (F : Nat → Prop) (w : World) : Kp F w w := ⟨rfl, rfl, rfl, Nat.le_refl _, fun _ _ _ => rfl⟩
theorem Kp.trans (h : Kp F a b) (k : Kp G b c) (hFG : ∀ i, i < a.heap.size → G i → F i) : Kp F a c :=
  ⟨k.os.trans h.os, k.tape.trans h.tape, k.output.trans h.output, Nat.le_trans h.size k.size,
    fun i hi hn => (k.block i (Nat.lt_of_lt_of_le hi h.size) (fun hg => hn (hFG i hi hg))).trans (h.block i hi hn)⟩
theorem Kp.mono (h : Kp F a b) (hFG : ∀ i, i < a.heap.size → F i → G i) : Kp G a b :=
  ⟨h.os, h.tape, h.output, h.size, fun i hi hn => h.block i hi (fun hf => hn (hFG i hi hf))⟩
theorem Kp.ofBelow (h : Below w.heap.size w w') : Kp F w w' := ⟨h.os, h.tape, h.output, h.size, fun k hk _ => h.block k hk⟩
theorem Kp.below {B : Nat} (h : Kp F w w') (hB : B ≤ w.heap.size) (hF : ∀ k, k < B → ¬ F k) : Below B w w' :=
  ⟨h.os, h.tape, h.output, h.size, fun k hk => h.block k (by omega) (hF k hk)⟩
theorem Kp.toBelow (h : Kp NoB w w') : Below w.heap.size w w' := h.below (Nat.le_refl _) (fun _ _ h => h)
theorem Kp.drew (h : Kp F a w) : Kp F a w.drew := ⟨h.os, h.tape, h.output, h.size, h.block⟩
theorem Kp.drewN (h : Kp F a w) (n : Nat) : Kp F a (w.drewN n) := ⟨h.os, h.tape, h.output, h.size, h.block⟩
theorem Kp.alloc (h : Kp F a w) (o : Obj) : Kp F a (w.alloc o) :=
  h.trans (G := NoB) (Kp.ofBelow ((Below.refl _ w).alloc (Nat.le_refl _) o)) (fun _ _ h => h.elim)
theorem Kp.setCell (h : Kp F a w) {p : Addr} (hp : a.heap.size ≤ p.block ∨ F p.block) (u : Value) : Kp F a (w.setCell p u) := by
  refine h.trans (G := fun k => k = p.block) ⟨rfl, rfl, rfl, by simp [World.setCell], fun k _ hk => Below.heap_setCell _ _ _ _ hk⟩ ?_
  rintro i hi rfl
  rcases hp with hp | hp
  · omega
  · exact hp
theorem Kp.ofGrown {row : Option Nat} (h : w.grownBy w' row) (hr : ∀ k, row = some k → F k) : Kp F w w' :=
  ⟨h.os, h.tape, h.output, h.size, fun k hk hn => h.block k hk (fun e => hn (hr k e.symm))⟩
theorem Kp.grown {row : Option Nat} (h : Kp F a w) (hg : w.grownBy w' row) (hr : ∀ k, row = some k → a.heap.size ≤ k ∨ F k) : Kp F a w' :=
  h.trans (G := fun k => row = some k) (Kp.ofGrown hg (fun _ h => h)) (fun i hi hg => by
    rcases hr i hg with h | h
    · omega
    · exact h)
theorem Kp.thenBelow (h : Kp F a b) (k : Below b.heap.size b c) : Kp F a c := h.trans (G := NoB) (Kp.ofBelow k) (fun _ _ h => h.elim)
theorem Kp.cell (h : Kp F w w') {p : Addr} (hp : p.block < w.heap.size) (hn : ¬ F p.block) : w'.cell? p = w.cell? p := World.cell?_of_block (w := w) (h.block p.block hp hn)
theorem Kp.frozen (h : Kp F w w') {p : Addr} (hp : p.block < w.heap.size) (hn : ¬ F p.block) : w'.frozen? p = w.frozen? p := World.frozen?_of_block (w := w) (h.block p.block hp hn)
theorem Kp.cells (h : Kp F w w') {p : Addr} {v : Value} (hc : w.cell? p = some v) (hn : ¬ F p.block) : w'.cell? p = some v :=
  (h.cell (World.block_lt_of_cell? w p hc) hn).trans hc
end

theorem bcell {W w1 : World} (hb : Below W.heap.size W w1) : (∀ b o, b < W.heap.size → w1.cell? ⟨b, o, none⟩ = W.cell? ⟨b, o, none⟩) ∧ (∀ b o, b < W.heap.size → w1.frozen? ⟨b, o, none⟩ = W.frozen? ⟨b, o, none⟩) :=
  ⟨fun b o h => hb.cell (p := ⟨b, o, none⟩) h, fun b o h => hb.frozen (p := ⟨b, o, none⟩) h⟩

/-- What a region's loads read, as a rule over all cells below a world's size; and it stays so behind a call that keeps what was there. -/
theorem S_step {W w2 w1 : World} (h : (∀ b o, b < W.heap.size → w2.cell? ⟨b, o, none⟩ = W.cell? ⟨b, o, none⟩) ∧ W.heap.size ≤ w2.heap.size ∧ Below W.heap.size W w2) (hB : Below w2.heap.size w2 w1) :
    (∀ b o, b < W.heap.size → w1.cell? ⟨b, o, none⟩ = W.cell? ⟨b, o, none⟩) ∧ W.heap.size ≤ w1.heap.size ∧ Below W.heap.size W w1 :=
  ⟨fun b o hb => ((bcell hB).1 b o (by omega)).trans (h.1 b o hb), Nat.le_trans h.2.1 hB.size, h.2.2.trans (hB.mono h.2.1)⟩
theorem S_start {W w2 : World} (hW : Below W.heap.size W w2) :
    (∀ b o, b < W.heap.size → w2.drew.cell? ⟨b, o, none⟩ = W.cell? ⟨b, o, none⟩) ∧ W.heap.size ≤ w2.drew.heap.size ∧ Below W.heap.size W w2.drew :=
  ⟨fun b o hb => (bcell hW).1 b o hb, hW.size, hW.drew⟩

theorem Below.ofDrewN (w : World) (n : Nat) : Below w.heap.size w (w.drewN n) := ⟨rfl, rfl, rfl, Nat.le_refl _, fun _ _ => rfl⟩

theorem _root_.Go.RowKit.Below.drewN {B : Nat} {a w : World} (h : Below B a w) (n : Nat) : Below B a (w.drewN n) := ⟨h.os, h.tape, h.output, h.size, h.block⟩

theorem S_alloc {W w2 : World} (h : (∀ b o, b < W.heap.size → w2.cell? ⟨b, o, none⟩ = W.cell? ⟨b, o, none⟩) ∧ W.heap.size ≤ w2.heap.size ∧ Below W.heap.size W w2) (o : Obj) :
    (∀ b o', b < W.heap.size → (w2.alloc o).cell? ⟨b, o', none⟩ = W.cell? ⟨b, o', none⟩) ∧ W.heap.size ≤ (w2.alloc o).heap.size ∧ Below W.heap.size W (w2.alloc o) :=
  S_step h ((Below.refl _ _).alloc (Nat.le_refl _) o)
theorem S_set {W w2 : World} (h : (∀ b o, b < W.heap.size → w2.cell? ⟨b, o, none⟩ = W.cell? ⟨b, o, none⟩) ∧ W.heap.size ≤ w2.heap.size ∧ Below W.heap.size W w2) {p : Addr} (hp : W.heap.size ≤ p.block) (v : Value) :
    (∀ b o', b < W.heap.size → (w2.setCell p v).cell? ⟨b, o', none⟩ = W.cell? ⟨b, o', none⟩) ∧ W.heap.size ≤ (w2.setCell p v).heap.size ∧ Below W.heap.size W (w2.setCell p v) :=
  have hB := h.2.2.setCell hp v
  ⟨fun b o' hb => (bcell hB).1 b o' hb, hB.size, hB⟩

/-- Block g is just these cells of element type t; nothing in it is frozen. -/
def Blk (w : World) (g : Nat) (t : TypeId) (cs : Array Value) : Prop := w.heap[g]? = some (.cells cs t (0, 0))

section
variable {F : Nat → Prop} {w w' : World} {g : Nat} {t : TypeId} {cs : Array Value}
theorem Blk.lt (h : Blk w g t cs) : g < w.heap.size := by
  rcases Nat.lt_or_ge g w.heap.size with hlt | hge
  · exact hlt
  · unfold Blk at h; rw [Array.getElem?_eq_none hge] at h; cases h
theorem Blk.cell (h : Blk w g t cs) (i : Nat) : w.cell? ⟨g, i, none⟩ = cs[i]? := cell_of_row w g i cs t (0, 0) h
theorem Blk.frozen (h : Blk w g t cs) (i : Nat) : w.frozen? ⟨g, i, none⟩ = false := by
  unfold Blk at h
  simp [World.frozen?, h]
theorem Blk.new (w : World) (t : TypeId) (cs : Array Value) : Blk (w.alloc (.cells cs t)) w.heap.size t cs := heap_alloc_new w _
theorem Blk.drew (h : Blk w g t cs) : Blk w.drew g t cs := h
theorem Blk.drewN (h : Blk w g t cs) (n : Nat) : Blk (w.drewN n) g t cs := h
theorem Blk.alloc (h : Blk w g t cs) (o : Obj) : Blk (w.alloc o) g t cs := (Below.heap_alloc w o g h.lt).trans h
theorem Blk.set_ (h : Blk w g t cs) (i : Nat) (u : Value) : Blk (w.setCell ⟨g, i, none⟩ u) g t (cs.setIfInBounds i u) := by
  unfold Blk at h ⊢
  simp [World.setCell, Array.getElem?_modify, h]
theorem Blk.far (h : Blk w g t cs) {p : Addr} (hp : g ≠ p.block) (u : Value) : Blk (w.setCell p u) g t cs := (Below.heap_setCell w p u g hp).trans h
theorem Blk.kp (h : Blk w g t cs) (hb : Kp F w w') (hg : ¬ F g) : Blk w' g t cs := (hb.block g h.lt hg).trans h
theorem Blk.below (h : Blk w g t cs) (hb : Below w.heap.size w w') : Blk w' g t cs := (hb.block g h.lt).trans h
theorem Blk.ne_ {g' : Nat} {t' : TypeId} {cs' : Array Value} (h : Blk w g t cs) (h' : Blk w g' t' cs') (hne : t ≠ t') : g ≠ g' := by
  rintro rfl
  unfold Blk at h h'
  rw [h] at h'
  injection h' with h'
  injection h' with _ ht
  exact hne ht
theorem own_blk_ne {base : Nat} {e : TypeId} {size n : Nat} {v : Value} {xs : List Value} (h : w.ownsRow base e size v n xs) (hg : Blk w g t cs) (hne : e ≠ t) : v.ownBlock ≠ some g := by
  rcases h.2 with ⟨rfl, _⟩ | ⟨g', cap, cur, rfl, _, hh, _⟩
  · simp [Value.ownBlock]
  · intro he
    have : g' = g := by simpa [Value.ownBlock] using he
    subst this
    exact Blk.ne_ (t := e) hh hg hne rfl
end

/-- A slice's elements, each as its cells: read at A, sz cells each. -/
def Rd (w : World) (sz : Nat) (A : Option Addr) (l : List (List Value)) : Prop :=
  ∀ k x, l[k]? = some x → x.length = sz ∧ ∃ a o, A = some ⟨a, o, none⟩ ∧ ∀ j u, x[j]? = some u → w.cell? ⟨a, o + k * sz + j, none⟩ = some u

section
variable {F : Nat → Prop} {w w' : World} {sz : Nat} {A : Option Addr} {l : List (List Value)}
theorem Rd.nil : Rd w sz A [] := fun k x h => by simp at h
theorem Rd.keep (h : Rd w sz A l) (hk : ∀ a, A = some a → ∀ p : Addr, p.block = a.block → ∀ v, w.cell? p = some v → w'.cell? p = some v) : Rd w' sz A l := by
  intro k x hx
  obtain ⟨hl, a, o, rfl, hc⟩ := h k x hx
  exact ⟨hl, a, o, rfl, fun j u hu => hk _ rfl ⟨a, o + k * sz + j, none⟩ rfl _ (hc j u hu)⟩
theorem Rd.kp (h : Rd w sz A l) (hb : Kp F w w') (hA : ∀ a, A = some a → ¬ F a.block) : Rd w' sz A l :=
  h.keep fun a ha p hp v hv => hb.cells hv (by rw [hp]; exact hA a ha)
theorem Rd.below (h : Rd w sz A l) (hb : Below w.heap.size w w') : Rd w' sz A l := h.kp (F := NoB) (Kp.ofBelow hb) (fun _ _ h => h)
theorem Rd.drop (h : Rd w sz A l) (k : Nat) : Rd w sz (A.map (·.add (k * sz))) (l.drop k) := by
  intro j x hx
  rw [List.getElem?_drop] at hx
  obtain ⟨hl, a, o, rfl, hc⟩ := h (k + j) x hx
  refine ⟨hl, a, o + k * sz, ?_, fun i u hu => ?_⟩
  · simp only [Option.map_some, Addr.add]
    split <;> simp_all
  · rw [show o + k * sz + j * sz + i = o + (k + j) * sz + i from by rw [Nat.add_mul]; omega]
    exact hc i u hu
theorem Rd.take (h : Rd w sz A l) (k : Nat) : Rd w sz A (l.take k) := by
  intro j x hx
  rw [List.getElem?_take] at hx
  split at hx
  · exact h j x hx
  · cases hx
theorem Rd.at_ (h : Rd w sz A l) {k : Nat} (hk : k < l.length) : ∃ a o, A = some ⟨a, o, none⟩ ∧ a < w.heap.size ∨ sz = 0 := by
  obtain ⟨hl, a, o, rfl, hc⟩ := h k _ (List.getElem?_eq_getElem hk)
  refine ⟨a, o, ?_⟩
  rcases Nat.eq_zero_or_pos sz with h0 | h0
  · exact .inr h0
  · refine .inl ⟨rfl, ?_⟩
    exact World.block_lt_of_cell? w _ (hc 0 _ (List.getElem?_eq_getElem (by omega)))
/-- A row of the call's own reads as its elements. -/
theorem Rd.ofOwn {base n c : Nat} {e : TypeId} (hs : 0 < sz) (hl : ∀ x, x ∈ l → x.length = sz) (h : w.ownsRow base e sz (.slice A n c) n l.flatten) : Rd w sz A l := by
  intro k x hx
  have hxm : x ∈ l := List.mem_of_getElem? hx
  have hlen : ∀ (m : List (List Value)), (∀ y, y ∈ m → y.length = sz) → m.flatten.length = m.length * sz := by
    intro m
    induction m with
    | nil => simp
    | cons y m ih =>
      intro hm
      rw [List.flatten_cons, List.length_append, hm y (by simp), ih (fun z hz => hm z (by simp [hz]))]
      simp [Nat.add_mul]; omega
  have hk : k < l.length := (List.getElem?_eq_some_iff.1 hx).1
  have hn : l.length = n := by
    have := h.1
    rw [hlen l hl] at this
    exact Nat.eq_of_mul_eq_mul_right hs this
  obtain ⟨g, cap, hv, _, _⟩ := h.form (by omega)
  injection hv with hA
  subst hA
  refine ⟨hl x hxm, g, 0, rfl, fun j u hu => ?_⟩
  have hj : j < sz := by rw [← hl x hxm]; exact (List.getElem?_eq_some_iff.1 hu).1
  have hf : l.flatten[k * sz + j]? = some u := by
    have hsplit : l.flatten = (l.take k).flatten ++ (x ++ (l.drop (k + 1)).flatten) := by
      have : l = l.take k ++ x :: l.drop (k + 1) := by
        have hx' : l[k] = x := (List.getElem?_eq_some_iff.1 hx).2
        rw [← hx', List.getElem_cons_drop hk, List.take_append_drop]
      conv => lhs; rw [this]
      simp
    have ht : ((l.take k).flatten).length = k * sz := by
      rw [hlen _ (fun y hy => hl y (List.mem_of_mem_take hy)), List.length_take, Nat.min_eq_left (by omega)]
    rw [hsplit, List.getElem?_append_right (by omega), ht, show k * sz + j - k * sz = j from by omega, List.getElem?_append_left (by rw [hl x hxm]; exact hj)]
    exact hu
  have := h.cells (g := g) rfl _ _ hf
  simpa [Addr.add_lit] using this
end

section
variable {w : World} {base n : Nat} {e : TypeId} {v : Value} {xs : List Value} {size : Nat}
theorem own_shape (h : w.ownsRow base e size v n xs) : ∃ A c, v = .slice A n c := by
  rcases h.2 with ⟨rfl, rfl⟩ | ⟨g, cap, cur, rfl, _⟩
  · exact ⟨_, _, rfl⟩
  · exact ⟨_, _, rfl⟩
/-- cell j of a row of the call's own -/
theorem own_at {A : Option Addr} {c : Nat} (h : w.ownsRow base e size (.slice A n c) n xs) (hn : 0 < n) : ∃ g, A = some ⟨g, 0, none⟩ ∧ base ≤ g ∧ g < w.heap.size ∧ ∀ j u, xs[j]? = some u → w.cell? ⟨g, j, none⟩ = some u := by
  obtain ⟨g, cap, hv, hb, hlt⟩ := h.form hn
  injection hv with hA
  subst hA
  exact ⟨g, rfl, hb, hlt, fun j u hu => by have := h.cells (g := g) rfl j u hu; simpa [Addr.add_lit] using this⟩
theorem own_below {w' : World} (h : w.ownsRow base e size v n xs) (hB : Below w.heap.size w w') : w'.ownsRow base e size v n xs :=
  h.kept (row := none) ⟨hB.os, hB.tape, hB.output, hB.size, fun k hk _ => hB.block k hk⟩ (by cases v.ownBlock <;> simp)
theorem own_lower {b' : Nat} (h : w.ownsRow base e size v n xs) (hb : b' ≤ base) : w.ownsRow b' e size v n xs := by
  refine ⟨h.1, ?_⟩
  rcases h.2 with h | ⟨g, cap, cur, rfl, hg, r⟩
  · exact .inl h
  · exact .inr ⟨g, cap, cur, rfl, by omega, r⟩
end

/-- What the table says of a slice type t with elements e. -/
structure El (P : Program) (t e : TypeId) (z : Value) (size bytes : Nat) : Prop where
  ht : P.underlying t = some (.slice e)
  info : (P.info? e).map (fun i => (i.zero, i.size, i.bytes)) = some (some z, size, bytes)
  hzs : z.cells.size = size
  hsz : 0 < size

/-- append of one element that the statement itself has made: W is the world ahead of the element's block. -/
theorem wpList_app1 {P : Program} {ops : Array Oper} {rest : List Oper} {o : Oper} {a : Act} {Q : Exit → Act → World → Prop} {t e : TypeId} {z : Value} {size bytes : Nat} (L : El P t e z size bytes) (hgd : o.guard = none) (s x : Operand)
    (ho : o.op = .call { callee := .builtin .append, args := #[s, x], argTypes := #[t, t] })
    {W : World} {base : Nat} {v : Value} {n : Nat} {xs : List Value} (hs : a.eval s = v) (hown : W.ownsRow base e size v n xs)
    {cs : Array Value} {b : Nat} (hx : a.eval x = .slice (some ⟨b, 0, none⟩) 1 1) (hbW : b = W.heap.size) (hcs : cs.size = size) (h1 : ∀ u ∈ cs.toList, u.oneCell' = true)
    (h63 : n + 1 ≤ maxLen) (hbytes : (n + 1) * bytes ≤ 140737488355328) (hbase : base ≤ W.heap.size)
    (h : ∀ v' w', w'.ownsRow base e size v' (n + 1) (xs ++ cs.toList) → W.grownBy w' v.ownBlock → (v'.ownBlock = v.ownBlock ∨ ∃ g, v'.ownBlock = some g ∧ W.heap.size ≤ g) → Below base W w' → wpList P ops Q rest (a.put o.dst v') w') :
    wpList P ops Q (o :: rest) a (W.alloc (.cells cs e)) := by
  subst hbW
  obtain ⟨i, hi, hz, hz1, hz2⟩ := info_parts L.info
  have hnews : ∀ j u, cs.toList[j]? = some u → (W.alloc (.cells cs e)).cell? ((⟨W.heap.size, 0, none⟩ : Addr).add j) = some u := World.news_of_block (heap_alloc_new W _)
  refine wpList_append_own_at (W.alloc (.cells cs e)) hgd s x t ho base e i z size bytes L.ht hi hz hz1 hz2 L.hzs L.hsz v n xs hs (hown.alloc _) ⟨W.heap.size, 0, none⟩ 1 1 cs.toList hx (by simp [hcs]) hnews h1 h63 hbytes (by simp; omega) ?_
  intro v' w' ho' hg' _ hat
  have hg : W.grownBy w' v.ownBlock := (World.grownBy_alloc W _ _).trans hg'
  refine h v' w' ho' hg ?_ ?_
  · rcases hat with h | h
    · exact .inl h
    · exact .inr ⟨_, h, by simp⟩
  · refine (Below.refl base W).grown hg hbase (fun k hk => ?_)
    exact (hown.lt k hk).1

/-- The same at a step of a region that draws its order. -/
theorem step_app1 {P : Program} {ops : Array Oper} {o : Oper} {a : Act} {K : Act → World → Prop} {Q : Exit → Act → World → Prop} {E : Prop} {t e : TypeId} {z : Value} {size bytes : Nat} (L : El P t e z size bytes) (hgd : o.guard = none) (s x : Operand)
    (ho : o.op = .call { callee := .builtin .append, args := #[s, x], argTypes := #[t, t] })
    {w : World} {base : Nat} {v : Value} {n : Nat} {xs : List Value} (hs : a.eval s = v) (hown : w.ownsRow base e size v n xs)
    {b : Nat} {cs : Array Value} (hx : a.eval x = .slice (some ⟨b, 0, none⟩) 1 1) (hb : w.heap[b]? = some (.cells cs e (0, 0))) (hcs : cs.size = size) (h1 : ∀ u ∈ cs.toList, u.oneCell' = true)
    (h63 : n + 1 ≤ maxLen) (hbytes : (n + 1) * bytes ≤ 140737488355328) (hbase : base ≤ w.heap.size)
    (h : ∀ v' w', w'.ownsRow base e size v' (n + 1) (xs ++ cs.toList) → w.grownBy w' v.ownBlock → (v'.ownBlock = v.ownBlock ∨ v'.ownBlock = some w.heap.size) → Below base w w' → K (a.put o.dst v') w') :
    if Region.wanted o (yielded ops a.tmps) = true then Oper.wp P o a w K Q else E := by
  obtain ⟨i, hi, hz, hz1, hz2⟩ := info_parts L.info
  have hw : Region.wanted o (yielded ops a.tmps) = true := by simp [Region.wanted, hgd]
  rw [if_pos hw]
  have hnews : ∀ j u, cs.toList[j]? = some u → w.cell? ((⟨b, 0, none⟩ : Addr).add j) = some u := World.news_of_block hb
  obtain ⟨v', w', hr, h2, h3, h4, h5⟩ := run_append_own_at (P := P) w base t o.type e i z size bytes L.ht hi hz hz1 hz2 L.hzs L.hsz v n xs hown ⟨b, 0, none⟩ 1 1 cs.toList (by simp [hcs]) hnews h1 h63 hbytes hbase
  unfold Oper.wp execOp
  simp only [ho, resolve, invoke, builtin, Sem.run_bind, Sem.run_pure, Result.andThen_ok, List.map_toArray, List.map_cons, List.map_nil, hs, hx, hr]
  exact h v' w' h2 h3 h5 ((Below.refl base w).grown h3 hbase (fun k hk => (hown.lt k hk).1))

end Go.Proofs.Ytkjcnjfjecfciaa
