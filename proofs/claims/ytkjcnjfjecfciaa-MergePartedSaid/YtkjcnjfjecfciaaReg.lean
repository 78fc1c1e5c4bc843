/- A region that draws its order, walked in ONE order: every order that its edges allow comes to the same. No program is named here. -/
import Derived.Orders
import Derived.Still
import Derived.StillTactics
import Derived.StillTailTactics
import Derived.RegionTactic
import Derived.WalkKit
namespace Go.Proofs.Ytkjcnjfjecfciaa

/-- An operation whose answer hangs on its operands alone. -/
def pureOp (o : Oper) : Bool :=
  match o.op with
  | .move _ | .assign _ | .pick .. | .extract .. | .makeFunc .. => true
  | _ => false

theorem pureOp_run {P : Program} {o : Oper} (h : pureOp o = true) (ρ : Operand → Value) (w : World) {x : Next} {w' : World} (hr : (execOp ρ o).run P w = .ok x w') :
    ∃ v, x = .value v ∧ w' = w ∧ ∀ w2, (execOp ρ o).run P w2 = .ok (.value v) w2 := by
  obtain ⟨dst, op, type, pos, after, guard⟩ := o
  cases op <;> simp only [pureOp, Bool.false_eq_true] at h
  case move x => simp only [execOp, Sem.run_pure, Result.ok.injEq] at hr; exact ⟨_, hr.1.symm, hr.2.symm, fun w2 => by simp [execOp]⟩
  case assign x => simp only [execOp, Sem.run_pure, Result.ok.injEq] at hr; exact ⟨_, hr.1.symm, hr.2.symm, fun w2 => by simp [execOp]⟩
  case pick c a b =>
    cases hc : ρ c <;> simp [execOp, asBool, hc, stuck] at hr
    exact ⟨_, hr.1.symm, hr.2.symm, fun w2 => by simp [execOp, asBool, hc]⟩
  case makeFunc fn f c =>
    simp [execOp, Instr.makeFunc] at hr
    exact ⟨_, hr.1.symm, hr.2.symm, fun w2 => by simp [execOp, Instr.makeFunc]⟩
  case extract t i =>
    cases ht : ρ t with
    | tuple vs =>
      cases hv : vs[i]? with
      | some v =>
        simp [execOp, Instr.extract, ht, hv] at hr
        exact ⟨_, hr.1.symm, hr.2.symm, fun w2 => by simp [execOp, Instr.extract, ht, hv]⟩
      | none => simp [execOp, Instr.extract, ht, hv, stuck] at hr
    | _ => simp [execOp, Instr.extract, ht, stuck] at hr

theorem pureOp_asks {P : Program} {o : Oper} (h : pureOp o = true) (a : Act) (w : World) : ¬ o.asks P a w := by
  rintro ⟨h1, h2⟩
  clear h2
  obtain ⟨dst, op, type, pos, after, guard⟩ := o
  have hn : ∀ o : Oper, ((execOp a.eval o).runT P w #[]).2 = #[] → noRoomEvent ∈ ((execOp a.eval o).runT P w #[]).2 → False := fun o e h => by
    rw [e] at h; exact absurd h (Array.not_mem_empty _)
  refine hn _ ?_ h1
  clear h1 hn
  cases op <;> simp only [pureOp, Bool.false_eq_true] at h
  case move => rfl
  case assign => rfl
  case makeFunc => rfl
  case pick c x y =>
    simp only [execOp]
    cases a.eval c <;> rfl
  case extract t i =>
    simp only [execOp, Instr.extract]
    cases a.eval t with
    | tuple vs =>
      simp only
      cases vs[i]? <;> rfl
    | _ => rfl

inductive Cls where
  | p | s | r | f | e
  deriving DecidableEq

section
variable {P : Program} {ops : Array Oper} {Q : Exit → Act → World → Prop} {cls : Nat → Cls} {S : World → Prop}

/-- One answer in every world that S lets in. -/
def Ys (P : Program) (ops : Array Oper) (S : World → Prop) (o : Oper) (v : Value) (a : Act) : Prop :=
  (Region.wanted o (yielded ops a.tmps) = true ∧ ∀ w, S w → (execOp a.eval o).run P w = .ok (.value v) w) ∨ (Region.wanted o (yielded ops a.tmps) = false ∧ v = undef)

theorem Ys.of_same {o : Oper} {v : Value} {a a' : Act} (hy : Ys P ops S o v a) (he : execOp a'.eval o = execOp a.eval o)
    (hw : Region.wanted o (yielded ops a'.tmps) = Region.wanted o (yielded ops a.tmps)) : Ys P ops S o v a' := by
  unfold Ys at *
  rw [he, hw]
  exact hy
theorem Ys.wpOp {i : Nat} {o : Oper} {v : Value} {a : Act} (hi : ops[i]? = some o) (hy : Ys P ops S o v a) {K : Act → World → Prop} {w : World} (hS : S w) (h : K (a.put o.dst v) w) : wpOp P ops Q i K a w := by
  unfold Go.wpOp
  rw [hi]
  rcases hy with ⟨hw, hv⟩ | ⟨hw, rfl⟩
  · simp only [hw, if_true, Oper.wp, hv w hS, Oper.upon]; exact .inl h
  · simp only [hw, Bool.false_eq_true, if_false]; exact h

/-- An operation's wp behind another's answer, laid ahead of it: what holds of a frame whatever the operation writes goes with it. -/
theorem wpOp_ahead {j : Nat} {x oj : Oper} {v : Value} (Y : Act → Prop) (hj : ops[j]? = some oj) (hap : x.apart ops oj = true)
    (hsj : ∀ cs b, oj.op ≠ .select cs b) (hYp : ∀ a u, Y a → Y (a.put oj.dst u)) (hYd : ∀ (a : Act) d, Y a → Y { a with defers := d :: a.defers })
    (hQ : ∀ c a w, Q (.panic c) (a.put x.dst v) w → Q (.panic c) a w) {K : Act → World → Prop} {a : Act} {w : World}
    (hy : Y a) (h : wpOp P ops Q j K (a.put x.dst v) w) : wpOp P ops Q j (fun a' w' => Y a' ∧ K (a'.put x.dst v) w') a w := by
  obtain ⟨h1, h2, _⟩ := Oper.apart_spec hap
  have he := execOp_put (ops := ops) oj hsj a x.dst v h1
  have hwn := wanted_put oj a x.dst v h1
  have put2 : ∀ (a : Act) u, (a.put x.dst v).put oj.dst u = (a.put oj.dst u).put x.dst v := fun a u => Act.put_comm a v u h2
  unfold wpOp at h ⊢
  rw [hj] at h ⊢
  simp only [hwn] at h
  by_cases hw : Region.wanted oj (yielded ops a.tmps) = true
  · simp only [hw, if_true] at h ⊢
    rcases h with h | ⟨hk, hl⟩
    · left
      unfold Oper.wp at h ⊢
      rw [he] at h
      cases hr : (execOp a.eval oj).run P w with
      | halt x' w' =>
        rw [hr] at h
        cases x' with
        | panic u => exact hQ _ _ _ h
        | _ => exact h
      | ok n w' =>
        rw [hr] at h
        cases n with
        | value u => exact ⟨hYp a u hy, put2 a u ▸ h⟩
        | skip => exact ⟨hYp a _ hy, put2 a _ ▸ h⟩
        | defer d =>
          refine ⟨hYp _ _ (hYd a d hy), ?_⟩
          rw [← put2, ← Act.put_defers]
          exact h
        | enter f args =>
          refine Calls.mono h fun e w'' hr => ?_
          cases e with
          | returned u => exact ⟨hYp a u hy, put2 a u ▸ hr⟩
          | panicked c => exact hQ _ _ _ hr
          | outgrown => exact hr
        | row r args => exact Rows.mono h fun u w'' hr => ⟨hYp a u hy, put2 a u ▸ hr⟩
        | _ => exact h
    · right
      refine ⟨?_, hl⟩
      unfold Oper.asks at hk ⊢
      rwa [he] at hk
  · simp only [hw] at h ⊢
    exact ⟨hYp a _ hy, put2 a _ ▸ h⟩

/-- The walk in one order: of a pure operation its answer in any world, of one of class s its answer in every world that S lets in, of a still one its answer in this world, of any other its wp; an operation of class f keeps S. -/
def Wk (P : Program) (ops : Array Oper) (Q : Exit → Act → World → Prop) (S : World → Prop) (cls : Nat → Cls) : List Nat → Act → World → Prop
  | [], a, w => Q .normal a w
  | i :: c, a, w => match cls i with
    | .p => ∃ v, Yields P ops (ops.getD i default) v a ∧ Wk P ops Q S cls c (a.put (ops.getD i default).dst v) w
    | .s => ∃ v, Ys P ops S (ops.getD i default) v a ∧ Wk P ops Q S cls c (a.put (ops.getD i default).dst v) w
    | .r => ∃ v, YieldsAt P ops w (ops.getD i default) v a ∧ Wk P ops Q S cls c (a.put (ops.getD i default).dst v) w
    | .f => wpOp P ops Q i (fun a' w' => S w' ∧ Wk P ops Q S cls c a' w') a w
    | .e => wpOp P ops Q i (Wk P ops Q S cls c) a w

theorem Wk_tail {i : Nat} {c c' : List Nat} (h : ∀ a w, Wk P ops Q S cls c a w → Wk P ops Q S cls c' a w) {a : Act} {w : World} (hW : Wk P ops Q S cls (i :: c) a w) : Wk P ops Q S cls (i :: c') a w := by
  unfold Wk at hW ⊢
  cases hc : cls i <;> simp only [hc] at hW ⊢
  · obtain ⟨v, h1, h2⟩ := hW; exact ⟨v, h1, h _ _ h2⟩
  · obtain ⟨v, h1, h2⟩ := hW; exact ⟨v, h1, h _ _ h2⟩
  · obtain ⟨v, h1, h2⟩ := hW; exact ⟨v, h1, h _ _ h2⟩
  · exact wpOp_mono (fun a' w' hh => ⟨hh.1, h _ _ hh.2⟩) hW
  · exact wpOp_mono h hW

def swapOk (ops : Array Oper) (cls : Nat → Cls) (x i : Nat) : Bool :=
  (ops.getD x default).apart ops (ops.getD i default) && (match cls x, cls i with
    | .p, _ => true
    | .s, .p => true
    | .s, .s => true
    | .s, .r => true
    | .s, .f => true
    | .r, .p => true
    | .r, .s => true
    | .r, .r => true
    | _, _ => false)

theorem getD_some {i : Nat} (h : i < ops.size) : ops[i]? = some (ops.getD i default) := by
  simp [Array.getD, h]

theorem Wk_swap (hsel : Region.noSelect ops = true) (hQ : ∀ c (a : Act) d v w, Q (.panic c) (a.put d v) w → Q (.panic c) a w) {x i : Nat} (hx : x < ops.size) (hi : i < ops.size)
    (hs : swapOk ops cls x i = true) {c : List Nat} {a : Act} {w : World} (h : Wk P ops Q S cls (x :: i :: c) a w) : Wk P ops Q S cls (i :: x :: c) a w := by
  simp only [swapOk, Bool.and_eq_true] at hs
  obtain ⟨hap, hs⟩ := hs
  obtain ⟨h1, h2, h3⟩ := Oper.apart_spec hap
  have sx := fun cs b => Region.noSelect_spec hsel x _ cs b (getD_some hx)
  have si := fun cs b => Region.noSelect_spec hsel i _ cs b (getD_some hi)
  have ei : ∀ a v, execOp (Act.put a (ops.getD x default).dst v).eval (ops.getD i default) = execOp a.eval (ops.getD i default) := fun a v => execOp_put (ops := ops) _ si a _ v h1
  have ex : ∀ a v, execOp (Act.put a (ops.getD i default).dst v).eval (ops.getD x default) = execOp a.eval (ops.getD x default) := fun a v => execOp_put (ops := ops) _ sx a _ v h3
  have wi : ∀ a v, Region.wanted (ops.getD i default) (yielded ops (Act.put a (ops.getD x default).dst v).tmps) = Region.wanted (ops.getD i default) (yielded ops a.tmps) := fun a v => wanted_put _ a _ v h1
  have wx : ∀ a v, Region.wanted (ops.getD x default) (yielded ops (Act.put a (ops.getD i default).dst v).tmps) = Region.wanted (ops.getD x default) (yielded ops a.tmps) := fun a v => wanted_put _ a _ v h3
  have both : ∀ (A B : Act → Value → Prop), (∀ a v u, A a v → A (a.put (ops.getD i default).dst u) v) → (∀ a v u, B (a.put (ops.getD x default).dst v) u → B a u) →
      (∃ v, A a v ∧ ∃ u, B (a.put (ops.getD x default).dst v) u ∧ Wk P ops Q S cls c ((a.put (ops.getD x default).dst v).put (ops.getD i default).dst u) w) →
      ∃ u, B a u ∧ ∃ v, A (a.put (ops.getD i default).dst u) v ∧ Wk P ops Q S cls c ((a.put (ops.getD i default).dst u).put (ops.getD x default).dst v) w := by
    rintro A B hA hB ⟨v, hv, u, hu, hW⟩
    exact ⟨u, hB a v u hu, v, hA a v u hv, by rw [← Act.put_comm a v u h2]; exact hW⟩
  have xp : ∀ a v u, Yields P ops (ops.getD x default) v a → Yields P ops (ops.getD x default) v (a.put (ops.getD i default).dst u) := fun a v u h => h.of_same (ex a u) (wx a u)
  have xs : ∀ a v u, Ys P ops S (ops.getD x default) v a → Ys P ops S (ops.getD x default) v (a.put (ops.getD i default).dst u) := fun a v u h => h.of_same (ex a u) (wx a u)
  have xr : ∀ a v u, YieldsAt P ops w (ops.getD x default) v a → YieldsAt P ops w (ops.getD x default) v (a.put (ops.getD i default).dst u) := fun a v u h => h.of_same (ex a u) (wx a u)
  have ip : ∀ a v u, Yields P ops (ops.getD i default) u (a.put (ops.getD x default).dst v) → Yields P ops (ops.getD i default) u a := fun a v u h => h.of_same (ei a v).symm (wi a v).symm
  have is : ∀ a v u, Ys P ops S (ops.getD i default) u (a.put (ops.getD x default).dst v) → Ys P ops S (ops.getD i default) u a := fun a v u h => h.of_same (ei a v).symm (wi a v).symm
  have ir : ∀ a v u, YieldsAt P ops w (ops.getD i default) u (a.put (ops.getD x default).dst v) → YieldsAt P ops w (ops.getD i default) u a := fun a v u h => h.of_same (ei a v).symm (wi a v).symm
  cases hcx : cls x <;> cases hci : cls i <;> simp only [hcx, hci, Bool.false_eq_true] at hs <;> simp only [Wk, hcx, hci] at h ⊢
  · exact both (fun a v => Yields P ops (ops.getD x default) v a) (fun a u => Yields P ops (ops.getD i default) u a) xp ip h
  · exact both (fun a v => Yields P ops (ops.getD x default) v a) (fun a u => Ys P ops S (ops.getD i default) u a) xp is h
  · exact both (fun a v => Yields P ops (ops.getD x default) v a) (fun a u => YieldsAt P ops w (ops.getD i default) u a) xp ir h
  · obtain ⟨v, hv, hW⟩ := h
    exact wpOp_mono (fun a' w' h => ⟨h.2.1, v, h.1, h.2.2⟩) (wpOp_ahead (fun a => Yields P ops (ops.getD x default) v a) (getD_some hi) hap si (fun a u h => xp a v u h) (fun a d h => h.of_same rfl rfl) (fun c a w => hQ c a _ _ w) hv hW)
  · obtain ⟨v, hv, hW⟩ := h
    exact wpOp_mono (fun a' w' h => ⟨v, h.1, h.2⟩) (wpOp_ahead (fun a => Yields P ops (ops.getD x default) v a) (getD_some hi) hap si (fun a u h => xp a v u h) (fun a d h => h.of_same rfl rfl) (fun c a w => hQ c a _ _ w) hv hW)
  · exact both (fun a v => Ys P ops S (ops.getD x default) v a) (fun a u => Yields P ops (ops.getD i default) u a) xs ip h
  · exact both (fun a v => Ys P ops S (ops.getD x default) v a) (fun a u => Ys P ops S (ops.getD i default) u a) xs is h
  · exact both (fun a v => Ys P ops S (ops.getD x default) v a) (fun a u => YieldsAt P ops w (ops.getD i default) u a) xs ir h
  · obtain ⟨v, hv, hW⟩ := h
    exact wpOp_mono (fun a' w' h => ⟨h.2.1, v, h.1, h.2.2⟩) (wpOp_ahead (fun a => Ys P ops S (ops.getD x default) v a) (getD_some hi) hap si (fun a u h => xs a v u h) (fun a d h => h.of_same rfl rfl) (fun c a w => hQ c a _ _ w) hv hW)
  · exact both (fun a v => YieldsAt P ops w (ops.getD x default) v a) (fun a u => Yields P ops (ops.getD i default) u a) xr ip h
  · exact both (fun a v => YieldsAt P ops w (ops.getD x default) v a) (fun a u => Ys P ops S (ops.getD i default) u a) xr is h
  · exact both (fun a v => YieldsAt P ops w (ops.getD x default) v a) (fun a u => YieldsAt P ops w (ops.getD i default) u a) xr ir h

theorem Wk_front (hsel : Region.noSelect ops = true) (hQ : ∀ c (a : Act) d v w, Q (.panic c) (a.put d v) w → Q (.panic c) a w) {i : Nat} (hi : i < ops.size) (c2 : List Nat) :
    ∀ (c1 : List Nat), (∀ x ∈ c1, x < ops.size ∧ swapOk ops cls x i = true) → ∀ a w, Wk P ops Q S cls (c1 ++ i :: c2) a w → Wk P ops Q S cls (i :: (c1 ++ c2)) a w
  | [], _, _, _, h => h
  | x :: c1, hx, a, w, h => by
    have h' : Wk P ops Q S cls (x :: i :: (c1 ++ c2)) a w := Wk_tail (Wk_front hsel hQ hi c2 c1 (fun y hy => hx y (by simp [hy]))) h
    have := hx x (by simp)
    exact Wk_swap hsel hQ this.1 hi this.2 h'

/-- Which operations an operation waits for, near and far, as bits. -/
def maskOf (acc : Array Nat) (es : List Edge) : Nat := es.foldl (fun s e => if Region.binds .any e then s ||| 2 ^ e.on ||| acc.getD e.on 0 else s) 0
def ancs : List Oper → Array Nat → Array Nat
  | [], acc => acc
  | o :: l, acc => ancs l (acc.push (maskOf acc o.after.toList))

theorem maskOf_spec (acc : Array Nat) : ∀ (es : List Edge) (s x : Nat), (es.foldl (fun s e => if Region.binds .any e then s ||| 2 ^ e.on ||| acc.getD e.on 0 else s) s).testBit x = true →
    s.testBit x = true ∨ ∃ e ∈ es, Region.binds .any e = true ∧ (x = e.on ∨ (acc.getD e.on 0).testBit x = true)
  | [], s, x, h => .inl h
  | e :: es, s, x, h => by
    rw [List.foldl_cons] at h
    rcases maskOf_spec acc es _ x h with h | ⟨e', he', hb, hx⟩
    · split at h
      · rename_i hb
        rw [Nat.testBit_or, Nat.testBit_or, Bool.or_eq_true, Bool.or_eq_true] at h
        rcases h with (h | h) | h
        · exact .inl h
        · rw [Nat.testBit_two_pow] at h
          exact .inr ⟨e, by simp, hb, .inl (by simpa using h : e.on = x).symm⟩
        · exact .inr ⟨e, by simp, hb, .inr h⟩
      · exact .inl h
    · exact .inr ⟨e', by simp [he'], hb, hx⟩

def DC (ops : Array Oper) (listed : Array Bool) : Prop :=
  ∀ j oj, ops[j]? = some oj → listed.getD j false = true → ∀ e ∈ oj.after, Region.binds .any e = true → listed.getD e.on false = true

theorem ancs_spec {listed : Array Bool} (hd : DC ops listed) : ∀ (l : List Oper) (acc : Array Nat),
    (∀ j, l[j]? = ops[acc.size + j]?) →
    (∀ i oi x, i < acc.size → ops[i]? = some oi → (acc.getD i 0).testBit x = true → (∀ e ∈ oi.after, Region.binds .any e = true → listed.getD e.on false = true) → listed.getD x false = true) →
    ∀ i oi x, i < acc.size + l.length → ops[i]? = some oi → ((ancs l acc).getD i 0).testBit x = true → (∀ e ∈ oi.after, Region.binds .any e = true → listed.getD e.on false = true) → listed.getD x false = true
  | [], acc, _, hacc, i, oi, x, hi, ho, hb, he => hacc i oi x (by simpa using hi) ho hb he
  | o :: l, acc, hl, hacc, i, oi, x, hi, ho, hb, he => by
    refine ancs_spec hd l (acc.push (maskOf acc o.after.toList)) (fun j => by have := hl (j + 1); simp at this ⊢; rw [this]; congr 1; omega) ?_ i oi x (by simp at hi ⊢; omega) ho hb he
    intro i oi x hi ho hb he
    rw [Array.size_push] at hi
    by_cases hlt : i < acc.size
    · refine hacc i oi x hlt ho ?_ he
      rw [← hb]; congr 1; simp [Array.getD, hlt, Nat.lt_succ_of_lt hlt, Array.getElem_push]
    · obtain rfl : i = acc.size := by omega
      have h0 := hl 0
      simp at h0
      rw [ho] at h0
      injection h0 with h0
      subst h0
      have hb' : (maskOf acc o.after.toList).testBit x = true := by rw [← hb]; congr 1; simp [Array.getD]
      rcases maskOf_spec acc _ _ _ hb' with h | ⟨e, hem, hbe, hx⟩
      · simp at h
      · have hle := he e (by simpa using hem) hbe
        rcases hx with rfl | hx
        · exact hle
        · by_cases hes : e.on < acc.size
          · obtain ⟨oe, hoe⟩ : ∃ oe, ops[e.on]? = some oe := ⟨_, Array.getElem?_eq_getElem (by have := (Array.getElem?_eq_some_iff.1 ho).1; omega)⟩
            exact hacc e.on oe x hes hoe hx (hd e.on oe hoe hle)
          · simp [Array.getD, hes] at hx

def waitsOn (ops : Array Oper) (i x : Nat) : Bool := (ops.getD i default).after.any fun e => Region.binds .any e && e.on == x

/-- May the operations be walked in this order, for all? -/
def pairOk (ops : Array Oper) (cls : Nat → Cls) (an : Array Nat) (x i : Nat) : Bool :=
  (swapOk ops cls x i || (an.getD i 0).testBit x) && !waitsOn ops x i && !(decide (cls x = .e) && decide (cls i = .s))

def allPairs (f : Nat → Nat → Bool) : List Nat → Bool
  | [] => true
  | x :: c => c.all (f x) && allPairs f c

theorem allPairs_spec {f : Nat → Nat → Bool} : ∀ {c : List Nat}, allPairs f c = true → c.Pairwise (fun x i => f x i = true)
  | [], _ => .nil
  | x :: c, h => by
    simp only [allPairs, Bool.and_eq_true, List.all_eq_true] at h
    exact .cons (fun y hy => h.1 y hy) (allPairs_spec h.2)

structure Inv (ops : Array Oper) (cls : Nat → Cls) (an : Array Nat) (c : List Nat) (listed : Array Bool) : Prop where
  size : listed.size = ops.size
  mem : ∀ j, j ∈ c ↔ j < ops.size ∧ listed.getD j true = false
  nodup : c.Nodup
  pairs : c.Pairwise (fun x i => pairOk ops cls an x i = true)
  self : ∀ i ∈ c, waitsOn ops i i = false
  bound : ∀ i ∈ c, ∀ e ∈ (ops.getD i default).after, Region.binds .any e = true → e.on < ops.size
  dc : DC ops listed

theorem listed_of {listed : Array Bool} {j : Nat} (h : j < listed.size) (hn : ¬ listed.getD j true = false) : listed.getD j false = true := by
  simp [Array.getD, h] at hn ⊢; exact hn
theorem unlisted_of {listed : Array Bool} {j : Nat} (h : listed.getD j true = false) : ¬ listed.getD j false = true := by
  intro h'
  by_cases hj : j < listed.size
  · simp [Array.getD, hj] at h h'; rw [h] at h'; cases h'
  · simp [Array.getD, hj] at h

theorem Wk_any (hsel : Region.noSelect ops = true) (hQ : ∀ c (a : Act) d v w, Q (.panic c) (a.put d v) w → Q (.panic c) a w) {an : Array Nat}
    (han : ∀ listed : Array Bool, DC ops listed → ∀ i oi x, ops[i]? = some oi → (an.getD i 0).testBit x = true → (∀ e ∈ oi.after, Region.binds .any e = true → listed.getD e.on false = true) → listed.getD x false = true) :
    ∀ (n : Nat) (c : List Nat), c.length = n → ∀ (listed : Array Bool) (a : Act) (w : World), Inv ops cls an c listed → ((∃ x ∈ c, cls x = .s) → S w) → Wk P ops Q S cls c a w → wpAny P .any ops Q n listed a w := by
  intro n
  induction n with
  | zero =>
    intro c hc listed a w inv _ h
    obtain rfl := List.eq_nil_of_length_eq_zero hc
    refine ⟨?_, h⟩
    rw [List.eq_nil_iff_forall_not_mem]
    intro j hj
    obtain ⟨h0, o, ho, _⟩ := mem_ready.1 hj
    have := (inv.mem j).2 ⟨(Array.getElem?_eq_some_iff.1 ho).1, h0⟩
    simp at this
  | succ n ih =>
    intro c hc listed a w inv hS h
    refine ⟨fun hr => ?_, fun i hi => ?_⟩
    · -- the first of the list is ready
      obtain ⟨x, c', rfl⟩ : ∃ x c', c = x :: c' := by cases c with | nil => simp at hc | cons x c' => exact ⟨x, c', rfl⟩
      have hx := (inv.mem x).1 (by simp)
      have : x ∈ Region.ready .any ops listed := by
        refine mem_ready.2 ⟨hx.2, _, getD_some hx.1, fun e he hb => ?_⟩
        have hlt := inv.bound x (by simp) e he hb
        refine listed_of (by rw [inv.size]; exact hlt) (fun hun => ?_)
        have hmem := (inv.mem e.on).2 ⟨hlt, hun⟩
        have hw : waitsOn ops x e.on = true := by
          unfold waitsOn
          rw [Array.any_eq_true']
          exact ⟨e, he, by simp [hb]⟩
        rcases List.mem_cons.1 hmem with heq | hmem'
        · rw [heq, inv.self x (by simp)] at hw; cases hw
        · have hp := (List.pairwise_cons.1 inv.pairs).1 _ hmem'
          simp only [pairOk, Bool.and_eq_true, Bool.not_eq_true'] at hp
          rw [hw] at hp; cases hp.1.2
      rw [hr] at this
      cases this
    · obtain ⟨h0, oi, hoi, hall⟩ := mem_ready.1 hi
      have hlt : i < ops.size := (Array.getElem?_eq_some_iff.1 hoi).1
      obtain ⟨c1, c2, rfl⟩ := List.append_of_mem ((inv.mem i).2 ⟨hlt, h0⟩)
      have hoi' : ops.getD i default = oi := by
        have := getD_some (ops := ops) hlt
        rw [hoi] at this
        injection this with this
        exact this.symm
      have hsw : ∀ x ∈ c1, x < ops.size ∧ swapOk ops cls x i = true := by
        intro x hx
        have hxm := (inv.mem x).1 (by simp [hx])
        refine ⟨hxm.1, ?_⟩
        have hp := (List.pairwise_append.1 inv.pairs).2.2 x hx i (by simp)
        simp only [pairOk, Bool.and_eq_true, Bool.or_eq_true] at hp
        rcases hp.1.1 with hp | hp
        · exact hp
        · exact absurd (han listed inv.dc i oi x hoi hp hall) (unlisted_of hxm.2)
      have hf := Wk_front hsel hQ hlt c2 c1 hsw a w h
      have hsub : (c1 ++ c2).Sublist (c1 ++ i :: c2) := (List.Sublist.refl c1).append (List.sublist_cons_self i c2)
      have hni : i ∉ c1 ++ c2 := by
        have := inv.nodup
        rw [List.nodup_append] at this
        obtain ⟨_, h2, h3⟩ := this
        rw [List.nodup_cons] at h2
        intro hm
        rcases List.mem_append.1 hm with hm | hm
        · exact h3 i hm i (by simp) rfl
        · exact h2.1 hm
      have inv' : Inv ops cls an (c1 ++ c2) (listed.setIfInBounds i true) := by
        refine ⟨by simp [inv.size], fun j => ?_, inv.nodup.sublist hsub, inv.pairs.sublist hsub, fun j hj => inv.self j (hsub.subset hj), fun j hj => inv.bound j (hsub.subset hj), ?_⟩
        · by_cases hij : i = j
          · subst hij
            constructor
            · intro hm; exact absurd hm hni
            · rintro ⟨_, hu⟩
              simp [Array.getD, inv.size, hlt] at hu
          · rw [getD_set_ne true hij, ← inv.mem j]
            simp [Ne.symm hij]
        · intro j oj hj hl e he hb
          by_cases hij : i = j
          · subst hij
            rw [hoi] at hj
            injection hj with hj
            subst hj
            exact getD_set_true (hall e he hb)
          · rw [getD_set_ne false hij] at hl
            exact getD_set_true (inv.dc j oj hj hl e he hb)
      have hS2 : (∃ x ∈ c1 ++ c2, cls x = .s) → S w := fun ⟨x, hx, hcx⟩ => hS ⟨x, hsub.subset hx, hcx⟩
      have key : ∀ K : Act → World → Prop, (∀ a' w', ((∃ x ∈ c1 ++ c2, cls x = .s) → S w') → Wk P ops Q S cls (c1 ++ c2) a' w' → K a' w') → wpOp P ops Q i K a w := by
        intro K hK
        unfold Wk at hf
        cases hci : cls i <;> simp only [hci] at hf
        · obtain ⟨v, hv, hW⟩ := hf
          exact hv.wpOp (getD_some hlt) (hK _ _ hS2 hW)
        · obtain ⟨v, hv, hW⟩ := hf
          exact hv.wpOp (getD_some hlt) (hS ⟨i, by simp, hci⟩) (hK _ _ hS2 hW)
        · obtain ⟨v, hv, hW⟩ := hf
          have hst := hv.stOp (getD_some hlt) (K := fun a' => K a' w) (hK _ _ hS2 hW)
          exact wpOp_of_stOp (fun _ h => h) hst
        · exact wpOp_mono (fun a' w' hh => hK a' w' (fun _ => hh.1) hh.2) hf
        · refine wpOp_mono (fun a' w' hh => hK a' w' (fun ⟨x, hx, hcx⟩ => ?_) hh) hf
          exfalso
          rcases List.mem_append.1 hx with hx | hx
          · have h1 := (hsw x hx).2
            simp only [swapOk, hcx, hci, Bool.and_eq_true] at h1
            cases h1.2
          · have hp := (List.pairwise_append.1 inv.pairs).2.1
            have hp := (List.pairwise_cons.1 hp).1 x hx
            simp only [pairOk, hcx, hci, Bool.and_eq_true, decide_true, Bool.and_self, Bool.not_true] at hp
            cases hp.2
      exact key _ (fun a' w' hSS hW => ih (c1 ++ c2) (by simp at hc ⊢; omega) _ a' w' inv' hSS hW)

/-- Q, but 'False' at a panic. -/
def NP (Q : Exit → Act → World → Prop) : Exit → Act → World → Prop
  | .panic _, _, _ => False
  | e, a, w => Q e a w
theorem NP.imp {Q : Exit → Act → World → Prop} : ∀ (e : Exit) (a : Act) (w : World), NP Q e a w → Q e a w := fun e a w h => by
  cases e <;> first | exact h | exact (h : False).elim

theorem NP.normal {Q : Exit → Act → World → Prop} {a : Act} {w : World} (h : Q .normal a w) : NP Q .normal a w := h

def clsOf (ops : Array Oper) (sl pre fl : List Nat) (i : Nat) : Cls :=
  if pureOp (ops.getD i default) then .p else if sl.contains i then .s else if pre.contains i then .r else if fl.contains i then .f else .e

theorem clsOf_cases (ops : Array Oper) (sl pre fl : List Nat) (i : Nat) :
    (clsOf ops sl pre fl i = .p ∧ pureOp (ops.getD i default) = true) ∨ (clsOf ops sl pre fl i = .s ∧ i ∈ sl) ∨ (clsOf ops sl pre fl i = .r ∧ i ∈ pre ∧ i ∉ sl) ∨
    (clsOf ops sl pre fl i = .f ∧ i ∈ fl ∧ i ∉ sl ∧ i ∉ pre) ∨ (clsOf ops sl pre fl i = .e ∧ i ∉ sl ∧ i ∉ pre ∧ i ∉ fl) := by
  unfold clsOf
  by_cases h1 : pureOp (ops.getD i default) = true
  · exact .inl ⟨by rw [if_pos h1], h1⟩
  · by_cases h2 : i ∈ sl
    · exact .inr (.inl ⟨by rw [if_neg h1, if_pos (by simpa using h2)], h2⟩)
    · by_cases h3 : i ∈ pre
      · exact .inr (.inr (.inl ⟨by rw [if_neg h1, if_neg (by simpa using h2), if_pos (by simpa using h3)], h3, h2⟩))
      · by_cases h4 : i ∈ fl
        · exact .inr (.inr (.inr (.inl ⟨by rw [if_neg h1, if_neg (by simpa using h2), if_neg (by simpa using h3), if_pos (by simpa using h4)], h4, h2, h3⟩)))
        · exact .inr (.inr (.inr (.inr ⟨by rw [if_neg h1, if_neg (by simpa using h2), if_neg (by simpa using h3), if_neg (by simpa using h4)], h2, h3, h4⟩)))

def canonOk (ops : Array Oper) (sl pre fl tl : List Nat) : Bool :=
  Region.noSelect ops && ((sl ++ (pre ++ (fl ++ tl))).length == ops.size && (List.range ops.size).all (fun j => (sl ++ (pre ++ (fl ++ tl))).contains j)) &&
  (sl ++ (pre ++ (fl ++ tl))).all (fun i => decide (i < ops.size) && !waitsOn ops i i && (ops.getD i default).after.all fun e => !Region.binds .any e || decide (e.on < ops.size)) &&
  allPairs (fun x i => x != i && pairOk ops (clsOf ops sl pre fl) (ancs ops.toList #[]) x i) (sl ++ (pre ++ (fl ++ tl)))

def pickOps (l : List Oper) (c : List Nat) : List Oper := c.map fun i => l.getD i default

/-- The operations of class s, as a list. -/
def wpS (P : Program) (ops : Array Oper) (S : World → Prop) (K : Act → Prop) : List Oper → Act → Prop
  | [], a => K a
  | o :: l, a => ∃ v, Ys P ops S o v a ∧ wpS P ops S K l (a.put o.dst v)
/-- The operations of class f, as a list. -/
def wpKeep (P : Program) (ops : Array Oper) (Q : Exit → Act → World → Prop) (S : World → Prop) (K : Act → World → Prop) : List Oper → Act → World → Prop
  | [], a, w => K a w
  | o :: l, a, w => if Region.wanted o (yielded ops a.tmps) then o.wp P a w (fun a' w' => S w' ∧ wpKeep P ops Q S K l a' w') Q ∨ (o.asks P a w ∧ LetsOut Q) else S w ∧ wpKeep P ops Q S K l (a.put o.dst undef) w

theorem wpS_nil {K : Act → Prop} {a : Act} (h : K a) : wpS P ops S K [] a := h
theorem wpS_step {K : Act → Prop} {a : Act} {o : Oper} {l : List Oper} (hg : o.guard = none) (v : Value) (h1 : ∀ w, S w → (execOp a.eval o).run P w = .ok (.value v) w) (h2 : wpS P ops S K l (a.put o.dst v)) : wpS P ops S K (o :: l) a :=
  ⟨v, .inl ⟨by simp [Region.wanted, hg], h1⟩, h2⟩
theorem wpKeep_nil {K : Act → World → Prop} {a : Act} {w : World} (h : K a w) : wpKeep P ops Q S K [] a w := h
theorem wpKeep_step {K : Act → World → Prop} {a : Act} {w : World} {o : Oper} {l : List Oper} (hg : o.guard = none)
    (h : ∀ K', (∀ a w, S w → wpKeep P ops Q S K l a w → K' a w) → o.wp P a w K' Q) : wpKeep P ops Q S K (o :: l) a w := by
  unfold wpKeep
  rw [if_pos (by simp [Region.wanted, hg])]
  exact .inl (h _ (fun a w h1 h2 => ⟨h1, h2⟩))

section
variable {l : List Oper} {sl pre fl : List Nat}

theorem pickOps_cons (hsz : ∀ i, i < l.length → l.toArray.getD i default = l.getD i default) {i : Nat} (hi : i < l.length) (c : List Nat) : pickOps l (i :: c) = l.toArray.getD i default :: pickOps l c := by
  simp only [pickOps, List.map_cons]; rw [hsz i hi]

theorem Wk_of_list (hsz : ∀ i, i < l.length → l.toArray.getD i default = l.getD i default) : ∀ (c : List Nat), (∀ i ∈ c, i < l.length ∧ i ∉ sl ∧ i ∉ pre ∧ i ∉ fl) → ∀ a w,
    wpList P l.toArray (NP Q) (pickOps l c) a w → Wk P l.toArray (NP Q) S (clsOf l.toArray sl pre fl) c a w
  | [], _, a, w, h => h
  | i :: c, hc, a, w, h => by
    have hi := hc i (by simp)
    have ih := Wk_of_list hsz c (fun j hj => hc j (by simp [hj]))
    have hop : l.toArray[i]? = some (l.toArray.getD i default) := getD_some (by simpa using hi.1)
    unfold Wk
    rw [pickOps_cons hsz hi.1] at h
    have hw : wpOp P l.toArray (NP Q) i (Wk P l.toArray (NP Q) S (clsOf l.toArray sl pre fl) c) a w := by
      refine wpOp_mono ih ?_
      unfold wpOp
      rw [hop]
      simpa [wpList] using h
    rcases clsOf_cases l.toArray sl pre fl i with ⟨hcl, hp⟩ | ⟨_, hm⟩ | ⟨_, hm, _⟩ | ⟨_, hm, _⟩ | ⟨hcl, _⟩
    · simp only [hcl]
      unfold wpOp at hw
      simp only [hop] at hw
      by_cases hwn : Region.wanted (l.toArray.getD i default) (yielded l.toArray a.tmps) = true
      · simp only [hwn, if_true] at hw
        rcases hw with hw | ⟨hw, _⟩
        · unfold Oper.wp at hw
          cases hr : (execOp a.eval (l.toArray.getD i default)).run P w with
          | ok x w' =>
            obtain ⟨v, rfl, rfl, hall⟩ := pureOp_run hp a.eval w hr
            rw [hr] at hw
            exact ⟨v, .inl ⟨hwn, hall⟩, hw⟩
          | halt x w' =>
            rw [hr] at hw
            cases x <;> simp only [Oper.upon, NP] at hw
        · exact absurd hw (pureOp_asks hp a w)
      · simp only [hwn] at hw
        exact ⟨undef, .inr ⟨by simpa using hwn, rfl⟩, by simpa using hw⟩
    · exact absurd hm hi.2.1
    · exact absurd hm hi.2.2.1
    · exact absurd hm hi.2.2.2
    · simp only [hcl]; exact hw

theorem Wk_of_keep (hsz : ∀ i, i < l.length → l.toArray.getD i default = l.getD i default) (tl : List Nat) : ∀ (c : List Nat), (∀ i ∈ c, i < l.length ∧ pureOp (l.toArray.getD i default) = false ∧ i ∉ sl ∧ i ∉ pre ∧ i ∈ fl) → ∀ a w,
    wpKeep P l.toArray (NP Q) S (Wk P l.toArray (NP Q) S (clsOf l.toArray sl pre fl) tl) (pickOps l c) a w → Wk P l.toArray (NP Q) S (clsOf l.toArray sl pre fl) (c ++ tl) a w
  | [], _, a, w, h => h
  | i :: c, hc, a, w, h => by
    have hi := hc i (by simp)
    have ih := Wk_of_keep hsz tl c (fun j hj => hc j (by simp [hj]))
    have hop : l.toArray[i]? = some (l.toArray.getD i default) := getD_some (by simpa using hi.1)
    rw [List.cons_append]
    unfold Wk
    rw [pickOps_cons hsz hi.1] at h
    rcases clsOf_cases l.toArray sl pre fl i with ⟨_, hp⟩ | ⟨_, hm⟩ | ⟨_, hm, _⟩ | ⟨hcl, _⟩ | ⟨_, _, _, hm⟩
    · rw [hi.2.1] at hp; cases hp
    · exact absurd hm hi.2.2.1
    · exact absurd hm hi.2.2.2.1
    · simp only [hcl]
      refine wpOp_mono (K := fun a' w' => S w' ∧ wpKeep P l.toArray (NP Q) S (Wk P l.toArray (NP Q) S (clsOf l.toArray sl pre fl) tl) (pickOps l c) a' w') (fun a' w' hh => ⟨hh.1, ih a' w' hh.2⟩) ?_
      unfold wpOp
      rw [hop]
      simpa [wpKeep] using h
    · exact absurd hi.2.2.2.2 hm

theorem Wk_of_still {w : World} (hsz : ∀ i, i < l.length → l.toArray.getD i default = l.getD i default) (tl : List Nat) : ∀ (c : List Nat), (∀ i ∈ c, i < l.length ∧ i ∉ sl ∧ i ∈ pre) → ∀ a,
    wpStill P l.toArray w (fun a' => Wk P l.toArray Q S (clsOf l.toArray sl pre fl) tl a' w) (pickOps l c) a → Wk P l.toArray Q S (clsOf l.toArray sl pre fl) (c ++ tl) a w
  | [], _, a, h => h
  | i :: c, hc, a, h => by
    have hi := hc i (by simp)
    have ih := Wk_of_still (w := w) hsz tl c (fun j hj => hc j (by simp [hj]))
    have hop : l.toArray[i]? = some (l.toArray.getD i default) := getD_some (by simpa using hi.1)
    rw [List.cons_append]
    unfold Wk
    rw [pickOps_cons hsz hi.1] at h
    obtain ⟨v, hv, hK⟩ := yieldsAt_of_stOp (ops := l.toArray) (w := w) (K := wpStill P l.toArray w (fun a' => Wk P l.toArray Q S (clsOf l.toArray sl pre fl) tl a' w) (pickOps l c)) hop (by
      unfold stOp
      rw [hop]
      simpa [wpStill] using h)
    rcases clsOf_cases l.toArray sl pre fl i with ⟨hcl, hp⟩ | ⟨_, hm⟩ | ⟨hcl, _⟩ | ⟨_, _, _, hm⟩ | ⟨_, _, hm, _⟩
    · simp only [hcl]
      refine ⟨v, ?_, ih _ hK⟩
      rcases hv with ⟨hw, h1 | ⟨h1, rfl⟩ | ⟨f, args, h1, _⟩⟩ | ⟨hw, rfl⟩
      · obtain ⟨v', e, _, hall⟩ := pureOp_run hp a.eval w h1
        injection e with e
        subst e
        exact .inl ⟨hw, hall⟩
      · obtain ⟨v', e, _⟩ := pureOp_run hp a.eval w h1
        cases e
      · obtain ⟨v', e, _⟩ := pureOp_run hp a.eval w h1
        cases e
      · exact .inr ⟨hw, rfl⟩
    · exact absurd hm hi.2.1
    · simp only [hcl]; exact ⟨v, hv, ih _ hK⟩
    · exact absurd hi.2.2 hm
    · exact absurd hi.2.2 hm

theorem Wk_of_S {w : World} (hS : S w) (hsz : ∀ i, i < l.length → l.toArray.getD i default = l.getD i default) (tl : List Nat) : ∀ (c : List Nat), (∀ i ∈ c, i < l.length ∧ i ∈ sl) → ∀ a,
    wpS P l.toArray S (fun a' => Wk P l.toArray Q S (clsOf l.toArray sl pre fl) tl a' w) (pickOps l c) a → Wk P l.toArray Q S (clsOf l.toArray sl pre fl) (c ++ tl) a w
  | [], _, a, h => h
  | i :: c, hc, a, h => by
    have hi := hc i (by simp)
    have ih := Wk_of_S hS hsz tl c (fun j hj => hc j (by simp [hj]))
    rw [List.cons_append]
    unfold Wk
    rw [pickOps_cons hsz hi.1] at h
    obtain ⟨v, hv, hK⟩ := h
    rcases clsOf_cases l.toArray sl pre fl i with ⟨hcl, hp⟩ | ⟨hcl, hm⟩ | ⟨_, _, hm⟩ | ⟨_, _, hm, _⟩ | ⟨_, hm, _⟩
    · simp only [hcl]
      refine ⟨v, ?_, ih _ hK⟩
      rcases hv with ⟨hw, h1⟩ | ⟨hw, rfl⟩
      · obtain ⟨v', e, _, hall⟩ := pureOp_run hp a.eval w (h1 w hS)
        injection e with e
        subst e
        exact .inl ⟨hw, hall⟩
      · exact .inr ⟨hw, rfl⟩
    · simp only [hcl]; exact ⟨v, hv, ih _ hK⟩
    · exact absurd hi.2 hm
    · exact absurd hi.2 hm
    · exact absurd hi.2 hm
end

theorem wpStill_mono' {w : World} {K K' : Act → Prop} (h : ∀ a, K a → K' a) : ∀ (l : List Oper) (a : Act), wpStill P ops w K l a → wpStill P ops w K' l a
  | [], _, hh => h _ hh
  | o :: l, a, hh => by
    unfold wpStill at hh ⊢
    split
    · rename_i hw; rw [if_pos hw] at hh; exact Oper.still_mono (wpStill_mono' h l) hh
    · rename_i hw; rw [if_neg hw] at hh; exact wpStill_mono' h l _ hh
theorem wpS_mono' {K K' : Act → Prop} (h : ∀ a, K a → K' a) : ∀ (l : List Oper) (a : Act), wpS P ops S K l a → wpS P ops S K' l a
  | [], _, hh => h _ hh
  | o :: l, a, ⟨v, h1, h2⟩ => ⟨v, h1, wpS_mono' h l _ h2⟩
theorem wpKeep_mono' {K K' : Act → World → Prop} (h : ∀ a w, K a w → K' a w) : ∀ (l : List Oper) (a : Act) (w : World), wpKeep P ops Q S K l a w → wpKeep P ops Q S K' l a w
  | [], _, _, hh => h _ _ hh
  | o :: l, a, w, hh => by
    unfold wpKeep at hh ⊢
    split
    · rename_i hw
      rw [if_pos hw] at hh
      exact hh.imp (Oper.wp_mono fun a' w' h' => ⟨h'.1, wpKeep_mono' h l _ _ h'.2⟩) id
    · rename_i hw
      rw [if_neg hw] at hh
      exact ⟨hh.1, wpKeep_mono' h l _ _ hh.2⟩

/-- A region that draws its order, in one order: 'sl': in every world that S lets in; 'pre': still; 'fl': keeping S; 'tl': as a list without a draw. -/
theorem wp_region_canonS {id : Nat} {Q : Exit → Act → World → Prop} {a : Act} {w : World} {l : List Oper} (S : World → Prop) (sl pre fl tl : List Nat) (hm : P.follows .mixedOrders = true) (hB : canonOk l.toArray sl pre fl tl = true)
    (hfl : fl.all (fun i => !pureOp (l.toArray.getD i default)) = true) (hS : S w.drew)
    (h : wpS P l.toArray S (fun a1 => wpStill P l.toArray w.drew (fun a2 => wpKeep P l.toArray (NP Q) S (wpList P l.toArray (NP Q) (pickOps l tl)) (pickOps l fl) a2 w.drew) (pickOps l pre) a1) (pickOps l sl) a) : (Code.region id l.toArray true).wp P Q a w := by
  simp only [canonOk, Bool.and_eq_true, beq_iff_eq, List.all_eq_true, decide_eq_true_eq, Bool.not_eq_true'] at hB
  obtain ⟨⟨⟨hsel, hlen, hcov⟩, hall⟩, hpairs⟩ := hB
  have hpw := allPairs_spec hpairs
  have hsz : ∀ i, i < l.length → l.toArray.getD i default = l.getD i default := fun i hi => by simp [Array.getD, hi, List.getD]
  have hlt : ∀ i ∈ sl ++ (pre ++ (fl ++ tl)), i < l.length := fun i hi => by simpa using (hall i hi).1.1
  have hnd : (sl ++ (pre ++ (fl ++ tl))).Nodup := by
    refine List.Pairwise.imp ?_ hpw
    intro x i hx
    simp only [Bool.and_eq_true, bne_iff_ne] at hx
    exact hx.1
  obtain ⟨_, hnd2, hd1⟩ := List.nodup_append.1 hnd
  obtain ⟨_, hnd3, hd2⟩ := List.nodup_append.1 hnd2
  obtain ⟨_, _, hd3⟩ := List.nodup_append.1 hnd3
  have hNP : (Code.region id l.toArray true).wp P (NP Q) a w := by
    refine wp_region_any hm ?_
    rw [← hlen]
    refine Wk_any (S := S) (cls := clsOf l.toArray sl pre fl) (an := ancs l.toArray.toList #[]) hsel (fun c a d v w h => h) ?_ _ (sl ++ (pre ++ (fl ++ tl))) rfl _ a _ ?_ (fun _ => hS) ?_
    · intro listed hd i oi x ho hb he
      refine ancs_spec hd l.toArray.toList #[] (fun j => by simp) (fun i _ _ hi => by simp at hi) i oi x ?_ ho hb he
      have := (Array.getElem?_eq_some_iff.1 ho).1
      simpa using this
    · refine ⟨by simp [hlen], fun j => ?_, hnd, hpw.imp (fun h => ?_), fun i hi => (hall i hi).1.2, fun i hi e he hb => ?_, ?_⟩
      · constructor
        · intro hj
          have := hlt j hj
          refine ⟨by simpa using this, ?_⟩
          simp [Array.getD, hlen, this]
        · rintro ⟨hj, _⟩
          simpa using hcov j (by simpa using hj)
      · simp only [Bool.and_eq_true] at h; simpa using h.2
      · have := (hall i hi).2
        rw [Array.all_eq_true_iff_forall_mem] at this
        have := this e he
        simp only [Bool.or_eq_true, Bool.not_eq_true', decide_eq_true_eq] at this
        rcases this with h | h
        · rw [hb] at h; cases h
        · exact h
      · intro j oj _ hl
        simp [Array.getD] at hl
    · refine Wk_of_S hS hsz _ sl (fun i hi => ⟨hlt i (by simp [hi]), hi⟩) a ?_
      refine wpS_mono' (fun a1 h => ?_) _ _ h
      refine Wk_of_still hsz _ pre (fun i hi => ⟨hlt i (by simp [hi]), fun hm => hd1 i hm i (by simp [hi]) rfl, hi⟩) a1 ?_
      refine wpStill_mono' (fun a2 h => ?_) _ _ h
      refine Wk_of_keep hsz _ fl (fun i hi => ⟨hlt i (by simp [hi]), by have := List.all_eq_true.1 hfl i hi; simpa using this, fun hm => hd1 i hm i (by simp [hi]) rfl, fun hm => hd2 i hm i (by simp [hi]) rfl, hi⟩) a2 _ ?_
      refine wpKeep_mono' (fun a3 w3 h => ?_) _ _ _ h
      exact Wk_of_list hsz tl (fun i hi => ⟨hlt i (by simp [hi]), fun hm => hd1 i hm i (by simp [hi]) rfl, fun hm => hd2 i hm i (by simp [hi]) rfl, fun hm => hd3 i hm i hi rfl⟩) a3 w3 h
  exact Code.wp_mono NP.imp hNP

/-- A region that draws its order: 'pre' still or pure, walked first; then 'tl', as a list without a draw. -/
theorem wp_region_canon {id : Nat} {Q : Exit → Act → World → Prop} {a : Act} {w : World} {l : List Oper} (pre tl : List Nat) (hm : P.follows .mixedOrders = true) (hB : canonOk l.toArray [] pre [] tl = true)
    (h : wpStill P l.toArray w.drew (fun a' => wpList P l.toArray (NP Q) (pickOps l tl) a' w.drew) (pickOps l pre) a) : (Code.region id l.toArray true).wp P Q a w :=
  wp_region_canonS (fun _ => True) [] pre [] tl hm hB rfl trivial h
end
/-- A still step whose answer is laid. -/
theorem wpStill_yes {P : Program} {ops : Array Oper} {w : World} {Q : Act → Prop} {a : Act} {o : Oper} {rest : List Oper} (v : Value) (hw : Region.wanted o (yielded ops a.tmps) = true)
    (hr : (execOp a.eval o).run P w = .ok (.value v) w) (h : wpStill P ops w Q rest (a.put o.dst v)) : wpStill P ops w Q (o :: rest) a := by
  unfold wpStill
  rw [if_pos hw]
  unfold Oper.still
  rw [hr]
  exact ⟨rfl, h⟩
theorem wpStill_no {P : Program} {ops : Array Oper} {w : World} {Q : Act → Prop} {a : Act} {o : Oper} {rest : List Oper} (hw : Region.wanted o (yielded ops a.tmps) = false)
    (h : wpStill P ops w Q rest (a.put o.dst undef)) : wpStill P ops w Q (o :: rest) a := by
  unfold wpStill
  rw [if_neg (by rw [hw]; simp)]
  exact h

end Go.Proofs.Ytkjcnjfjecfciaa
