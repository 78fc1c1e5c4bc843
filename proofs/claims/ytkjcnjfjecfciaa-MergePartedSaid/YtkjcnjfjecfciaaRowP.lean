/- Rows in order, plainly: what block.ahead, block.Order, merge.runs, merge.seen, merge.At and merge.Drop compute. No program is named here. -/
import Derived.Lib.Strings
namespace Go.Proofs.Ytkjcnjfjecfciaa

/-- The model's '<' on strings is the lexical order of the bytes. -/
theorem bytesLess_lt : ∀ (x y : List UInt8), Op.bytesLess x y = decide (x < y)
  | [], [] => by simp [Op.bytesLess]
  | _ :: _, [] => by simp [Op.bytesLess]
  | [], _ :: _ => by simp [Op.bytesLess]
  | a :: x, b :: y => by
    rw [Op.bytesLess, bytesLess_lt x y]
    simp only [List.cons_lt_cons_iff]
    by_cases h1 : a < b <;> by_cases h2 : a = b <;> by_cases h3 : x < y <;> simp [h1, h2, h3]

structure Row where
  key : ByteArray
  seq : Int
  kind : Int
  val : ByteArray
  deriving DecidableEq

def Row.cells (r : Row) : List Value := [.string r.key, .int .u64 r.seq, .int .i64 r.kind, .string r.val]
def Row.v (r : Row) : Value := .agg #[.string r.key, .int .u64 r.seq, .int .i64 r.kind, .string r.val]

def aheadB (r : Row) (key : ByteArray) (seq : Int) : Bool := Op.bytesLess r.key.toList key.toList || (r.key.toList == key.toList && decide (seq < r.seq))

/-- the rows up to number i stand in order -/
def orderTo (l : List Row) : Nat → Bool
  | 0 => true
  | 1 => true
  | i + 2 => orderTo l (i + 1) && (match l[i]?, l[i + 1]? with | some a, some b => aheadB a b.key b.seq | _, _ => true)
def orderB (l : List Row) : Bool := orderTo l l.length

theorem orderTo_succ (l : List Row) (k : Nat) (h1 : 1 ≤ k) (hk : k < l.length) : orderTo l (k + 1) = (orderTo l k && aheadB l[k-1] l[k].key l[k].seq) := by
  obtain ⟨j, rfl⟩ : ∃ j, k = j + 1 := ⟨k - 1, by omega⟩
  rw [orderTo]
  simp only [Nat.add_sub_cancel]
  rw [List.getElem?_eq_getElem (by omega), List.getElem?_eq_getElem hk]

theorem orderTo_false (l : List Row) (k : Nat) (h : orderTo l k = false) : ∀ n, k ≤ n → orderTo l n = false := by
  intro n hn
  induction n with
  | zero => obtain rfl : k = 0 := by omega
            exact h
  | succ n ih =>
    by_cases hk : k ≤ n
    · have := ih hk
      cases n with
      | zero => simp [orderTo] at this
      | succ n => rw [orderTo, this]; rfl
    · obtain rfl : k = n + 1 := by omega
      exact h

/-- same rows, up to number i -/
theorem row_v_eq (a b : Row) : (a = b) ↔ (a.key.toList = b.key.toList ∧ a.seq = b.seq ∧ a.kind = b.kind ∧ a.val.toList = b.val.toList) := by
  constructor
  · rintro rfl; exact ⟨rfl, rfl, rfl, rfl⟩
  · rintro ⟨h1, h2, h3, h4⟩
    have inj : ∀ x y : ByteArray, x.toList = y.toList → x = y := by
      intro x y h
      rw [Lib.toList_data, Lib.toList_data] at h
      cases x; cases y
      simp only [ByteArray.mk.injEq]
      exact Array.toList_inj.1 h
    cases a; cases b
    simp only [Row.mk.injEq]
    exact ⟨inj _ _ h1, h2, h3, inj _ _ h4⟩

/-- which row of a key's rows a number sees, after i of them -/
def seenIx (run : List Row) (n : Int) : Option Nat := run.findIdx? (fun r => decide (r.seq ≤ n))
def ixInt : Option Nat → Int
  | some k => k
  | none => -1

/-- a key's rows end with row i -/
def runEnd (l : List Row) (i : Nat) : Bool := decide (i + 1 = l.length) || (match l[i + 1]?, l[i]? with | some a, some b => !(a.key.toList == b.key.toList) | _, _ => true)

/-- the rows of each key, as bounds: after i rounds -/
def runsTo (l : List Row) : Nat → List (Nat × Nat) × Nat
  | 0 => ([], 0)
  | i + 1 => if runEnd l i = true then ((runsTo l i).1 ++ [((runsTo l i).2, i + 1)], i + 1) else runsTo l i
def runsIx (l : List Row) : List (Nat × Nat) := (runsTo l l.length).1

theorem runsTo_inv (l : List Row) : ∀ i, i ≤ l.length → (runsTo l i).2 ≤ i ∧ (runsTo l i).1.length ≤ i ∧ ∀ p ∈ (runsTo l i).1, p.1 < p.2 ∧ p.2 ≤ i
  | 0, _ => by simp [runsTo]
  | i + 1, hi => by
    obtain ⟨h1, h2, h3⟩ := runsTo_inv l i (by omega)
    rw [runsTo]
    split
    · refine ⟨Nat.le_refl _, by simp; omega, fun p hp => ?_⟩
      rcases List.mem_append.1 hp with hp | hp
      · have := h3 p hp; omega
      · simp at hp; subst hp; simp; omega
    · refine ⟨by omega, by omega, fun p hp => ?_⟩
      have := h3 p hp; omega

def runOf (l : List Row) (p : Nat × Nat) : List Row := (l.drop p.1).take (p.2 - p.1)

/-- what one key's rows have at a number -/
def atRun (run : List Row) (n : Int) : Option (ByteArray × ByteArray) :=
  match seenIx run n with
  | some k => match run[k]? with
    | some r => if r.kind = 1 then some (r.key, r.val) else none
    | none => none
  | none => none
def atOf (l : List Row) (n : Int) : List (ByteArray × ByteArray) := (runsIx l).filterMap fun p => atRun (runOf l p) n

end Go.Proofs.Ytkjcnjfjecfciaa
