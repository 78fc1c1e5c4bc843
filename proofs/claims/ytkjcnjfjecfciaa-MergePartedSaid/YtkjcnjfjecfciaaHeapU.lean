/- The walks of container/heap over merge.heads. -/
import Derived.Test.YtkjcnjfjecfciaaHeapM
namespace Go.Proofs.Ytkjcnjfjecfciaa
open Go.RowKit

theorem wrapChk (ts : Array TypeId) (t : TypeId) (a : Addr) (s m : String) : Builtin.ssaWrapNilChk_ ts t #[.pointer (some a), strVal s, strVal m] = pure (.pointer (some a)) := rfl
theorem methFind (name : String) (f : FuncId) (h : ((Try.prog).info? 46).bind (fun i => (i.methods.find? (·.name == name)).map (fun m => (m.path.toList, m.func))) = some ([], some (f, false)))
   (n : Nat) (a : Addr) (v : Value) (w : World) (hc : w.cell? a = some v) : (method (n + 1) 46 (.pointer (some a)) name).run Try.prog w = .ok (f, v) w := by
  cases hi : (Try.prog).info? 46 with
  | none => rw [hi] at h; cases h
  | some i =>
    rw [hi] at h
    simp only [Option.bind_some] at h
    cases hm : i.methods.find? (·.name == name) with
    | none => rw [hm] at h; cases h
    | some m =>
      rw [hm] at h
      simp only [Option.map_some, Option.some.injEq, Prod.mk.injEq] at h
      obtain ⟨h1, h2⟩ := h
      have h3 : m.path = #[] := by simpa using h1
      simp only [method, typeInfo]
      simp [go_sem, hi, hm, h2, h3, follow, receiverAt, run_underlying (show (Try.prog).underlying 46 = some (.pointer 44) by kernel_rfl), wrapChk, Place.get, asAddr]
      rw [hc]
      rfl
theorem nilFind (name : String) (f : FuncId) (h : ((Try.prog).info? 46).bind (fun i => (i.methods.find? (·.name == name)).map (fun m => (m.path.toList, m.func))) = some ([], some (f, false)))
   (n : Nat) (a : Addr) (w : World) : (nilAhead (n + 1) 46 (.pointer (some a)) name).run Try.prog w = .ok (some false) w := by
  cases hi : (Try.prog).info? 46 with
  | none => rw [hi] at h; cases h
  | some i =>
    rw [hi] at h
    simp only [Option.bind_some] at h
    cases hm : i.methods.find? (·.name == name) with
    | none => rw [hm] at h; cases h
    | some m =>
      rw [hm] at h
      simp only [Option.map_some, Option.some.injEq, Prod.mk.injEq] at h
      obtain ⟨h1, h2⟩ := h
      simp only [nilAhead, typeInfo]
      simp [go_sem, hi, hm, h1, h2, followBlind, run_underlying (show (Try.prog).underlying 46 = some (.pointer 44) by kernel_rfl)]
theorem methLess : ((Try.prog).info? 46).bind (fun i => (i.methods.find? (·.name == "Less")).map (fun m => (m.path.toList, m.func))) = some ([], some (38, false)) := by kernel_rfl
theorem methSwap : ((Try.prog).info? 46).bind (fun i => (i.methods.find? (·.name == "Swap")).map (fun m => (m.path.toList, m.func))) = some ([], some (39, false)) := by kernel_rfl
theorem methLen : ((Try.prog).info? 46).bind (fun i => (i.methods.find? (·.name == "Len")).map (fun m => (m.path.toList, m.func))) = some ([], some (37, false)) := by kernel_rfl

def lessAt (hs : List Hd) (i k : Nat) : Bool := match hs[i]?, hs[k]? with | some a, some b => hdLess a b | _, _ => false
theorem lessAt_eq (hs : List Hd) {i k : Nat} (hi : i < hs.length) (hk : k < hs.length) : lessAt hs i k = hdLess hs[i] hs[k] := by
  unfold lessAt; rw [List.getElem?_eq_getElem hi, List.getElem?_eq_getElem hk]

def upL (hs : List Hd) (j : Nat) : List Hd :=
  if h : j = 0 ∨ lessAt hs j ((j - 1) / 2) = false then hs else upL (swapL hs ((j - 1) / 2) j) ((j - 1) / 2)
termination_by j
decreasing_by omega

def downJ (hs : List Hd) (i n : Nat) : Nat := if 2 * i + 2 < n ∧ lessAt hs (2 * i + 2) (2 * i + 1) = true then 2 * i + 2 else 2 * i + 1
def downL (hs : List Hd) (i n : Nat) : List Hd × Nat :=
  if h : n ≤ 2 * i + 1 ∨ lessAt hs (downJ hs i n) i = false then (hs, i) else downL (swapL hs i (downJ hs i n)) (downJ hs i n) n
termination_by n - i
decreasing_by unfold downJ; split <;> omega

abbrev ifc (bx : Nat) : Value := .iface 46 (.pointer (some ⟨bx, 0, none⟩))

set_option maxRecDepth 100000 in
set_option maxHeartbeats 1000000 in
theorem up_any (bx g c m N : Nat) (tl : List Value) (B : Nat) (hs : List Hd) (j : Nat) (hj : j < hs.length) (w : World) (hb : HBox w bx g c m N tl B hs) :
    Calls Try.prog 18 #[ifc bx, .int .i64 j] w fun e w' => e = .returned (.tuple #[]) ∧ HBox w' bx g c m N tl B (upL hs j) ∧ (upL hs j).length = hs.length ∧ Kp (fpH bx g) w w' := by
  have hn := hb.big
  have hn2 := hb.len
  go_enter Try.func18, Try.ntmps18
  go_wp2
  go_loopw [1, 4] (fun s _ wr => ∃ (k : Nat) (hk : List Hd), s = .int .i64 k ∧ k < hk.length ∧ hk.length = hs.length ∧ HBox wr bx g c m N tl B hk ∧ Hid (upL hk k = upL hs j) ∧ Kp (fpH bx g) w wr) (fun s _ _ => (intOf s).toNat)
  case atStart => exact ⟨j, hs, rfl, hj, rfl, hb, rfl, Kp.refl _ _⟩
  case round =>
    obtain ⟨k, hk, rfl, hkl, hkn, hbk, hU, hK⟩ := hrel
    have hbox := hbk.box.cell 0
    simp at hbox
    have n1 := fun n w => nilFind "Less" _ methLess n ⟨bx, 0, none⟩ w
    have n2 := fun n w => nilFind "Swap" _ methSwap n ⟨bx, 0, none⟩ w
    have m1 := fun n => methFind "Less" _ methLess n ⟨bx, 0, none⟩ _ _ hbox
    have HN := Lib.hid hkn
    have hkm : hk.length ≤ 9223372036854775807 := by omega
    clear hkn
    rcases Nat.eq_zero_or_pos k with h0 | hpos
    · subst h0
      have HU : Hid (upL hk 0 = hk) := by show _ = _; rw [upL]; simp
      go_wp2
      go_end0
      rw [HU.out] at hU
      rw [← hU.out]
      exact ⟨rfl, hbk, HN.out, hK⟩
    · obtain ⟨i, hi⟩ : ∃ i, i = (k - 1) / 2 := ⟨_, rfl⟩
      have hik : i < k := by omega
      have hpar : ((k : Int) - 1) / 2 = (i : Int) := by omega
      have hne : ((i : Int) == (k : Int)) = false := by simp; omega
      have hil : i < hk.length := by omega
      have HI := Lib.hid hi
      have hL := lessAt_eq hk hkl hil
      clear hi
      have hla := fun W (hW : HBox W bx g c m N tl B hk) => less_any (some ⟨g, 0, none⟩) c N hk k i hkl hil hW.len (by have := hW.big; unfold maxLen; omega) W hW.heads
      have hsa := fun W (hW : HBox W bx g c m N tl B hk) => swap_any bx g c m N tl B hk i k hil hkl W hW
      cases hl : hdLess hk[k] hk[i] with
      | false =>
        rw [hl] at hla hL
        have HU : Hid (upL hk k = hk) := by show _ = _; rw [upL, dif_pos]; right; rw [← HI.out]; exact hL
        have HLA := Lib.hid hla
        clear hla hsa hL hl
        go_wp2_with (go_at_call 38; refine (HLA.out _ hbk).mono ?_; rintro e w1 ⟨rfl, hB1⟩)
        go_end0
        rw [HU.out] at hU
        rw [← hU.out]
        exact ⟨rfl, hbk.below hB1, HN.out, hK.thenBelow hB1⟩
      | true =>
        rw [hl] at hla hL
        have HU : Hid (upL (swapL hk i k) i = upL hs j) := by
          show _ = _
          rw [← hU.out, upL.eq_def hk k, dif_neg]
          · rw [← HI.out]
          · rw [← HI.out, hL]; simp; omega
        have HLA := Lib.hid hla
        have HSA := Lib.hid hsa
        clear hla hL hl hsa
        have HM := Lib.hid (fun (w1 : World) (h : HBox w1 bx g c m N tl B hk) n => methFind "Swap" _ methSwap n ⟨bx, 0, none⟩ _ w1 (by have := h.box.cell 0; simpa using this))
        go_wp2_with (first
          | (go_at_call 38; refine (HLA.out _ hbk).mono ?_; rintro e w1 ⟨rfl, hB1⟩; have hb1 := hbk.below hB1; have m2 := HM.out w1 hb1)
          | (go_at_call 39; refine (HSA.out _ hb1).mono ?_; rintro e w2 ⟨rfl, hb2, hK2⟩))
        go_roundw
        case rel => exact ⟨i, swapL hk i k, rfl, by rw [swapL_len]; omega, by rw [swapL_len]; exact HN.out, hb2, HU.out, (hK.thenBelow hB1).trans hK2 (fun _ _ h => h)⟩
        case measure => simp [intOf]; omega
end Go.Proofs.Ytkjcnjfjecfciaa
