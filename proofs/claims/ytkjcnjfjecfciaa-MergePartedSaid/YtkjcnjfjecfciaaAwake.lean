/- freshetlaw13.awake: it answers true. -/
import Derived.Test.YtkjcnjfjecfciaaDrop
namespace Go.Proofs.Ytkjcnjfjecfciaa
open Go.RowKit

def rA : Row := ⟨⟨#[97]⟩, 3, 2, ByteArray.empty⟩
def rB : Row := ⟨⟨#[97]⟩, 1, 1, ⟨#[120]⟩⟩
def rC : Row := ⟨⟨#[98]⟩, 2, 1, ⟨#[121]⟩⟩
theorem abc_order : orderB [rA, rB, rC] = true := by kernel_rfl
theorem abc_at : atOf [rA, rB, rC] 2 = [(⟨#[97]⟩, ⟨#[120]⟩), (⟨#[98]⟩, ⟨#[121]⟩)] := by kernel_rfl
theorem abc_drop : dropOf [rA, rB, rC] [] true = [rC] := by kernel_rfl

theorem abc_rd (w : World) : Rd (w.alloc (.cells #[.string ⟨#[97]⟩, .int .u64 3, .int .i64 2, .string ByteArray.empty, .string ⟨#[97]⟩, .int .u64 1, .int .i64 1, .string ⟨#[120]⟩, .string ⟨#[98]⟩, .int .u64 2, .int .i64 1, .string ⟨#[121]⟩] 32)) 4
    (some ⟨w.heap.size, 0, none⟩) ([rA, rB, rC].map Row.cells) :=
  Rd.ofOwn (base := w.heap.size) (n := 3) (c := 3) (by omega) (by intro x hx; obtain ⟨r, _, rfl⟩ := List.mem_map.1 hx; rfl) (World.ownsRow_lit w _ 3 (Nat.le_refl _) (by unfold maxLen; omega) rfl)

set_option maxHeartbeats 400000 in
theorem awake_any (w : World) : Calls Try.prog 4 #[] w fun e w' => e = .returned (.bool true) ∧ Below w.heap.size w w' := by
  have hat := at_any (some ⟨w.heap.size, 0, none⟩) 3 [rA, rB, rC] 2 _ (by decide) (by decide) (abc_rd w) abc_order
  have hdr := fun W (h : Rd W 4 (some ⟨w.heap.size, 0, none⟩) ([rA, rB, rC].map Row.cells)) => drop_any (some ⟨w.heap.size, 0, none⟩) none 3 0 [rA, rB, rC] [] true W (by decide) (by decide) (by decide) h (by simpa using Rd.nil) abc_order
  have hrd := abc_rd w
  rw [abc_at] at hat
  simp only [abc_drop] at hdr
  have HAT := Lib.hid hat
  have HDR := Lib.hid hdr
  have HRD := Lib.hid hrd
  clear hat hdr hrd
  go_enter Try.func4, Try.ntmps4
  go_wp2_with (first
    | (go_at_call 5; refine HAT.out.mono ?_; rintro e w1 ⟨v1, rfl, hown1, hB1⟩; obtain ⟨A1, c1, rfl⟩ := own_shape hown1)
    | (go_at_call 8; refine (HDR.out _ (HRD.out.below hB1)).mono ?_; rintro e w2 ⟨v2, rfl, hown2, hB2⟩; obtain ⟨A2, c2, rfl⟩ := own_shape hown2; obtain ⟨g1, rfl, hg1, hgl1, hc1⟩ := own_at hown1 (by decide); obtain ⟨g2, rfl, hg2, hgl2, hc2⟩ := own_at hown2 (by decide); have hc1' := fun o => (hB2.cell (p := ⟨g1, o, none⟩) hgl1); have a0 := (hc1' 0).trans (hc1 0 _ rfl); have a1 := (hc1' 1).trans (hc1 1 _ rfl); have b0 : w2.cell? ⟨g2, 0, none⟩ = some (.string ⟨#[98]⟩) := hc2 0 _ rfl; clear hc1 hc2 hc1' hown1 hown2))
  go_ret
  exact ⟨rfl, (((Below.refl _ _).alloc (Nat.le_refl _) _).trans (hB1.mono (by simp))).trans (hB2.mono (Nat.le_trans (by simp) hB1.size))⟩
end Go.Proofs.Ytkjcnjfjecfciaa
