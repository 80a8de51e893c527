import Derived.Test.YthpclmlfmhjadaaKC1
import Derived.Test.YthpclmlfmhjadaaEv2
import Derived.Test.YthpclmlfmhjadaaFw32
set_option linter.unusedSimpArgs false
set_option linter.unusedVariables false
namespace Go.Abs
set_option maxRecDepth 100000

def E1 : ECal := evE O1 T 4000 60
theorem E1_ok : CalOk P E1 := evE_ok mixedP O1_ok T_ok 4000 60

def stV5 : Value := .tuple ⟨[.agg ⟨[.int .i64 1, .int .i64 0, .int .i64 1, .slice (some ⟨3, 0, none⟩) 2 HID, .slice (some ⟨4, 0, none⟩) 1 HID, .slice (some ⟨5, 0, none⟩) 3 HID, .slice (some ⟨6, 0, none⟩) 1 HID]⟩, .bool true]⟩
def stH5 : AHeap := [.blk [.int .i64 100, .int .i64 2, .int .i64 2, .int .i64 3, .int .i64 2, .int .i64 20, .int .i64 10, .int .i64 15, .int .i64 60, .int .i64 8, .int .i64 50, .int .i64 1] 61, .blk [.int .i64 100, .int .i64 2, .int .i64 2, .int .i64 3, .int .i64 2, .int .i64 20, .int .i64 10, .int .i64 15, .int .i64 60, .int .i64 8, .int .i64 50, .int .i64 1] 61, .blk [.int .i64 5, .int .i64 0, .int .i64 0, .int .i64 1, .int .i64 0, .int .i64 0, .int .i64 0, .int .i64 0, .int .i64 3, .int .i64 0, .int .i64 0, .int .i64 0, .int .i64 4, .int .i64 0, .int .i64 0, .int .i64 0, .int .i64 9, .int .i64 0, .int .i64 9, .int .i64 0, .int .i64 0, .int .i64 0, .int .i64 0, .int .i64 0, .int .i64 2, .int .i64 1, .int .i64 0, .int .i64 0, .int .i64 0, .int .i64 0, .int .i64 0, .int .i64 10, .int .i64 2, .int .i64 1, .int .i64 0, .int .i64 0, .int .i64 0, .int .i64 0, .int .i64 0, .int .i64 10] 73, .row 9 [.int .i64 0, .int .i64 5, .int .i64 6, .int .i64 50, .int .i64 0, .int .i64 0, .int .i64 0, .int .i64 4, .int .i64 0, .int .i64 1, .int .i64 7, .int .i64 8, .int .i64 60, .int .i64 0, .int .i64 2, .int .i64 30, .int .i64 0, .int .i64 0] 81, .row 4 [.int .i64 0, .int .i64 0, .int .i64 1, .int .i64 0] 86,
  .row 3 [.bool false, .int .i64 (-1), .int .i64 0, .bool true, .int .i64 0, .int .i64 0, .bool false, .int .i64 (-1), .int .i64 0] 90, .row 1 [.int .i64 9] 3]
theorem begun5 : checkC E1 f_bastionlaw20_begun [.agg ⟨[.int .i64 100, .int .i64 2, .int .i64 2, .int .i64 3, .int .i64 2, .int .i64 20, .int .i64 10, .int .i64 15, .int .i64 60, .int .i64 8, .int .i64 50, .int .i64 1]⟩, .slice (some ⟨2, 0, none⟩) 5 5] [.blk [.int .i64 100, .int .i64 2, .int .i64 2, .int .i64 3, .int .i64 2, .int .i64 20, .int .i64 10, .int .i64 15, .int .i64 60, .int .i64 8, .int .i64 50, .int .i64 1] 61, .blk [.int .i64 100, .int .i64 2, .int .i64 2, .int .i64 3, .int .i64 2, .int .i64 20, .int .i64 10, .int .i64 15, .int .i64 60, .int .i64 8, .int .i64 50, .int .i64 1] 61, .blk [.int .i64 5, .int .i64 0, .int .i64 0, .int .i64 1, .int .i64 0, .int .i64 0, .int .i64 0, .int .i64 0, .int .i64 3, .int .i64 0, .int .i64 0, .int .i64 0, .int .i64 4, .int .i64 0, .int .i64 0, .int .i64 0, .int .i64 9, .int .i64 0, .int .i64 9, .int .i64 0, .int .i64 0, .int .i64 0, .int .i64 0, .int .i64 0, .int .i64 2, .int .i64 1, .int .i64 0, .int .i64 0, .int .i64 0, .int .i64 0, .int .i64 0, .int .i64 10, .int .i64 2, .int .i64 1, .int .i64 0, .int .i64 0, .int .i64 0, .int .i64 0, .int .i64 0, .int .i64 10] 73] [0, 1, 2, 206, 208, 210, 212] stV5 stH5 = true := by kernel_rfl

def badV : Value := .tuple ⟨[.agg ⟨[.int .i64 0, .int .i64 0, .int .i64 0, .slice none 0 0, .slice none 0 0, .slice none 0 0, .slice none 0 0]⟩, .int .i64 2001]⟩

theorem u64_tmod15 (b : Int) : ∃ k : Nat, k < 15 ∧ (IntKind.u64.wrap b).tmod 15 = (k : Int) := by
  have h0 : 0 ≤ IntKind.u64.wrap b := by
    unfold IntKind.wrap
    simp [IntKind.signed, IntKind.bits]; omega
  rw [Int.tmod_eq_emod_of_nonneg h0]
  exact ⟨(IntKind.u64.wrap b % 15).toNat, by omega, by omega⟩
theorem mask_low (x : Int) (k m : Nat) (hm : m = 2 ^ k - 1) (hk : k ≤ 30) : ∃ r : Nat, r ≤ m ∧ iand .i64 x (m : Int) = (r : Int) := by
  have h2 : (2 : Nat) ^ k ≤ 1073741824 := by
    have := Nat.pow_le_pow_right (n := 2) (by omega) hk
    omega
  have hp : 0 < (2 : Nat) ^ k := Nat.pow_pos (by omega)
  have hlt := Nat.mod_lt (BitVec.ofInt 64 x).toNat hp
  refine ⟨(BitVec.ofInt 64 x).toNat % 2 ^ k, by omega, ?_⟩
  unfold iand wrapB
  have h1 : BitVec.ofInt IntKind.i64.bits (m : Int) = BitVec.ofNat 64 (2 ^ k - 1) := by rw [hm]; rfl
  rw [h1]
  show IntKind.i64.wrap (((BitVec.ofInt 64 x &&& BitVec.ofNat 64 (2 ^ k - 1)).toNat : Nat) : Int) = _
  have h3 : (BitVec.ofInt 64 x &&& BitVec.ofNat 64 (2 ^ k - 1)).toNat = (BitVec.ofInt 64 x).toNat % 2 ^ k := by
    rw [BitVec.toNat_and, BitVec.toNat_ofNat, Nat.mod_eq_of_lt (by omega), Nat.and_two_pow_sub_one_eq_mod]
  rw [h3]
  exact wrap64 (by omega) (by omega)
theorem and3 (x : Int) : ∃ r : Nat, r ≤ 3 ∧ iand .i64 x 3 = (r : Int) := mask_low x 2 3 (by omega) (by omega)


def badL (r : Int) : List Value := [.int .i64 1, .int .i64 0, .int .i64 0, .int .i64 0, .int .i64 1, .int .i64 0, .int .i64 0, .int .i64 0, .int .i64 2, .int .i64 2, .int .i64 0, .int .i64 0, .int .i64 0, .int .i64 0, .int .i64 0, .int .i64 0, .int .i64 2, .int .i64 1, .int .i64 0, .int .i64 0, .int .i64 0, .int .i64 0, .int .i64 0, .int .i64 29, .int .i64 3, .int .i64 3, .int .i64 0, .int .i64 0, .int .i64 9, .int .i64 0, .int .i64 0, .int .i64 0, .int .i64 3, .int .i64 0, .int .i64 0, .int .i64 0, .int .i64 4, .int .i64 0, .int .i64 0, .int .i64 0, .int .i64 3, .int .i64 0, .int .i64 0, .int .i64 0, .int .i64 r, .int .i64 0, .int .i64 0, .int .i64 0, .int .i64 4, .int .i64 2, .int .i64 0, .int .i64 0, .int .i64 0, .int .i64 0, .int .i64 0, .int .i64 0, .int .i64 5, .int .i64 0, .int .i64 2, .int .i64 2, .int .i64 0, .int .i64 0, .int .i64 0, .int .i64 0, .int .i64 5, .int .i64 0, .int .i64 0, .int .i64 2, .int .i64 0, .int .i64 0, .int .i64 0, .int .i64 0, .int .i64 5, .int .i64 3, .int .i64 1, .int .i64 2, .int .i64 0, .int .i64 0, .int .i64 0, .int .i64 0, .int .i64 5, .int .i64 0, .int .i64 1, .int .i64 1, .int .i64 0, .int .i64 0, .int .i64 0, .int .i64 0, .int .i64 5, .int .i64 0, .int .i64 1, .int .i64 3, .int .i64 0, .int .i64 0, .int .i64 0, .int .i64 0, .int .i64 6, .int .i64 0, .int .i64 1, .int .i64 0, .int .i64 0, .int .i64 0, .int .i64 0, .int .i64 0, .int .i64 7, .int .i64 7, .int .i64 0, .int .i64 0, .int .i64 0, .int .i64 0, .int .i64 0, .int .i64 0, .int .i64 9, .int .i64 0, .int .i64 9, .int .i64 0, .int .i64 0, .int .i64 0, .int .i64 0, .int .i64 0]
def badH (r : Int) : AHeap := [.blk [.int .i64 100, .int .i64 2, .int .i64 2, .int .i64 3, .int .i64 2, .int .i64 20, .int .i64 10, .int .i64 15, .int .i64 60, .int .i64 8, .int .i64 50, .int .i64 1] 61, .blk [.int .i64 100, .int .i64 2, .int .i64 2, .int .i64 3, .int .i64 2, .int .i64 20, .int .i64 10, .int .i64 15, .int .i64 60, .int .i64 8, .int .i64 50, .int .i64 1] 61, .blk [.int .i64 5, .int .i64 0, .int .i64 0, .int .i64 1, .int .i64 0, .int .i64 0, .int .i64 0, .int .i64 0, .int .i64 3, .int .i64 0, .int .i64 0, .int .i64 0, .int .i64 4, .int .i64 0, .int .i64 0, .int .i64 0, .int .i64 9, .int .i64 0, .int .i64 9, .int .i64 0, .int .i64 0, .int .i64 0, .int .i64 0, .int .i64 0, .int .i64 2, .int .i64 1, .int .i64 0, .int .i64 0, .int .i64 0, .int .i64 0, .int .i64 0, .int .i64 10, .int .i64 2, .int .i64 1, .int .i64 0, .int .i64 0, .int .i64 0, .int .i64 0, .int .i64 0, .int .i64 10] 73, .row 9 [.int .i64 0, .int .i64 5, .int .i64 6, .int .i64 50, .int .i64 0, .int .i64 0, .int .i64 0, .int .i64 4, .int .i64 0, .int .i64 1, .int .i64 7, .int .i64 8, .int .i64 60, .int .i64 0, .int .i64 2, .int .i64 30, .int .i64 0, .int .i64 0] 81, .row 4 [.int .i64 0, .int .i64 0, .int .i64 1, .int .i64 0] 86,
  .row 3 [.bool false, .int .i64 (-1), .int .i64 0, .bool true, .int .i64 0, .int .i64 0, .bool false, .int .i64 (-1), .int .i64 0] 90, .row 1 [.int .i64 9] 3, .blk [.int .i64 1, .int .i64 0, .int .i64 1, .slice (some ⟨3, 0, none⟩) 2 HID, .slice (some ⟨4, 0, none⟩) 1 HID, .slice (some ⟨5, 0, none⟩) 3 HID, .slice (some ⟨6, 0, none⟩) 1 HID] 67, .blk (badL r) 73]
def badA (k : Nat) (r : Int) : Bool := checkC E1 f_state_Apply [.agg ⟨[.int .i64 100, .int .i64 2, .int .i64 2, .int .i64 3, .int .i64 2, .int .i64 20, .int .i64 10, .int .i64 15, .int .i64 60, .int .i64 8, .int .i64 50, .int .i64 1]⟩, .agg ⟨[.int .i64 1, .int .i64 0, .int .i64 1, .slice (some ⟨3, 0, none⟩) 2 HID, .slice (some ⟨4, 0, none⟩) 1 HID, .slice (some ⟨5, 0, none⟩) 3 HID, .slice (some ⟨6, 0, none⟩) 1 HID]⟩, .agg ⟨((badL r).drop (k * 8)).take 8⟩] (badH r) (List.range (badH r).length) badV (badH r)
theorem bad0 : (List.range 15).all (fun k => badA k 0) = true := by kernel_rfl
theorem bad1 : (List.range 15).all (fun k => badA k 1) = true := by kernel_rfl
theorem bad2 : (List.range 15).all (fun k => badA k 2) = true := by kernel_rfl
theorem bad3 : (List.range 15).all (fun k => badA k 3) = true := by kernel_rfl
theorem badAll (k r : Nat) (hk : k < 15) (hr : r ≤ 3) : badA k r = true := by
  have hr4 : r = 0 ∨ r = 1 ∨ r = 2 ∨ r = 3 := by omega
  rcases hr4 with rfl | rfl | rfl | rfl
  · exact List.all_eq_true.1 bad0 k (List.mem_range.2 hk)
  · exact List.all_eq_true.1 bad1 k (List.mem_range.2 hk)
  · exact List.all_eq_true.1 bad2 k (List.mem_range.2 hk)
  · exact List.all_eq_true.1 bad3 k (List.mem_range.2 hk)
end Go.Abs
