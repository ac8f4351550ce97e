/- Plain facts on the numbers and the texts that the functions answer. -/
import Derived.Test.YtocpbdnkmlpehaaV3
set_option linter.unusedVariables false
set_option linter.unusedSimpArgs false
set_option linter.unusedSectionVars false
/- Plain facts on the numbers and texts that the functions answer. -/
namespace Go.PL
open Go.VE

theorem wrap_s {x : Int} : IntKind.i64.wrap x = if x % 18446744073709551616 ≥ 9223372036854775808 then x % 18446744073709551616 - 18446744073709551616 else x % 18446744073709551616 := by
  have e1 : (2 : Int) ^ 64 = 18446744073709551616 := by decide
  have e2 : (2 : Int) ^ (64 - 1) = 9223372036854775808 := by decide
  unfold IntKind.wrap
  simp only [IntKind.bits, IntKind.signed, e1, e2, Bool.true_and, decide_eq_true_eq]
theorem wrap_i64 {x : Int} (h : -9223372036854775808 ≤ x) (h' : x < 9223372036854775808) : IntKind.i64.wrap x = x := by
  rw [wrap_s]; split <;> omega
theorem wrap_i64_range (x : Int) : -9223372036854775808 ≤ IntKind.i64.wrap x ∧ IntKind.i64.wrap x < 9223372036854775808 := by
  rw [wrap_s]; split <;> omega
theorem wrap_u8 {x : Int} : IntKind.u8.wrap x = x % 256 := by
  have e1 : (2 : Int) ^ 8 = 256 := by decide
  unfold IntKind.wrap
  simp only [IntKind.bits, IntKind.signed, e1, Bool.false_and, Bool.false_eq_true, if_false]
theorem and255 (x : Int) : 0 ≤ IntKind.i64.wrap ((BitVec.ofInt 64 x &&& BitVec.ofInt 64 255).toNat : Int) ∧ IntKind.i64.wrap ((BitVec.ofInt 64 x &&& BitVec.ofInt 64 255).toNat : Int) ≤ 255 := by
  have h : (BitVec.ofInt 64 x &&& BitVec.ofInt 64 255).toNat ≤ 255 := by
    rw [BitVec.toNat_and]
    have : (BitVec.ofInt 64 255).toNat = 255 := by decide
    rw [this]
    exact Nat.and_le_right
  rw [wrap_i64 (by omega) (by omega)]
  omega

theorem inB_iff {i : Int} {n : Nat} : inB i n = true ↔ 0 ≤ i ∧ i < n := by simp [inB]
theorem inSl_iff {l h : Int} {n : Nat} : inSl l h n = true ↔ 0 ≤ l ∧ l ≤ h ∧ h ≤ n := by simp [inSl]
theorem small_iff {n : Nat} : small n = true ↔ n < 4294967296 := by unfold small lim; rw [Nat.blt_eq]

/-! ### texts as lists of bytes -/
def bl (s : ByteArray) : List UInt8 := s.data.toList
theorem bl_ext {a b : ByteArray} (h : bl a = bl b) : a = b := by
  cases a; cases b; simp only [bl] at h; congr; exact Array.ext' h
theorem bl_len (s : ByteArray) : (bl s).length = s.size := Array.length_toList
theorem bl_append (a b : ByteArray) : bl (a ++ b) = bl a ++ bl b := by unfold bl; rw [ByteArray.data_append]; exact Array.toList_append
theorem bl_extract (a : ByteArray) (i j : Nat) : bl (a.extract i j) = ((bl a).take j).drop i := by
  simp only [bl, ByteArray.data_extract, Array.toList_extract, List.extract_eq_take_drop, List.take_drop]
  rcases Nat.le_total i j with h | h
  · rw [Nat.add_sub_of_le h]
  · rw [List.drop_eq_nil_of_le (by simp; omega), List.drop_eq_nil_of_le (by simp; omega)]
theorem bl_of (xs : List Int) : bl (ofBytes xs) = xs.map fun n => UInt8.ofNat n.toNat := rfl
theorem byteAt_eq {s : ByteArray} {i : Int} : byteAt s i = (((bl s).getD i.toNat 0).toNat : Int) := by
  unfold byteAt bytesOf bl
  simp only [List.getD_eq_getElem?_getD, List.getElem?_map]
  cases s.data.toList[i.toNat]? <;> rfl
end Go.PL
