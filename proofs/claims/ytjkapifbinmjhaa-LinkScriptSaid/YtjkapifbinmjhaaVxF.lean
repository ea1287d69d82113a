/-
  Plain functions that walks come to. My own text.
-/
import Derived.Test.YtjkapifbinmjhaaVxT
namespace Go.Vx
open Go.RowKit
instance instSumL {α β : Type} [Inhabited α] : Inhabited (α ⊕ β) := ⟨.inl default⟩
/-- The messages of a ring, n of them from fr on. -/
def allOf (ring : List Msg) (fr : Int) (n : Nat) : List Msg := (List.range n).map fun i => ring.getD ((fr.toNat + i) % ring.length) Msg.zero
theorem allOf_succ (ring : List Msg) (fr : Int) (n : Nat) : allOf ring fr (n + 1) = allOf ring fr n ++ [ring.getD ((fr.toNat + n) % ring.length) Msg.zero] := by simp [allOf, List.range_succ]
theorem allOf_len (ring : List Msg) (fr : Int) (n : Nat) : (allOf ring fr n).length = n := by simp [allOf]
/-- Numbers' bytes, one behind the other. -/
def nums (l : List Int64) : List UInt8 := l.flatMap fun x => num (IntKind.wrap .u64 x.toInt).toNat
theorem wu64_lo (x : Int) : 0 ≤ IntKind.wrap .u64 x ∧ IntKind.wrap .u64 x ≤ 18446744073709551615 := by
  simp only [IntKind.wrap, IntKind.signed, IntKind.bits, Bool.false_and, Bool.false_eq_true, if_false]
  omega
theorem nums_snoc (l : List Int64) (x : Int64) : nums (l ++ [x]) = nums l ++ num (IntKind.wrap .u64 x.toInt).toNat := by simp [nums]
theorem nums_len (l : List Int64) : (nums l).length ≤ 9 * l.length := by
  induction l with
  | nil => simp [nums]
  | cons x l ih =>
    have h1 := num_len (x := (IntKind.wrap .u64 x.toInt).toNat) (by have := wu64_lo x.toInt; omega)
    have h2 : nums (x :: l) = num (IntKind.wrap .u64 x.toInt).toNat ++ nums l := rfl
    rw [h2, List.length_append, List.length_cons]; omega
theorem take_snoc {α : Type} {l : List α} {i : Nat} {x : α} (h : i < l.length) (e : x = l[i]) : l.take (i + 1) = l.take i ++ [x] := by rw [List.take_succ_eq_append_getElem h, e]
theorem mod_nat {a : Int} {n : Nat} (h : 0 ≤ a) : a.toNat % n = (a % (n : Int)).toNat := by
  obtain ⟨k, rfl⟩ := Int.eq_ofNat_of_zero_le h
  have h2 : ((k % n : Nat) : Int) = (k : Int) % (n : Int) := by simp
  rw [Int.toNat_natCast, ← h2, Int.toNat_natCast]
theorem wu8_lo (x : Int) : 0 ≤ IntKind.wrap .u8 x ∧ IntKind.wrap .u8 x ≤ 255 := by rw [wu8m]; omega
theorem wu16_lo (x : Int) : 0 ≤ IntKind.wrap .u16 x ∧ IntKind.wrap .u16 x ≤ 65535 := by
  simp only [IntKind.wrap, IntKind.signed, IntKind.bits, Bool.false_and, Bool.false_eq_true, if_false]
  omega
theorem wu32_lo (x : Int) : 0 ≤ IntKind.wrap .u32 x ∧ IntKind.wrap .u32 x ≤ 4294967295 := by
  simp only [IntKind.wrap, IntKind.signed, IntKind.bits, Bool.false_and, Bool.false_eq_true, if_false]
  omega
theorem wi64_lo (x : Int) : -9223372036854775808 ≤ IntKind.wrap .i64 x ∧ IntKind.wrap .i64 x ≤ 9223372036854775807 := by
  rw [IntKind.wrap_i64]; omega
end Go.Vx
