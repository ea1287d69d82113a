/-
  Numbers as bytes: the plain functions. My own text.
-/
import Derived.Test.YtjkapifbinmjhaaVx7
namespace Go.Vx

/-- A number's bytes, the lowest first, none for 0. -/
def le (x : Nat) : List UInt8 := if h : x = 0 then [] else UInt8.ofNat (x % 256) :: le (x / 256)
termination_by x
decreasing_by omega
theorem le_zero : le 0 = [] := by rw [le]; simp
theorem le_pos {x : Nat} (h : 0 < x) : le x = UInt8.ofNat (x % 256) :: le (x / 256) := by rw [le, dif_neg (by omega)]
theorem le_len (k : Nat) : ∀ x, x < 256 ^ k → (le x).length ≤ k := by
  induction k with
  | zero => intro x h; have : x = 0 := by simpa using h
            subst this; simp [le_zero]
  | succ k ih =>
    intro x h
    rcases Nat.eq_zero_or_pos x with rfl | hp
    · simp [le_zero]
    · rw [le_pos hp]
      have := ih (x / 256) (by rw [Nat.pow_succ] at h; exact Nat.div_lt_of_lt_mul (by rw [Nat.mul_comm]; exact h))
      simp only [List.length_cons]; omega
theorem le_len8 {x : Nat} (h : x ≤ 18446744073709551615) : (le x).length ≤ 8 := le_len 8 x (by omega)
theorem le_ne {x : Nat} (h : 0 < x) : 0 < (le x).length := by rw [le_pos h]; simp
/-- Number's bytes (P1.1). -/
def num (x : Nat) : List UInt8 := if x ≤ 247 then [UInt8.ofNat x] else UInt8.ofNat (247 + (le x).length) :: le x
theorem num_len {x : Nat} (h : x ≤ 18446744073709551615) : (num x).length ≤ 9 := by
  unfold num
  split
  · simp
  · have := le_len8 h; simp only [List.length_cons]; omega
def bor (k : IntKind) (a b : Int) : Int := IntKind.wrap k ((BitVec.ofInt k.bits a ||| BitVec.ofInt k.bits b).toNat : Int)
def band (k : IntKind) (a b : Int) : Int := IntKind.wrap k ((BitVec.ofInt k.bits a &&& BitVec.ofInt k.bits b).toNat : Int)
def bxor (k : IntKind) (a b : Int) : Int := IntKind.wrap k ((BitVec.ofInt k.bits a ^^^ BitVec.ofInt k.bits b).toNat : Int)
def bnot (k : IntKind) (a b : Int) : Int := IntKind.wrap k ((BitVec.ofInt k.bits a &&& ~~~ BitVec.ofInt k.bits b).toNat : Int)
def shl (k : IntKind) (a : Int) (n : Nat) : Int := IntKind.wrap k (a * 2 ^ n)
theorem u8_nat (x : Nat) : u8 (x : Int) = UInt8.ofNat x := by simp [u8]
theorem u8_of {x : Int} (h : 0 ≤ x) : u8 x = UInt8.ofNat x.toNat := rfl
theorem u8_wrap {x : Int} (h : 0 ≤ x) : u8 (IntKind.wrap .u8 x) = UInt8.ofNat (x.toNat % 256) := by
  rw [wu8m, u8]
  congr 1; omega
theorem u8_wr_lo (x : Int) : 0 ≤ IntKind.wrap .u8 x := by rw [wu8m]; omega
theorem u8_wr_hi (x : Int) : IntKind.wrap .u8 x ≤ 255 := by rw [wu8m]; omega
end Go.Vx
