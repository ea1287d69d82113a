/-
  Numbers out of bytes: what a reader does, as a plain function. My own text.
-/
import Derived.Test.YtjkapifbinmjhaaVx9
namespace Go.Vx
def lev : List UInt8 → Nat
  | [] => 0
  | b :: l => b.toNat + 256 * lev l
theorem lev_lt (l : List UInt8) : lev l < 256 ^ l.length := by
  induction l with
  | nil => simp [lev]
  | cons b l ih =>
    have := b.toNat_lt
    simp only [lev, List.length_cons, Nat.pow_succ]
    have h : lev l + 1 ≤ 256 ^ l.length := ih
    have := Nat.mul_le_mul_right 256 h
    omega
theorem bor_add {t y : Int} (h0 : 0 ≤ t) (h1 : t ≤ 72057594037927935) (h2 : 0 ≤ y) (h3 : y ≤ 255) : bor .u64 (t * 256) y = t * 256 + y := by
  obtain ⟨t, rfl⟩ := Int.eq_ofNat_of_zero_le h0
  obtain ⟨y, rfl⟩ := Int.eq_ofNat_of_zero_le h2
  have key : ∀ u v : BitVec 64, u = BitVec.ofNat 64 (t * 256) → v = BitVec.ofNat 64 y → ((u ||| v).toNat : Int) = ((t * 256 + y : Nat) : Int) := by
    intro u v hu hv
    rw [hu, hv, BitVec.toNat_or, BitVec.toNat_ofNat, BitVec.toNat_ofNat, Nat.mod_eq_of_lt (by omega), Nat.mod_eq_of_lt (by omega)]
    have h4 : t * 256 ||| y = t * 256 + y := by
      have := Nat.two_pow_add_eq_or_of_lt (i := 8) (b := y) (by omega) t
      rw [Nat.mul_comm 256 t] at this
      first | exact this.symm | (rw [Nat.mul_comm]; exact this.symm)
    rw [h4]
  have e1 : BitVec.ofInt 64 ((t : Int) * 256) = BitVec.ofNat 64 (t * 256) := by
    rw [show ((t : Int) * 256) = ((t * 256 : Nat) : Int) by simp]; exact BitVec.ofInt_natCast ..
  have e2 : BitVec.ofInt 64 ((y : Int)) = BitVec.ofNat 64 y := BitVec.ofInt_natCast ..
  have := key _ _ e1 e2
  unfold bor
  refine (congrArg (IntKind.wrap .u64) this).trans ?_
  rw [wu64 (by omega) (by omega)]; simp
/-- Reader.Number: what comes, what is left, the error. -/
def rd1 (l : List UInt8) (e : Int) : Int × List UInt8 × Int :=
  if e ≠ 0 then (0, l, e) else
  if l.length = 0 then (0, l, 5) else
  let c := (l.getD 0 0).toNat
  if c ≤ 247 then (c, l.drop 1, 0) else
  if l.length < 1 + (c - 247) then (0, l, 5) else
  let x := lev ((l.drop 1).take (c - 247))
  if (l.getD (c - 247) 0).toNat = 0 ∨ x ≤ 247 then (0, l, 4) else (x, l.drop (1 + (c - 247)), 0)
theorem rd1_len (l : List UInt8) (e : Int) : (rd1 l e).2.1.length ≤ l.length := by
  unfold rd1; dsimp only
  repeat' split
  all_goals simp
theorem rd1_lo (l : List UInt8) (e : Int) : 0 ≤ (rd1 l e).1 ∧ (rd1 l e).1 ≤ 18446744073709551615 := by
  unfold rd1; dsimp only
  repeat' split
  all_goals (try dsimp only)
  all_goals (try omega)
  have h1 := lev_lt ((l.drop 1).take ((l.getD 0 0).toNat - 247))
  have h2 := (l.getD 0 0).toNat_lt
  have h3 : ((l.drop 1).take ((l.getD 0 0).toNat - 247)).length ≤ 8 := by rw [List.length_take]; omega
  have h4 : (256 : Nat) ^ ((l.drop 1).take ((l.getD 0 0).toNat - 247)).length ≤ 256 ^ 8 := Nat.pow_le_pow_right (by omega) h3
  omega
theorem rd1_dead {l : List UInt8} {e : Int} (h : e ≠ 0) : rd1 l e = (0, l, e) := by rw [rd1, if_pos h]
theorem rd1_nil {l : List UInt8} (h : l.length = 0) : rd1 l 0 = (0, l, 5) := by rw [rd1, if_neg (by simp), if_pos h]
theorem rd1_one {l : List UInt8} (h : 0 < l.length) {x : UInt8} (hx : x = l[0]) (hs : x.toNat ≤ 247) : rd1 l 0 = ((x.toNat : Int), l.drop 1, 0) := by
  have : l.getD 0 0 = x := by rw [hx, List.getD_eq_getElem?_getD, List.getElem?_eq_getElem h]; rfl
  rw [rd1, if_neg (by simp), if_neg (by omega)]; simp only [this]; rw [if_pos hs]
theorem rd1_more {l : List UInt8} (h : 0 < l.length) {x : UInt8} (hx : x = l[0]) (hs : ¬ x.toNat ≤ 247) (hm : l.length < 1 + (x.toNat - 247)) : rd1 l 0 = (0, l, 5) := by
  have : l.getD 0 0 = x := by rw [hx, List.getD_eq_getElem?_getD, List.getElem?_eq_getElem h]; rfl
  rw [rd1, if_neg (by simp), if_neg (by omega)]; simp only [this]; rw [if_neg hs, if_pos hm]
theorem rd1_end {l : List UInt8} (h : 0 < l.length) {x y : UInt8} {n v : Nat} (hx : x = l[0]) (hn : x.toNat = n + 247) (hn0 : 0 < n) (hm : n < l.length) (hy : y = l[n]) (hv : v = lev ((l.take (n + 1)).drop 1)) :
    rd1 l 0 = if y.toNat = 0 ∨ v ≤ 247 then (0, l, 4) else ((v : Int), l.drop (1 + n), 0) := by
  have h1 : l.getD 0 0 = x := by rw [hx, List.getD_eq_getElem?_getD, List.getElem?_eq_getElem h]; rfl
  have h2 : l.getD n 0 = y := by rw [hy, List.getD_eq_getElem?_getD, List.getElem?_eq_getElem hm]; rfl
  rw [rd1, if_neg (by simp), if_neg (by omega)]
  simp only [h1]
  rw [if_neg (by omega), if_neg (by omega), show x.toNat - 247 = n by omega, h2, hv]
  rw [show (l.take (n + 1)).drop 1 = (l.drop 1).take n by rw [List.drop_take]; congr 1]
end Go.Vx
