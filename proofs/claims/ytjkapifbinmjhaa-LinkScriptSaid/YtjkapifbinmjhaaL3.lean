/-
  Counts, blocks, messages as bytes: what is written is read, and what is read was written.
-/
import Derived.Test.YtjkapifbinmjhaaL2
namespace Go.Proofs.Ytjkapifbinmjhaa
open Go.Vx
set_option linter.unusedVariables false
set_option linter.unusedSimpArgs false

theorem rcnt_eq (l : List UInt8) (e most : Int) : rcnt l e most = cnt l e most := by
  unfold rcnt cnt
  generalize rd1 l e = x
  obtain ⟨x1, l4, e5⟩ := x
  by_cases h : e5 = 0 <;> simp [h]
theorem rblk_eq (l : List UInt8) (e : Int) : rblk l e = blk l e := by
  unfold rblk blk
  rcases hx : rd1 l e with ⟨x1, l4, e5⟩
  simp
theorem rrend_eq (l : List UInt8) (e : Int) : rrend l e = rend l e := by
  unfold rrend rend
  by_cases h : e = 0 <;> simp [h]
theorem rend_zero {l : List UInt8} {e : Int} : rend l e = 0 ↔ e = 0 ∧ l = [] := by
  unfold rend
  constructor
  · intro h
    split at h
    · contradiction
    · rename_i he
      split at h
      · cases h
      · rename_i hl
        exact ⟨h, List.length_eq_zero_iff.1 (by omega)⟩
  · rintro ⟨rfl, rfl⟩; simp
theorem cnt_num {n : Nat} (r : List UInt8) {most : Int} (h : (n : Int) ≤ most) (hm : most ≤ 18446744073709551615) : cnt (num n ++ r) 0 most = ((n : Int), r, 0) := by
  unfold cnt
  rw [rd1_num r (by omega)]
  simp only [ne_eq, not_true_eq_false, if_false]
  rw [if_neg (by omega)]
theorem cnt_inv {l r : List UInt8} {e x most : Int} (h : cnt l e most = (x, r, 0)) : e = 0 ∧ 0 ≤ x ∧ x ≤ 18446744073709551615 ∧ x ≤ most ∧ l = num x.toNat ++ r := by
  unfold cnt at h
  rcases hx : rd1 l e with ⟨x1, l4, e5⟩
  rw [hx] at h
  simp only at h
  split at h
  · rename_i h1; simp only [Prod.mk.injEq] at h; exact absurd h.2.2 h1
  · rename_i h1
    split at h
    · simp at h
    · rename_i h2
      simp only [Prod.mk.injEq] at h
      obtain ⟨rfl, rfl, rfl⟩ := h
      obtain ⟨a, b, c, d⟩ := rd1_inv hx
      exact ⟨a, b, c, by omega, d⟩
/-- An error stays. -/
theorem rd1_err {l : List UInt8} {e : Int} (h : e ≠ 0) : rd1 l e = (0, l, e) := rd1_dead h
theorem cnt_err {l : List UInt8} {e most : Int} (h : e ≠ 0) : cnt l e most = (0, l, e) := by
  unfold cnt; rw [rd1_dead h]; simp [h]
theorem blk_err {l : List UInt8} {e : Int} (h : e ≠ 0) : blk l e = ([], l, e) := by
  unfold blk; rw [rd1_dead h]; simp [h]
theorem blk_num {p : List UInt8} (r : List UInt8) (h : p.length ≤ 1048576) : blk (num p.length ++ (p ++ r)) 0 = (p, r, 0) := by
  unfold blk
  rw [rd1_num _ (by omega)]
  simp only [ne_eq, not_true_eq_false, if_false]
  rw [if_neg (by omega), if_neg (by simp only [List.length_append]; omega)]
  simp
theorem blk_inv {l p r : List UInt8} {e : Int} (h : blk l e = (p, r, 0)) : e = 0 ∧ p.length ≤ 1048576 ∧ l = num p.length ++ (p ++ r) := by
  unfold blk at h
  rcases hx : rd1 l e with ⟨x1, l4, e5⟩
  rw [hx] at h
  simp only at h
  split at h
  · rename_i h1; simp only [Prod.mk.injEq] at h; exact absurd h.2.2 h1
  · rename_i h1
    split at h
    · simp at h
    · rename_i h2
      split at h
      · simp at h
      · rename_i h3
        simp only [Prod.mk.injEq, List.nil_append] at h
        obtain ⟨rfl, rfl, rfl⟩ := h
        obtain ⟨a, b, c, d⟩ := rd1_inv hx
        have hl : (l4.take x1.toNat).length = x1.toNat := by rw [List.length_take]; omega
        refine ⟨a, by rw [hl]; omega, ?_⟩
        rw [hl, List.take_append_drop]; exact d
/-- A failed block is empty. -/
theorem blk_bad {l p r : List UInt8} {e e' : Int} (h : blk l e = (p, r, e')) (he : e' ≠ 0) : p = [] := by
  unfold blk at h
  rcases hx : rd1 l e with ⟨x1, l4, e5⟩
  rw [hx] at h
  simp only at h
  repeat' split at h
  all_goals simp only [Prod.mk.injEq] at h
  all_goals first | exact h.1.symm | (exfalso; obtain ⟨_, _, rfl⟩ := h; contradiction)

/-- A message's bytes. -/
def mb (m : Msg) : List UInt8 := (mbytes m).1
theorem wu64' {n : Int} (h1 : 0 ≤ n) (h2 : n ≤ 9223372036854775807) : IntKind.wrap .u64 n = n := wu64 h1 (by omega)
theorem fit_none_r {m : Msg} (h : fit_none m = true) : m.cls.toInt = 0 ∧ m.bank.toInt = 0 ∧ m.place.toInt = 0 := by
  simp [fit_none] at h; omega
theorem fit_reply_r {m : Msg} (h : fit_reply m = true) : m.cls.toInt = 0 ∧ m.bank.toInt = 0 ∧ m.place.toInt = 0 := by
  simp [fit_reply] at h; omega
theorem fit_out_r {m : Msg} (h : fit_out m = true) : 1 ≤ m.cls.toInt ∧ m.cls.toInt ≤ 7 ∧ m.bank.toInt = 0 ∧ m.place.toInt = 0 := by
  unfold fit_out at h
  repeat' split at h
  all_goals simp at h
  omega
theorem fit_in_r {m : Msg} (h : fit_in m = true) : 1 ≤ m.cls.toInt ∧ m.cls.toInt ≤ 8 ∧ m.bank.toInt = 0 ∧ m.place.toInt = 0 := by
  unfold fit_in at h
  repeat' split at h
  all_goals simp at h
  omega
theorem fit_screen_r {m : Msg} (h : fit_screen m = true) : (m.bank.toInt = 5 ∨ m.bank.toInt = 7) ∧ 0 ≤ m.place.toInt ∧ m.place.toInt < 16384 ∧ m.cls.toInt = 0 := by
  unfold fit_screen at h
  repeat' split at h
  all_goals simp at h
  all_goals omega
theorem chk_range {m : Msg} (h : chk m = 0) : 1 ≤ m.kind.toInt ∧ m.kind.toInt ≤ 6 ∧ 0 ≤ m.time.toInt ∧ m.time.toInt ≤ 1099511627776 ∧ 0 ≤ m.cls.toInt ∧ m.cls.toInt ≤ 8 ∧ 0 ≤ m.bank.toInt ∧ m.bank.toInt ≤ 7 ∧ 0 ≤ m.place.toInt ∧ m.place.toInt < 16384 := by
  unfold chk at h
  dsimp only at h
  repeat' split at h
  all_goals (first | (exfalso; revert h; decide) | skip)
  all_goals rename_i hf
  all_goals first | have := fit_out_r hf | have := fit_in_r hf | have := fit_screen_r hf | have := fit_none_r hf | have := fit_reply_r hf
  all_goals omega
theorem mb_eq {m : Msg} (h : chk m = 0) : mb m = num m.kind.toInt.toNat ++ (num m.time.toInt.toNat ++ (num m.cls.toInt.toNat ++ (num m.high.toNat ++ (num m.bank.toInt.toNat ++ (num m.place.toInt.toNat ++ (num m.value.toNat ++ [])))))) := by
  obtain ⟨a, b, c, d, e, f, g, i, j, k⟩ := chk_range h
  have hh := m.high.toNat_lt
  have hv := m.value.toNat_lt
  unfold mb mbytes
  rw [h]
  simp only [ne_eq, not_true_eq_false, if_false, nums, List.flatMap_cons, List.flatMap_nil]
  rw [wu64' (by omega) (by omega), wu64' (by omega) (by omega), wu64' (by omega) (by omega), i64_val (by omega) (by omega), wu64' (by omega) (by omega), wu64' (by omega) (by omega), wu64' (by omega) (by omega), i64_val (by omega) (by omega), wu64' (by omega) (by omega)]
  rfl
theorem mb_len (m : Msg) : (mb m).length ≤ 63 := by
  unfold mb mbytes
  dsimp only
  split
  · simp
  · have := nums_len [m.kind, m.time, m.cls, Int64.ofInt (m.high.toNat : Int), m.bank, m.place, Int64.ofInt (m.value.toNat : Int)]
    simp only [List.length_cons, List.length_nil] at this
    omega
theorem rmbytes_eq (m : Msg) : rmbytes m = mbytes m := by
  unfold rmbytes
  rw [chk_eq]
  by_cases h : chk m = 0
  · have hm := mb_eq h
    obtain ⟨a, b, c, d, e, f, g, i, j, k⟩ := chk_range h
    have h2 : mbytes m = (mb m, 0) := by unfold mb mbytes; simp [h]
    rw [h2, hm]
    simp only [h, ne_eq, not_true_eq_false, if_false]
    rw [wu64' (by omega) (by omega), wu64' (by omega) (by omega), wu64' (by omega) (by omega), wu64' (by omega) (by omega), wu64' (by omega) (by omega)]
    simp
  · have h2 : chk m = 2 := by
      unfold chk at h ⊢
      repeat' split at h
      all_goals simp_all
    unfold mbytes
    simp [h2]
theorem of_eq {m : Msg} : Msg.of m.kind.toInt m.time.toInt m.cls.toInt (m.high.toNat : Int) m.bank.toInt m.place.toInt (m.value.toNat : Int) = m := by
  unfold Msg.of
  simp [u8]
theorem msg1_mb {m : Msg} (h : chk m = 0) : msg1 (mb m) = (m, true) := by
  obtain ⟨a, b, c, d, e, f, g, i, j, k⟩ := chk_range h
  have hh := m.high.toNat_lt
  have hv := m.value.toNat_lt
  rw [mb_eq h]
  unfold msg1
  rw [rd1_num _ (by omega)]; dsimp only; rw [if_neg (by omega)]
  rw [rd1_num _ (by omega)]; dsimp only; rw [if_neg (by omega)]
  rw [rd1_num _ (by omega)]; dsimp only; rw [if_neg (by omega)]
  rw [rd1_num _ (by omega)]; dsimp only; rw [if_neg (by omega)]
  rw [rd1_num _ (by omega)]; dsimp only; rw [if_neg (by omega)]
  rw [rd1_num _ (by omega)]; dsimp only; rw [if_neg (by omega)]
  rw [rd1_num _ (by omega)]; dsimp only; rw [if_neg (by omega)]
  rw [show rend [] 0 = 0 from rfl]
  (try dsimp only)
  rw [if_pos rfl, Int.toNat_of_nonneg (by omega), Int.toNat_of_nonneg (by omega), Int.toNat_of_nonneg (by omega), Int.toNat_of_nonneg (by omega), Int.toNat_of_nonneg (by omega), of_eq, h]
  rfl
theorem rmsg_mb {m : Msg} (h : chk m = 0) : rmsg (mb m) = (m, true) := by
  obtain ⟨a, b, c, d, e, f, g, i, j, k⟩ := chk_range h
  have hh := m.high.toNat_lt
  have hv := m.value.toNat_lt
  rw [mb_eq h]
  unfold rmsg
  simp only [rcnt_eq, rrend_eq, chk_eq]
  rw [cnt_num _ (by omega) (by omega)]; dsimp only
  rw [cnt_num _ (by omega) (by omega)]; dsimp only
  rw [cnt_num _ (by omega) (by omega)]; dsimp only
  rw [cnt_num _ (by omega) (by omega)]; dsimp only
  rw [cnt_num _ (by omega) (by omega)]; dsimp only
  rw [cnt_num _ (by omega) (by omega)]; dsimp only
  rw [cnt_num _ (by omega) (by omega)]; dsimp only
  rw [show rend [] 0 = 0 from rfl]
  (try dsimp only)
  rw [if_pos rfl, Int.toNat_of_nonneg (by omega), Int.toNat_of_nonneg (by omega), Int.toNat_of_nonneg (by omega), Int.toNat_of_nonneg (by omega), Int.toNat_of_nonneg (by omega), wu8 (by omega) (by omega), wu8 (by omega) (by omega), of_eq, h]
  rfl
/-- What is read as a message that may be was written as one. -/
theorem rmsg_inv {p : List UInt8} {m : Msg} (h : rmsg p = (m, true)) : chk m = 0 ∧ p = mb m := by
  unfold rmsg at h
  simp only [rcnt_eq, rrend_eq, chk_eq] at h
  rcases h1 : cnt p 0 9 with ⟨x1, l1, e1⟩; rw [h1] at h; dsimp only at h
  rcases h2 : cnt l1 e1 1099511627776 with ⟨x2, l2, e2⟩; rw [h2] at h; dsimp only at h
  rcases h3 : cnt l2 e2 9 with ⟨x3, l3, e3⟩; rw [h3] at h; dsimp only at h
  rcases h4 : cnt l3 e3 255 with ⟨x4, l4, e4⟩; rw [h4] at h; dsimp only at h
  rcases h5 : cnt l4 e4 9 with ⟨x5, l5, e5⟩; rw [h5] at h; dsimp only at h
  rcases h6 : cnt l5 e5 16384 with ⟨x6, l6, e6⟩; rw [h6] at h; dsimp only at h
  rcases h7 : cnt l6 e6 255 with ⟨x7, l7, e7⟩; rw [h7] at h; dsimp only at h
  split at h
  · rename_i h8
    obtain ⟨rfl, rfl⟩ := rend_zero.1 h8
    obtain ⟨rfl, a7, _, b7, rfl⟩ := cnt_inv h7
    obtain ⟨rfl, a6, _, b6, rfl⟩ := cnt_inv h6
    obtain ⟨rfl, a5, _, b5, rfl⟩ := cnt_inv h5
    obtain ⟨rfl, a4, _, b4, rfl⟩ := cnt_inv h4
    obtain ⟨rfl, a3, _, b3, rfl⟩ := cnt_inv h3
    obtain ⟨rfl, a2, _, b2, rfl⟩ := cnt_inv h2
    obtain ⟨_, a1, _, b1, rfl⟩ := cnt_inv h1
    rw [wu8 (by omega) (by omega), wu8 (by omega) (by omega)] at h
    simp only [Prod.mk.injEq, beq_iff_eq] at h
    obtain ⟨rfl, hc⟩ := h
    refine ⟨hc, ?_⟩
    rw [mb_eq hc]
    unfold Msg.of
    dsimp only
    rw [i64_val (by omega) (by omega), i64_val (by omega) (by omega), i64_val (by omega) (by omega), i64_val (by omega) (by omega), i64_val (by omega) (by omega)]
    have e4 : (u8 x4).toNat = x4.toNat := by have := u8_val (e := x4) (by omega) (by omega); omega
    have e7 : (u8 x7).toNat = x7.toNat := by have := u8_val (e := x7) (by omega) (by omega); omega
    rw [e4, e7]
  · simp at h
end Go.Proofs.Ytjkapifbinmjhaa
