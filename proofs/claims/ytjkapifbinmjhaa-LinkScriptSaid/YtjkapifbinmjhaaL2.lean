/-
  Numbers and blocks as bytes: what is written is read, and what is read was written.
-/
import Derived.Test.YtjkapifbinmjhaaL1
namespace Go.Proofs.Ytjkapifbinmjhaa
open Go.Vx
set_option linter.unusedVariables false
set_option linter.unusedSimpArgs false

theorem lev_le (n : Nat) : lev (le n) = n := by
  induction n using Nat.strongRecOn with
  | _ n ih =>
    rcases Nat.eq_zero_or_pos n with rfl | h
    · rw [le_zero]; rfl
    · rw [le_pos h]
      simp only [lev, ih (n / 256) (by omega), UInt8.toNat_ofNat']
      omega
theorem le_last (n : Nat) (h : 0 < n) : ∃ i, i + 1 = (le n).length ∧ ((le n).getD i 0).toNat ≠ 0 := by
  induction n using Nat.strongRecOn with
  | _ n ih =>
    rw [le_pos h]
    rcases Nat.eq_zero_or_pos (n / 256) with h0 | hp
    · refine ⟨0, ?_, ?_⟩
      · rw [h0, le_zero]; rfl
      · simp only [List.getD_cons_zero, UInt8.toNat_ofNat']; omega
    · obtain ⟨i, h1, h2⟩ := ih (n / 256) (by omega) hp
      exact ⟨i + 1, by simp only [List.length_cons]; omega, by simpa using h2⟩
theorem le_lev (b : List UInt8) : (b = [] ∨ ∃ i, i + 1 = b.length ∧ (b.getD i 0).toNat ≠ 0) → le (lev b) = b := by
  induction b with
  | nil => intro _; exact le_zero
  | cons x b ih =>
    intro h
    have hx := x.toNat_lt
    have hb : b = [] ∨ ∃ i, i + 1 = b.length ∧ (b.getD i 0).toNat ≠ 0 := by
      rcases h with h | ⟨i, h1, h2⟩
      · cases h
      · cases b with
        | nil => exact .inl rfl
        | cons y b =>
          right
          obtain ⟨j, rfl⟩ : ∃ j, i = j + 1 := ⟨i - 1, by simp only [List.length_cons] at h1; omega⟩
          exact ⟨j, by simp only [List.length_cons] at h1 ⊢; omega, by simpa using h2⟩
    have he := ih hb
    have hpos : 0 < x.toNat + 256 * lev b := by
      rcases Nat.eq_zero_or_pos (lev b) with h0 | hp
      · rw [h0, le_zero] at he
        subst he
        rcases h with h | ⟨i, h1, h2⟩
        · cases h
        · simp only [List.length_cons, List.length_nil] at h1
          obtain rfl : i = 0 := by omega
          simp only [List.getD_cons_zero] at h2
          omega
      · omega
    simp only [lev]
    rw [le_pos hpos, show (x.toNat + 256 * lev b) / 256 = lev b by omega, he, show (x.toNat + 256 * lev b) % 256 = x.toNat by omega]
    simp

theorem rd1_num {n : Nat} (r : List UInt8) (h : n ≤ 18446744073709551615) : rd1 (num n ++ r) 0 = ((n : Int), r, 0) := by
  unfold num
  split
  · rename_i h1
    simp only [List.singleton_append]
    unfold rd1
    simp only [ne_eq, not_true_eq_false, if_false, List.length_cons, Nat.add_eq_zero_iff, Nat.one_ne_zero, and_false, List.getD_cons_zero, UInt8.toNat_ofNat']
    rw [if_pos (by omega)]
    simp only [List.drop_succ_cons, List.drop_zero]
    congr 1
    omega
  · rename_i h1
    have h8 := le_len8 h
    have h0 := le_ne (x := n) (by omega)
    obtain ⟨i, hi, hl⟩ := le_last n (by omega)
    simp only [List.cons_append]
    unfold rd1
    simp only [ne_eq, not_true_eq_false, if_false, List.length_cons, Nat.add_eq_zero_iff, Nat.one_ne_zero, and_false, List.getD_cons_zero, UInt8.toNat_ofNat', List.length_append]
    rw [if_neg (by omega), if_neg (by omega)]
    have hc : (247 + (le n).length) % 2 ^ 8 - 247 = i + 1 := by omega
    rw [hc]
    simp only [List.drop_succ_cons, List.drop_zero, List.getD_cons_succ]
    have ht : (le n ++ r).take (i + 1) = le n := by rw [hi, List.take_left']; rfl
    have hd : (le n ++ r).drop (i + 1) = r := by rw [hi, List.drop_left']; rfl
    have hg : (le n ++ r).getD i 0 = (le n).getD i 0 := by
      rw [List.getD_eq_getElem?_getD, List.getD_eq_getElem?_getD, List.getElem?_append_left (by omega)]
    rw [ht, lev_le, hg, if_neg (by omega)]
    rw [show 1 + (i + 1) = (i + 1) + 1 by omega, List.drop_succ_cons, hd]
theorem rd1_inv {l r : List UInt8} {e x : Int} (h : rd1 l e = (x, r, 0)) : e = 0 ∧ 0 ≤ x ∧ x ≤ 18446744073709551615 ∧ l = num x.toNat ++ r := by
  have hlo := rd1_lo l e
  rw [h] at hlo
  refine ⟨?_, hlo.1, hlo.2, ?_⟩
  · by_cases he : e = 0
    · exact he
    · rw [rd1_dead he] at h; simp only [Prod.mk.injEq] at h; exact h.2.2
  have he : e = 0 := by
    by_cases he : e = 0
    · exact he
    · rw [rd1_dead he] at h; simp only [Prod.mk.injEq] at h; exact h.2.2
  subst he
  cases l with
  | nil => simp [rd1] at h
  | cons c l =>
    unfold rd1 at h
    simp only [ne_eq, not_true_eq_false, if_false, List.length_cons, Nat.add_eq_zero_iff, Nat.one_ne_zero, and_false, List.getD_cons_zero] at h
    have hc := c.toNat_lt
    split at h
    · rename_i h1
      simp only [Prod.mk.injEq, List.drop_succ_cons, List.drop_zero, and_true] at h
      obtain ⟨rfl, rfl⟩ := h
      rw [num, if_pos (by omega)]
      simp
    · rename_i h1
      split at h
      · simp at h
      · rename_i h2
        split at h
        · simp at h
        · rename_i h3
          simp only [Prod.mk.injEq, and_true] at h
          obtain ⟨hx, hr⟩ := h
          obtain ⟨i, hi⟩ : ∃ i, c.toNat - 247 = i + 1 := ⟨c.toNat - 248, by omega⟩
          rw [hi] at hx hr h3
          simp only [List.drop_succ_cons, List.drop_zero, List.getD_cons_succ] at hx hr h3
          rw [show 1 + (i + 1) = (i + 1) + 1 by omega, List.drop_succ_cons] at hr
          have hn : x.toNat = lev (l.take (i + 1)) := by omega
          have hlen : (l.take (i + 1)).length = i + 1 := by rw [List.length_take]; omega
          have hle : le (lev (l.take (i + 1))) = l.take (i + 1) := le_lev _ (.inr ⟨i, by omega, by
            rw [List.getD_eq_getElem?_getD, List.getElem?_take_of_lt (by omega), ← List.getD_eq_getElem?_getD]
            intro h0; exact h3 (.inl h0)⟩)
          rw [num, if_neg (by omega), hn, hle, hlen, ← hr, List.cons_append, List.take_append_drop, show 247 + (i + 1) = c.toNat by omega]
          simp
end Go.Proofs.Ytjkapifbinmjhaa
