/-
  LinkScript's plain law, first part: the two checks of a message agree; what is written as bytes is read again, and nothing else is.
-/
import Derived.Test.YtjkapifbinmjhaaG6
namespace Go.Proofs.Ytjkapifbinmjhaa
open Go.Vx
set_option linter.unusedVariables false
set_option linter.unusedSimpArgs false

theorem fit_none_eq (m : Msg) : fit_none m = decide (m.cls.toInt = 0 ∧ (m.high.toNat : Int) = 0 ∧ m.bank.toInt = 0 ∧ m.place.toInt = 0 ∧ (m.value.toNat : Int) = 0) := by
  rw [Bool.eq_iff_iff]; simp [fit_none]
theorem chk_eq (m : Msg) : rchk m = chk m := by
  unfold rchk chk rchk_j1 rchk_j2 fit_out fit_in fit_screen fit_none fit_reply
  by_cases h1 : m.kind.toInt = 1
  · rw [h1]; simp; repeat' split
    all_goals (try omega)
    all_goals simp_all
    all_goals (try omega)
  by_cases h2 : m.kind.toInt = 2
  · rw [h2]; simp; repeat' split
    all_goals (try omega)
    all_goals simp_all
    all_goals (try omega)
  by_cases h3 : m.kind.toInt = 3
  · rw [h3]; simp; repeat' split
    all_goals (try omega)
    all_goals simp_all
    all_goals (try omega)
  by_cases h4 : m.kind.toInt = 4
  · rw [h4]; simp; repeat' split
    all_goals (try omega)
    all_goals simp_all
    all_goals (try omega)
  by_cases h5 : m.kind.toInt = 5
  · rw [h5]; simp; repeat' split
    all_goals (try omega)
    all_goals simp_all
    all_goals (try omega)
  by_cases h6 : m.kind.toInt = 6
  · rw [h6]; simp; repeat' split
    all_goals (try omega)
    all_goals simp_all
    all_goals (try omega)
  · simp [h1, h2, h3, h4, h5, h6]
    repeat' split
    all_goals (try omega)
end Go.Proofs.Ytjkapifbinmjhaa
