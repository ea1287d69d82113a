/-
  The document's answer reads what may be, and nothing else; both read the same.
-/
import Derived.Test.YtjkapifbinmjhaaL5
namespace Go.Proofs.Ytjkapifbinmjhaa
open Go.Vx
set_option linter.unusedVariables false
set_option linter.unusedSimpArgs false

theorem rread_l2_not (x40 x54 : Int) : ∀ (k : Nat) (s7 s8 : Int) (acc : List Msg) (l : List UInt8) (e : Int) (q : Int × List Msg × Int × Bool),
    (x54 - s8).toNat < k → rread_l2 x40 x54 k s7 s8 acc l e ≠ .inl (.inl q) := by
  intro k
  induction k with
  | zero => intro s7 s8 acc l e q hk; omega
  | succ k ih =>
    intro s7 s8 acc l e q hk h
    rw [rread_l2] at h
    split at h
    · rcases hb : rblk l e with ⟨p, l2, e2⟩; rw [hb] at h; dsimp only at h
      rcases hm : rmsg p with ⟨m, d⟩; rw [hm] at h; dsimp only at h
      rcases hj : rread_j3 x40 x54 e2 m d s7 s8 with o | u
      · rw [hj] at h; dsimp only at h
        simp only [Sum.inl.injEq] at h
        subst h
        unfold rread_j3 at hj
        repeat' split at hj
        all_goals cases hj
      · rw [hj] at h; dsimp only at h
        exact ih _ _ _ _ _ _ (by omega) h
    · cases h
theorem rread_j4_not {x24 x40 x54 s7 : Int} {acc : List Msg} {l : List UInt8} {e : Int} {q : Int × List Msg × Int × Bool} : rread_j4 x24 x40 x54 s7 acc l e ≠ .inl (.inl q) := by
  unfold rread_j4
  dsimp only
  repeat' split
  all_goals simp
theorem rread_enc {mo mk : Int} {en : Bool} {ml : List Msg} (v : V mo mk en ml) : rread (enc mo mk en ml) = .inl (mo, ml, mk, en) := by
  obtain ⟨a, b, c, d, f, t, e, hr, hl⟩ := v
  have hen : ((if en = true then 1 else 0 : Nat) : Int) ≤ 1 := by cases en <;> simp
  have hen1 : ((if en = true then 1 else 0 : Nat) : Int) = 1 ↔ en = true := by cases en <;> simp
  unfold rread
  simp only [rcnt_eq]
  have e0 : cnt (enc mo mk en ml) 0 4096 = ((mo.toNat : Int), num mk.toNat ++ (num (if en = true then 1 else 0) ++ (num ml.length ++ flat ml)), 0) := by
    rw [enc]; exact cnt_num _ (by omega) (by omega)
  rw [e0]; dsimp only
  rw [cnt_num _ (by omega) (by omega)]; dsimp only
  rw [cnt_num _ (by omega) (by omega)]; dsimp only
  rw [cnt_num _ (by omega) (by omega)]; dsimp only
  rw [if_neg (by simp), if_neg (by omega), if_neg (by omega)]
  unfold rread_j1
  have he : e = true → ((if en = true then 1 else 0 : Nat) : Int) = 1 := by
    intro he
    have hne : ml ≠ [] := by intro h0; subst h0; simp only [run, Option.some.injEq, Prod.mk.injEq] at hr; rw [he] at hr; cases hr.2
    have h2 := (hl hne).2
    rw [hen1, ← h2]; exact he
  have h9 := rread_l2_enc ((if en = true then 1 else 0 : Nat) : Int) (ml.length : Int) [] ml (((ml.length : Int) - 0).toNat + 1) 0 0 [] t e (by omega) (by omega) hr he
  rw [List.append_nil] at h9
  rw [h9]
  dsimp only
  rw [List.nil_append]
  have hj4 : rread_j4 ((mk.toNat : Nat) : Int) ((if en = true then 1 else 0 : Nat) : Int) (ml.length : Int) t ml [] 0 = .inr 0 := by
    unfold rread_j4
    rw [rrend_eq, show rend [] 0 = 0 from rfl]
    dsimp only
    rw [if_neg (by simp)]
    split
    · rename_i hp
      have hne : ml ≠ [] := by intro h0; rw [h0] at hp; simp at hp
      obtain ⟨rfl, rfl⟩ := hl hne
      rw [if_neg (by omega)]
      have hx : ∀ (l : List Msg) (t0 : Int) (e0 : Bool) (t1 : Int) (e1 : Bool), l ≠ [] → run t0 e0 l = some (t1, e1) → e1 = ((l.getD (l.length - 1) Msg.zero).kind.toInt == 5) := by
        intro l
        induction l with
        | nil => intro _ _ _ _ h; exact absurd rfl h
        | cons m l ih =>
          intro t0 e0 t1 e1 _ h
          simp only [run] at h
          split at h
          · cases l with
            | nil => simp only [run, Option.some.injEq, Prod.mk.injEq] at h; rw [← h.2]; rfl
            | cons y l => have := ih _ _ _ _ (by simp) h; rw [this]; rfl
          · cases h
      have hk := hx ml 0 false t e hne hr
      rw [show ((ml.length : Int) - 1).toNat = ml.length - 1 by omega]
      cases e
      · simp only [Bool.false_eq_true, if_false]
        have : ¬ (ml.getD (ml.length - 1) Msg.zero).kind.toInt = 5 := by intro h5; rw [h5] at hk; cases hk
        rw [if_neg this, if_neg (by simp)]
      · simp only [if_true]
        have : (ml.getD (ml.length - 1) Msg.zero).kind.toInt = 5 := by simpa using hk.symm
        rw [if_pos this, if_pos (by simp)]
    · rfl
  rw [hj4]
  dsimp only
  have hx : (((if en = true then 1 else 0 : Nat) : Int) == 1) = en := by cases en <;> rfl
  rw [hx, Int.toNat_of_nonneg c, Int.toNat_of_nonneg (by omega)]
theorem rread_inv {raw : List UInt8} {mo mk : Int} {en : Bool} {ml : List Msg} (h : rread raw = .inl (mo, ml, mk, en)) : raw = enc mo mk en ml ∧ V mo mk en ml := by
  unfold rread at h
  simp only [rcnt_eq] at h
  rcases h1 : cnt raw 0 4096 with ⟨x1, l1, e1⟩; rw [h1] at h; dsimp only at h
  rcases h2 : cnt l1 e1 1099511627776 with ⟨x2, l2, e2⟩; rw [h2] at h; dsimp only at h
  rcases h3 : cnt l2 e2 1 with ⟨x3, l3, e3⟩; rw [h3] at h; dsimp only at h
  rcases h4 : cnt l3 e3 4096 with ⟨x4, l4, e4⟩; rw [h4] at h; dsimp only at h
  split at h
  · cases h
  · rename_i he4
    obtain rfl : e4 = 0 := Decidable.not_not.1 he4
    obtain ⟨rfl, a4, _, b4, rfl⟩ := cnt_inv h4
    obtain ⟨rfl, a3, _, b3, rfl⟩ := cnt_inv h3
    obtain ⟨rfl, a2, _, b2, rfl⟩ := cnt_inv h2
    obtain ⟨_, a1, _, b1, rfl⟩ := cnt_inv h1
    split at h
    · cases h
    · rename_i hx1
      split at h
      · cases h
      · rename_i hx4
        unfold rread_j1 at h
        rcases h5 : rread_l2 x3 x4 ((x4 - 0).toNat + 1) 0 0 [] l4 0 with o | ⟨t, acc, l', e'⟩
        · rw [h5] at h; dsimp only at h; subst h
          exact absurd h5 (rread_l2_not _ _ _ _ _ _ _ _ _ (by omega))
        · rw [h5] at h; dsimp only at h
          obtain ⟨ms, b, q1, q2, q3, q4, q5⟩ := rread_l2_inv x3 x4 _ _ _ _ _ _ _ _ _ _ (by omega) a4 h5
          rw [List.nil_append] at q1
          subst q1
          rcases h6 : rread_j4 x2 x3 x4 t acc l' e' with o | q
          · rw [h6] at h; dsimp only at h; subst h
            exact absurd h6 rread_j4_not
          · rw [h6] at h
            simp only [Sum.inl.injEq, Prod.mk.injEq] at h
            obtain ⟨rfl, rfl, rfl, rfl⟩ := h
            unfold rread_j4 at h6
            rw [rrend_eq] at h6
            dsimp only at h6
            split at h6
            · cases h6
            · rename_i hz
              obtain ⟨rfl, rfl⟩ := rend_zero.1 (Decidable.not_not.1 hz)
              obtain ⟨_, hl4⟩ := q4 rfl
              rw [List.append_nil] at hl4
              have he : (if (x3 == 1) = true then 1 else 0 : Nat) = x3.toNat := by
                have : x3 = 0 ∨ x3 = 1 := by omega
                rcases this with rfl | rfl <;> rfl
              refine ⟨?_, ⟨by omega, b1, a2, b2, by omega, t, b, q3, ?_⟩⟩
              · unfold enc
                rw [he, ← hl4, show acc.length = x4.toNat by omega]
              · intro hne
                obtain ⟨m, hm, hb⟩ := q5 hne
                have hpos : 0 < acc.length := List.length_pos_iff.2 hne
                rw [if_pos (by omega)] at h6
                have hg : acc.getD ((x4 - 1).toNat) Msg.zero = m := by
                  rw [List.getLast?_eq_getElem?] at hm
                  rw [List.getD_eq_getElem?_getD, show (x4 - 1).toNat = acc.length - 1 by omega, hm]; rfl
                split at h6
                · cases h6
                · rename_i ht
                  refine ⟨Decidable.not_not.1 ht, ?_⟩
                  rw [hg] at h6
                  split at h6
                  · rename_i h5k
                    split at h6
                    · rename_i hx3; rw [hb, h5k, hx3]; rfl
                    · cases h6
                  · rename_i h5k
                    split at h6
                    · cases h6
                    · rename_i hx3
                      rw [hb]
                      rw [show (m.kind.toInt == 5) = false from beq_eq_false_iff_ne.2 h5k, show (x3 == 1) = false from beq_eq_false_iff_ne.2 hx3]
/-- Both read the same. -/
theorem reads_same (raw : List UInt8) : (∃ ring fr ct mk en mo ml mk' en', lread raw = .inl (ring, fr, ct, mk, en) ∧ rread raw = .inl (mo, ml, mk', en') ∧ lbytes ring fr ct mk en = raw) ∨ (lread raw = .inr () ∧ rread raw = .inr ()) := by
  rcases h1 : lread raw with ⟨ring, fr, ct, mk, en⟩ | u
  · left
    obtain ⟨a, b, c⟩ := lread_inv h1
    have := rread_enc b
    rw [← a] at this
    exact ⟨ring, fr, ct, mk, en, _, _, _, _, rfl, this, c⟩
  · rcases h2 : rread raw with ⟨mo, ml, mk, en⟩ | u
    · exfalso
      obtain ⟨a, b⟩ := rread_inv h2
      obtain ⟨ring, hr, _⟩ := lread_enc b
      rw [← a, h1] at hr
      cases hr
    · exact .inr ⟨rfl, rfl⟩
end Go.Proofs.Ytjkapifbinmjhaa
