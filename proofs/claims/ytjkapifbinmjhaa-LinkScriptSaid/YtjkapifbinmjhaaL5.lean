/-
  What is read as a link was told as one, and what is told is read: by the program and by the document's answer.
-/
import Derived.Test.YtjkapifbinmjhaaL4
namespace Go.Proofs.Ytjkapifbinmjhaa
open Go.Vx
set_option linter.unusedVariables false
set_option linter.unusedSimpArgs false

/-- A link that may be. -/
structure V (mo mk : Int) (en : Bool) (ml : List Msg) : Prop where
  mo1 : 1 ≤ mo
  mo2 : mo ≤ 4096
  mk1 : 0 ≤ mk
  mk2 : mk ≤ 1099511627776
  len : (ml.length : Int) ≤ mo
  ok : ∃ t e, run 0 false ml = some (t, e) ∧ (ml ≠ [] → t = mk ∧ e = en)

theorem lread_l2_enc (x66 : Int) (r : List UInt8) : ∀ (ms : List Msg) (k : Nat) (s : Int) (ring : List Msg) (ct mk : Int) (en : Bool) (mk' : Int) (en' : Bool),
    (x66 - s).toNat < k → s + ms.length = x66 → 0 ≤ ct → ct + ms.length ≤ ring.length → run mk en ms = some (mk', en') →
    ∃ ring', ring'.length = ring.length ∧ allOf ring' 0 (ct + ms.length).toNat = allOf ring 0 ct.toNat ++ ms ∧ lread_l2 x66 k s ring ct mk en (flat ms ++ r) 0 = .inr (ring', ct + ms.length, mk', en', r, 0) := by
  intro ms
  induction ms with
  | nil =>
    intro k s ring ct mk en mk' en' hk hs h0 h1 h
    simp only [run, Option.some.injEq, Prod.mk.injEq] at h
    obtain ⟨rfl, rfl⟩ := h
    obtain ⟨k, rfl⟩ : ∃ j, k = j + 1 := ⟨k - 1, by omega⟩
    refine ⟨ring, rfl, by simp, ?_⟩
    rw [lread_l2, if_neg (by simp only [List.length_nil] at hs; omega)]
    simp [flat]
  | cons m l ih =>
    intro k s ring ct mk en mk' en' hk hs h0 h1 h
    simp only [List.length_cons] at hs h1
    simp only [run] at h
    split at h
    · rename_i hc
      obtain ⟨k, rfl⟩ : ∃ j, k = j + 1 := ⟨k - 1, by omega⟩
      have hset := allOf_set (ring := ring) (fr := 0) (ct := ct) (m := m) (by omega) h0 (by omega)
      obtain ⟨ring', e1, e2, e3⟩ := ih k (s + 1) (ring.set ((0 + ct) % (ring.length : Int)).toNat m) (ct + 1) _ _ _ _ (by omega) (by omega) (by omega) (by rw [List.length_set]; omega) h
      refine ⟨ring', by rw [e1, List.length_set], ?_, ?_⟩
      · rw [List.length_cons, show ct + ((l.length + 1 : Nat) : Int) = ct + 1 + (l.length : Int) by omega, e2, hset]; simp
      · rw [lread_l2, if_pos (by omega), flat_cons]
        simp only [List.append_assoc]
        rw [blk_num _ (by have := mb_len m; omega)]
        dsimp only
        rw [msg1_mb hc.1]
        dsimp only
        rw [if_pos rfl, snd1_ok hc.1 hc.2.1 hc.2.2 (by omega)]
        dsimp only
        rw [if_neg (by simp), e3, List.length_cons, show ct + ((l.length + 1 : Nat) : Int) = ct + 1 + (l.length : Int) by omega]
    · cases h
theorem lread_l2_inv (x66 : Int) : ∀ (k : Nat) (s : Int) (ring : List Msg) (ct mk : Int) (en : Bool) (l : List UInt8) (e : Int) (ring' : List Msg) (ct' mk' : Int) (en' : Bool) (l' : List UInt8) (e' : Int),
    (x66 - s).toNat < k → 0 ≤ ct → ct ≤ ring.length → lread_l2 x66 k s ring ct mk en l e = .inr (ring', ct', mk', en', l', e') →
    ∃ ms : List Msg, ring'.length = ring.length ∧ ct' = ct + ms.length ∧ ct' ≤ ring.length ∧ allOf ring' 0 ct'.toNat = allOf ring 0 ct.toNat ++ ms ∧ run mk en ms = some (mk', en') := by
  intro k
  induction k with
  | zero => intro s ring ct mk en l e ring' ct' mk' en' l' e' hk; omega
  | succ k ih =>
    intro s ring ct mk en l e ring' ct' mk' en' l' e' hk h0 h1 h
    rw [lread_l2] at h
    split at h
    · rename_i hs
      rcases hb : blk l e with ⟨p, l2, e2⟩; rw [hb] at h; dsimp only at h
      rcases hm : msg1 p with ⟨m, d⟩; rw [hm] at h; dsimp only at h
      split at h
      · rcases hsn : snd1 ring 0 ct mk en m with ⟨e3, ring3, ct3, mk3, en3⟩; rw [hsn] at h; dsimp only at h
        split at h
        · cases h
        · rename_i he
          obtain rfl : e3 = 0 := Decidable.not_not.1 he
          obtain ⟨a, b, c, d2, rfl, rfl, rfl, rfl⟩ := snd1_inv hsn
          obtain ⟨ms, q1, q2, q3, q4, q5⟩ := ih _ _ _ _ _ _ _ _ _ _ _ _ _ (by omega) (by omega) (by rw [List.length_set]; omega) h
          rw [List.length_set] at q1 q3
          refine ⟨m :: ms, q1, by rw [q2, List.length_cons]; omega, q3, ?_, ?_⟩
          · rw [q4, allOf_set (by omega) h0 (by omega)]; simp
          · rw [run, if_pos ⟨a, b, c⟩]; exact q5
      · cases h
    · simp only [Sum.inr.injEq, Prod.mk.injEq] at h
      obtain ⟨rfl, rfl, rfl, rfl, rfl, rfl⟩ := h
      exact ⟨[], rfl, by simp, h1, by simp, rfl⟩
theorem lread_enc {mo mk : Int} {en : Bool} {ml : List Msg} (v : V mo mk en ml) :
    ∃ ring, lread (enc mo mk en ml) = .inl (ring, 0, (ml.length : Int), mk, en) ∧ (ring.length : Int) = mo ∧ allOf ring 0 ml.length = ml ∧ lbytes ring 0 ml.length mk en = enc mo mk en ml := by
  obtain ⟨a, b, c, d, f, t, e, hr, hl⟩ := v
  have hrl : (List.replicate mo.toNat Msg.zero).length = mo.toNat := List.length_replicate
  obtain ⟨ring, e1, e2, e3⟩ := lread_l2_enc (ml.length : Int) [] ml (((ml.length : Int) - 0).toNat + 1) 0 (List.replicate mo.toNat Msg.zero) 0 0 false t e (by omega) (by omega) (by omega) (by rw [hrl]; omega) hr
  rw [Int.zero_add] at e2 e3
  rw [show (0 : Int).toNat = 0 from rfl, allOf_zero, List.nil_append, Int.toNat_natCast] at e2
  have hlen : (ring.length : Int) = mo := by rw [e1, hrl]; omega
  have hlb : lbytes ring 0 ml.length mk en = enc mo mk en ml := by
    rw [lbytes_enc (by omega) (by omega) (by omega) c d, Int.toNat_natCast, e2, hlen]
  refine ⟨ring, ?_, hlen, e2, hlb⟩
  have hen : ((if en = true then 1 else 0 : Nat) : Int) ≤ 1 := by cases en <;> simp
  unfold lread
  conv in cnt (enc mo mk en ml) 0 4096 => rw [enc]
  rw [cnt_num _ (by omega) (by omega)]
  dsimp only
  rw [if_pos (by omega), rd1_num _ (by omega)]
  dsimp only
  rw [rd1_num _ (by omega)]
  dsimp only
  rw [if_neg (by omega), if_neg (by omega)]
  unfold lread_j1
  rw [cnt_num _ (by rw [List.length_replicate]; omega) (by rw [List.length_replicate]; omega)]
  dsimp only
  rw [List.append_nil] at e3
  rw [show ((mo.toNat : Nat) : Int).toNat = mo.toNat by omega, e3]
  dsimp only
  have hj3 : lread_j3 ((mk.toNat : Nat) : Int) ((if en = true then 1 else 0 : Nat) : Int) (ml.length : Int) t e [] 0 = .inr 0 := by
    unfold lread_j3
    rw [show rend [] 0 = 0 from rfl]
    dsimp only
    rw [if_neg (by simp)]
    split
    · rename_i hp
      obtain ⟨rfl, rfl⟩ := hl (by intro h0; rw [h0] at hp; simp at hp)
      rw [if_neg (by omega)]
      cases e <;> simp
    · rfl
  rw [hj3]
  dsimp only
  have hx : (((if en = true then 1 else 0 : Nat) : Int) == 1) = en := by cases en <;> rfl
  rw [hx, Int.toNat_of_nonneg c, hlb]
  simp
theorem lread_l2_not (x66 : Int) : ∀ (k : Nat) (s : Int) (ring : List Msg) (ct mk : Int) (en : Bool) (l : List UInt8) (e : Int) (q : List Msg × Int × Int × Int × Bool),
    (x66 - s).toNat < k → lread_l2 x66 k s ring ct mk en l e ≠ .inl (.inl q) := by
  intro k
  induction k with
  | zero => intro s ring ct mk en l e q hk; omega
  | succ k ih =>
    intro s ring ct mk en l e q hk h
    rw [lread_l2] at h
    split at h
    · rcases hb : blk l e with ⟨p, l2, e2⟩; rw [hb] at h; dsimp only at h
      rcases hm : msg1 p with ⟨m, d⟩; rw [hm] at h; dsimp only at h
      split at h
      · rcases hsn : snd1 ring 0 ct mk en m with ⟨e3, ring3, ct3, mk3, en3⟩; rw [hsn] at h; dsimp only at h
        split at h
        · cases h
        · exact ih _ _ _ _ _ _ _ _ (by omega) h
      · cases h
    · cases h
theorem lread_j3_not {x38 x49 ct mk : Int} {en : Bool} {l : List UInt8} {e : Int} {q : List Msg × Int × Int × Int × Bool} : lread_j3 x38 x49 ct mk en l e ≠ .inl (.inl q) := by
  unfold lread_j3
  dsimp only
  repeat' split
  all_goals simp
theorem lread_j3_inv {x38 x49 ct mk : Int} {en : Bool} {l : List UInt8} {e q : Int} (h : lread_j3 x38 x49 ct mk en l e = .inr q) : l = [] ∧ e = 0 ∧ (ct > 0 → mk = x38 ∧ en = (x49 == 1)) := by
  unfold lread_j3 at h
  dsimp only at h
  split at h
  · cases h
  · rename_i h1
    obtain ⟨rfl, rfl⟩ := rend_zero.1 (Decidable.not_not.1 h1)
    refine ⟨rfl, rfl, ?_⟩
    intro hc
    rw [if_pos hc] at h
    split at h
    · cases h
    · rename_i h2
      refine ⟨Decidable.not_not.1 h2, ?_⟩
      cases en
      · simp only [Bool.false_eq_true, if_false] at h
        split at h
        · cases h
        · rename_i h3; simp [h3]
      · simp only [if_true] at h
        split at h
        · rename_i h3; simp [h3]
        · cases h
theorem lread_inv {raw : List UInt8} {ring : List Msg} {fr ct mk : Int} {en : Bool} (h : lread raw = .inl (ring, fr, ct, mk, en)) :
    raw = enc ring.length mk en (allOf ring fr ct.toNat) ∧ V ring.length mk en (allOf ring fr ct.toNat) ∧ lbytes ring fr ct mk en = raw := by
  unfold lread at h
  rcases h1 : cnt raw 0 4096 with ⟨x1, l1, e1⟩; rw [h1] at h; dsimp only at h
  split at h
  · rename_i hx1
    rcases h2 : rd1 l1 e1 with ⟨x2, l2, e2⟩; rw [h2] at h; dsimp only at h
    rcases h3 : rd1 l2 e2 with ⟨x3, l3, e3⟩; rw [h3] at h; dsimp only at h
    split at h
    · cases h
    · rename_i hx2
      split at h
      · cases h
      · rename_i hx3
        have hlo := rd1_lo l1 e1
        rw [h2] at hlo
        unfold lread_j1 at h
        have hrl : (List.replicate x1.toNat Msg.zero).length = x1.toNat := List.length_replicate
        rcases h4 : cnt l3 e3 ((List.replicate x1.toNat Msg.zero).length : Int) with ⟨x4, l4, e4⟩; rw [h4] at h; dsimp only at h
        rcases h5 : lread_l2 x4 ((x4 - 0).toNat + 1) 0 (List.replicate x1.toNat Msg.zero) 0 0 false l4 e4 with o | ⟨ring', ct', mk', en', l', e'⟩
        · rw [h5] at h; dsimp only at h; subst h
          exact absurd h5 (lread_l2_not _ _ _ _ _ _ _ _ _ _ (by omega))
        · rw [h5] at h; dsimp only at h
          obtain ⟨ms, q1, q2, q3, q4, q5⟩ := lread_l2_inv x4 _ _ _ _ _ _ _ _ _ _ _ _ _ _ (by omega) (by omega) (by omega) h5
          rw [show (0 : Int).toNat = 0 from rfl, allOf_zero, List.nil_append] at q4
          rcases h6 : lread_j3 x2 x3 ct' mk' en' l' e' with o | q
          · rw [h6] at h; dsimp only at h; subst h
            exact absurd h6 lread_j3_not
          · rw [h6] at h; dsimp only at h
            obtain ⟨_, _, hf⟩ := lread_j3_inv h6
            split at h
            · rename_i hd
              have hd := of_decide_eq_true hd
              simp only [Sum.inl.injEq, Prod.mk.injEq] at h
              obtain ⟨rfl, rfl, rfl, rfl, rfl⟩ := h
              have hlen : (ring'.length : Int) = x1 := by rw [q1, hrl]; omega
              rw [lbytes_enc (by omega) (by omega) (by omega) hlo.1 (by omega)] at hd
              refine ⟨hd.symm, ⟨by omega, by omega, hlo.1, by omega, by rw [allOf_len]; omega, _, _, by rw [q4]; exact q5, ?_⟩, ?_⟩
              · intro hne
                refine hf ?_
                have : (allOf ring' 0 ct'.toNat).length ≠ 0 := fun h0 => hne (List.length_eq_zero_iff.1 h0)
                rw [allOf_len] at this
                omega
              · rw [lbytes_enc (by omega) (by omega) (by omega) hlo.1 (by omega)]; exact hd
            · cases h
  · cases h

theorem run_end {t : Int} {m : Msg} {l : List Msg} {s : Int × Bool} (h : run t true (m :: l) = some s) : False := by
  simp [run] at h
theorem rread_l2_enc (x40 x54 : Int) (r : List UInt8) : ∀ (ms : List Msg) (k : Nat) (s7 s8 : Int) (acc : List Msg) (t : Int) (b : Bool),
    (x54 - s8).toNat < k → s8 + ms.length = x54 → run s7 false ms = some (t, b) → (b = true → x40 = 1) → rread_l2 x40 x54 k s7 s8 acc (flat ms ++ r) 0 = .inr (t, acc ++ ms, r, 0) := by
  intro ms
  induction ms with
  | nil =>
    intro k s7 s8 acc t b hk hs h hb
    simp only [run, Option.some.injEq, Prod.mk.injEq] at h
    obtain ⟨rfl, rfl⟩ := h
    obtain ⟨k, rfl⟩ : ∃ j, k = j + 1 := ⟨k - 1, by omega⟩
    rw [rread_l2, if_neg (by simp only [List.length_nil] at hs; omega)]
    simp [flat]
  | cons m l ih =>
    intro k s7 s8 acc t b hk hs h hb
    simp only [List.length_cons] at hs
    simp only [run] at h
    split at h
    · rename_i hc
      obtain ⟨k, rfl⟩ : ∃ j, k = j + 1 := ⟨k - 1, by omega⟩
      rw [rread_l2, if_pos (by omega), flat_cons]
      simp only [List.append_assoc]
      rw [rblk_eq, blk_num _ (by have := mb_len m; omega)]
      dsimp only
      rw [rmsg_mb hc.1]
      dsimp only
      by_cases h5 : m.kind.toInt = 5
      · have hl : l = [] := by
          cases l with
          | nil => rfl
          | cons x l => rw [h5] at h; exact (run_end h).elim
        subst hl
        simp only [run, Option.some.injEq, Prod.mk.injEq] at h
        obtain ⟨rfl, rfl⟩ := h
        have hx : x40 = 1 := hb (by simp [h5])
        have hj : rread_j3 x40 x54 0 m true s7 s8 = .inr () := by
          unfold rread_j3
          simp only [List.length_nil] at hs
          rw [if_neg (by simp), if_pos rfl, if_neg (by omega), if_pos h5, if_neg (by omega), if_pos hx]
        rw [hj]
        dsimp only
        have h9 := ih k m.time.toInt (s8 + 1) (acc ++ [m]) m.time.toInt false (by omega) (by simp only [List.length_nil] at hs ⊢; omega) rfl (by simp)
        rw [h9]; simp
      · have hj : rread_j3 x40 x54 0 m true s7 s8 = .inr () := by
          unfold rread_j3
          rw [if_neg (by simp), if_pos rfl, if_neg (by omega), if_neg h5]
        rw [hj]
        dsimp only
        rw [show (m.kind.toInt == 5) = false by simp [h5]] at h
        rw [ih k m.time.toInt (s8 + 1) (acc ++ [m]) t b (by omega) (by omega) h hb]
        simp
    · cases h
theorem rread_l2_inv (x40 x54 : Int) : ∀ (k : Nat) (s7 s8 : Int) (acc : List Msg) (l : List UInt8) (e : Int) (t : Int) (acc' : List Msg) (l' : List UInt8) (e' : Int),
    (x54 - s8).toNat < k → s8 ≤ x54 → rread_l2 x40 x54 k s7 s8 acc l e = .inr (t, acc', l', e') →
    ∃ (ms : List Msg) (b : Bool), acc' = acc ++ ms ∧ s8 + ms.length = x54 ∧ run s7 false ms = some (t, b) ∧ (e' = 0 → e = 0 ∧ l = flat ms ++ l') ∧ (ms ≠ [] → ∃ m, ms.getLast? = some m ∧ b = (m.kind.toInt == 5)) := by
  intro k
  induction k with
  | zero => intro s7 s8 acc l e t acc' l' e' hk; omega
  | succ k ih =>
    intro s7 s8 acc l e t acc' l' e' hk hs h
    rw [rread_l2] at h
    split at h
    · rename_i hlt
      rcases hb : rblk l e with ⟨p, l2, e2⟩; rw [hb] at h; dsimp only at h
      rcases hm : rmsg p with ⟨m, d⟩; rw [hm] at h; dsimp only at h
      rcases hj : rread_j3 x40 x54 e2 m d s7 s8 with o | u
      · rw [hj] at h; cases h
      · rw [hj] at h; dsimp only at h
        unfold rread_j3 at hj
        split at hj
        · cases hj
        · rename_i he2
          obtain rfl : e2 = 0 := Decidable.not_not.1 he2
          split at hj
          · rename_i hd
            subst hd
            obtain ⟨hc, rfl⟩ := rmsg_inv hm
            split at hj
            · cases hj
            · rename_i htime
              obtain ⟨ms, b, q1, q2, q3, q4, q5⟩ := ih _ _ _ _ _ _ _ _ _ (by omega) (by omega) h
              rw [rblk_eq] at hb
              obtain ⟨he, _, hl⟩ := blk_inv hb
              have hlast : ms ≠ [] → m.kind.toInt ≠ 5 := by
                intro hne h5
                rw [if_pos h5] at hj
                have : ms.length ≠ 0 := fun h0 => hne (List.length_eq_zero_iff.1 h0)
                rw [if_pos (by omega)] at hj
                cases hj
              refine ⟨m :: ms, if ms = [] then (m.kind.toInt == 5) else b, by rw [q1]; simp, by rw [List.length_cons]; omega, ?_, ?_, ?_⟩
              · rw [run, if_pos ⟨hc, rfl, by omega⟩]
                by_cases hn : ms = []
                · subst hn
                  simp only [run, Option.some.injEq, Prod.mk.injEq] at q3 ⊢
                  exact ⟨q3.1, by simp⟩
                · rw [if_neg hn, show (m.kind.toInt == 5) = false by simp [hlast hn]]
                  exact q3
              · intro h0
                obtain ⟨_, q6⟩ := q4 h0
                exact ⟨he, by rw [hl, q6, flat_cons]; simp⟩
              · intro _
                by_cases hn : ms = []
                · subst hn; exact ⟨m, rfl, by simp⟩
                · obtain ⟨x, hx, hbx⟩ := q5 hn
                  refine ⟨x, ?_, by rw [if_neg hn]; exact hbx⟩
                  cases ms with
                  | nil => exact absurd rfl hn
                  | cons y ms => rw [List.getLast?_cons_cons]; exact hx
          · cases hj
    · simp only [Sum.inr.injEq, Prod.mk.injEq] at h
      obtain ⟨rfl, rfl, rfl, rfl⟩ := h
      exact ⟨[], false, by simp, by simp only [List.length_nil]; omega, rfl, fun h0 => ⟨h0, by simp [flat]⟩, fun hn => absurd rfl hn⟩
end Go.Proofs.Ytjkapifbinmjhaa
