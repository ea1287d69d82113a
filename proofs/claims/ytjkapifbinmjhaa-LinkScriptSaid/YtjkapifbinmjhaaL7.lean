/-
  LinkScript's plain law: what the walk comes to is true, of any room, calls, bytes.
-/
import Derived.Test.YtjkapifbinmjhaaL6
import Derived.Test.YtjkapifbinmjhaaG8
namespace Go.Proofs.Ytjkapifbinmjhaa
open Go.Vx
set_option linter.unusedVariables false
set_option linter.unusedSimpArgs false

theorem lives25_true : lives25 = true := by decide +kernel
theorem kmsgs_self (l : List Msg) : kmsgs l l = true := by
  have key : ∀ (k : Nat) (i : Int), ((l.length : Int) - i).toNat < k → kmsgs_l2 l l k i = .inr () := by
    intro k
    induction k with
    | zero => intro i h; omega
    | succ k ih =>
      intro i h
      rw [kmsgs_l2]
      split
      · dsimp only
        rw [if_neg (by simp)]
        exact ih _ (by omega)
      · rfl
  unfold kmsgs kmsgs_j1
  rw [if_neg (by simp), key _ _ (by omega)]
theorem chk_two (m : Msg) : chk m = 0 ∨ chk m = 2 := by
  unfold chk
  dsimp only
  repeat' split
  all_goals simp

structure RelL (room : Int) (ring : List Msg) (fr ct mk : Int) (en : Bool) (ml : List Msg) : Prop where
  rl : (ring.length : Int) = room
  r1 : 1 ≤ room
  r2 : room ≤ 4096
  f0 : 0 ≤ fr
  f1 : fr < ring.length
  c0 : 0 ≤ ct
  c1 : ct ≤ ring.length
  al : allOf ring fr ct.toNat = ml
  m0 : 0 ≤ mk
  m1 : mk ≤ 1099511627776
  ok : ∃ t e, run 0 false ml = some (t, e) ∧ (ml ≠ [] → t = mk ∧ e = en)
theorem RelL.len {room : Int} {ring : List Msg} {fr ct mk : Int} {en : Bool} {ml : List Msg} (h : RelL room ring fr ct mk en ml) : (ml.length : Int) = ct := by
  rw [← h.al, allOf_len]; have := h.c0; omega
theorem RelL.v {room : Int} {ring : List Msg} {fr ct mk : Int} {en : Bool} {ml : List Msg} (h : RelL room ring fr ct mk en ml) : V room mk en ml :=
  ⟨h.r1, h.r2, h.m0, h.m1, by have := h.len; have := h.c1; have := h.rl; omega, h.ok⟩

theorem j5_ok {room : Int} {l : List LAct} {s : Int} {ring : List Msg} {fr ct mk : Int} {en : Bool} {ml : List Msg} (h : RelL room ring fr ct mk en ml) :
    ∃ ring' fr' ct' mk' en' ml', lawLS_j5 room l ring fr ct mk en ml mk en s = .inr (ring', fr', ct', mk', en', ml', mk', en') ∧ RelL room ring' fr' ct' mk' en' ml' := by
  have hlen := h.len
  unfold lawLS_j5
  generalize l.getD s.toNat LAct.zero = x
  dsimp only
  split
  · -- taken
    unfold tk1 rtk fst1
    by_cases hc : ct = 0
    · have hml : ml = [] := List.length_eq_zero_iff.1 (by omega)
      subst hml
      subst hc
      refine ⟨ring, fr, 0, mk, en, [], ?_, h⟩
      simp
    · have hpos : 0 < ct := by have := h.c0; omega
      have hcons := allOf_cons h.f0 h.f1 hpos
      rw [h.al] at hcons
      have hr := h.rl
      have h1 := h.r1
      have hc1 := h.c1
      refine ⟨ring, (fr + 1) % (ring.length : Int), ct - 1, mk, en, ml.drop 1, ?_, ?_⟩
      · have hl0 : ¬ (ml.length : Int) = 0 := by omega
        dsimp only
        rw [if_neg hc, if_pos hc, if_neg hl0]
        dsimp only
        rw [hcons]
        simp
      · refine ⟨h.rl, h.r1, h.r2, Int.emod_nonneg _ (by omega), Int.emod_lt_of_pos _ (by omega), by omega, by omega, ?_, h.m0, h.m1, ?_⟩
        · rw [hcons]; rfl
        · obtain ⟨t, e, hrun, hl⟩ := h.ok
          rw [hcons] at hrun hl ⊢
          simp only [List.drop_succ_cons, List.drop_zero]
          generalize allOf ring ((fr + 1) % (ring.length : Int)) (ct - 1).toNat = rest at hrun hl ⊢
          generalize ring.getD fr.toNat Msg.zero = m at hrun hl ⊢
          simp only [run] at hrun
          split at hrun
          · cases rest with
            | nil => exact ⟨0, false, rfl, fun hn => absurd rfl hn⟩
            | cons y rest => exact ⟨t, e, run_fresh hrun, fun _ => hl (by simp)⟩
          · cases hrun
  · -- sent
    unfold snd1 rsnd
    rw [chk_eq]
    dsimp only
    rcases chk_two x.m with hz | hz
    · rw [hz]
      simp only [ne_eq, not_true_eq_false, if_false]
      by_cases he : en = true
      · simp only [he, if_true]
        refine ⟨ring, fr, ct, mk, true, ml, ?_, by rw [← he]; exact h⟩
        simp
      · simp only [he, if_false, Bool.false_eq_true]
        have he' : en = false := by simpa using he
        by_cases ht : x.m.time.toInt < mk
        · simp only [ht, if_true]
          exact ⟨ring, fr, ct, mk, en, ml, by simp [he'], h⟩
        · simp only [ht, if_false]
          have hrl := h.rl
          have hc1 := h.c1
          by_cases hc : ct = ring.length
          · have hx : (ml.length : Int) ≥ room := by omega
            simp only [hc, hx, if_true]
            exact ⟨ring, fr, ct, mk, en, ml, by simp [he', hc], h⟩
          · have hx : ¬ (ml.length : Int) ≥ room := by omega
            simp only [hc, hx, if_false]
            refine ⟨_, _, _, _, _, _, by simp only [not_true_eq_false, if_false]; rfl, ?_⟩
            have hr := chk_range hz
            refine ⟨by rw [List.length_set]; exact h.rl, h.r1, h.r2, h.f0, by rw [List.length_set]; exact h.f1, by have := h.c0; omega, by rw [List.length_set]; omega, ?_, by omega, by omega, ?_⟩
            · rw [allOf_set h.f0 h.c0 (by omega), h.al]
            · obtain ⟨t, e, hrun, hl⟩ := h.ok
              refine ⟨x.m.time.toInt, x.m.kind.toInt == 5, ?_, fun _ => ⟨rfl, rfl⟩⟩
              rw [run_append ml _ _ _ _ _ hrun]
              simp only [run]
              by_cases hn : ml = []
              · subst hn
                simp only [run, Option.some.injEq, Prod.mk.injEq] at hrun
                obtain ⟨rfl, rfl⟩ := hrun
                rw [if_pos ⟨hz, by simp, by omega⟩]
              · obtain ⟨rfl, rfl⟩ := hl hn
                rw [if_pos ⟨hz, he', by omega⟩]
    · rw [hz]
      exact ⟨ring, fr, ct, mk, en, ml, by simp, h⟩
theorem fst_same {room : Int} {ring : List Msg} {fr ct mk : Int} {en : Bool} {ml : List Msg} (h : RelL room ring fr ct mk en ml) : rfst ml = (fst1 ring fr ct, decide (ct ≠ 0)) := by
  have hlen := h.len
  unfold rfst fst1
  by_cases hc : ct = 0
  · have hml : ml = [] := List.length_eq_zero_iff.1 (by omega)
    subst hml; simp [hc]
  · have hpos : 0 < ct := by have := h.c0; omega
    have hcons := allOf_cons h.f0 h.f1 hpos
    rw [h.al] at hcons
    rw [if_neg (by omega), hcons]
    simp [hc]
theorem j3_ok {room : Int} {l : List LAct} {s : Int} {ring : List Msg} {fr ct mk : Int} {en : Bool} {ml : List Msg} (h : RelL room ring fr ct mk en ml) :
    ∃ ring' fr' ct' mk' en' ml', lawLS_j3 room l ring fr ct mk en ml mk en s = .inr (ring', fr', ct', mk', en', ml', mk', en') ∧ RelL room ring' fr' ct' mk' en' ml' := by
  obtain ⟨ring', fr', ct', mk', en', ml', h5, h'⟩ := j5_ok (l := l) (s := s) h
  refine ⟨ring', fr', ct', mk', en', ml', ?_, h'⟩
  unfold lawLS_j3
  dsimp only
  rw [rmbytes_eq]
  rcases hm : mbytes (l.getD s.toNat LAct.zero).m with ⟨b, e⟩
  dsimp only
  have h4 : lawLS_j4 l b e b e s = .inr () := by
    unfold lawLS_j4
    rw [if_pos rfl, if_neg (by simp)]
    dsimp only
    rw [chk_eq, if_neg (by simp)]
  rw [h4]
  dsimp only
  rw [h5]
  dsimp only
  rw [fst_same h']
  dsimp only
  have hlen := h'.len
  have hrl := h'.rl
  rw [if_neg (by simp)]
  by_cases hc : ct' = 0
  · rw [if_neg (by omega), if_neg (by simp [hc]), if_neg (by omega), if_neg (by omega), if_neg (by simp)]
    cases en' <;> simp
  · rw [if_pos hc, if_pos (by simp [hc]), if_neg (by omega), if_neg (by omega), if_neg (by simp)]
    cases en' <;> simp
theorem l2_ok {room : Int} {l : List LAct} : ∀ (k : Nat) (s : Int) (ring : List Msg) (fr ct mk : Int) (en : Bool) (ml : List Msg), ((l.length : Int) - s).toNat < k → RelL room ring fr ct mk en ml →
    ∃ ring' fr' ct' mk' en' ml', lawLS_l2 room l k s ring fr ct mk en ml mk en = .inr (ring', fr', ct', mk', en', ml', mk', en') ∧ RelL room ring' fr' ct' mk' en' ml' := by
  intro k
  induction k with
  | zero => intro s ring fr ct mk en ml hk; omega
  | succ k ih =>
    intro s ring fr ct mk en ml hk h
    rw [lawLS_l2]
    split
    · obtain ⟨ring', fr', ct', mk', en', ml', h3, h'⟩ := j3_ok (l := l) (s := s) h
      rw [h3]
      dsimp only
      exact ih _ _ _ _ _ _ _ (by omega) h'
    · exact ⟨ring, fr, ct, mk, en, ml, rfl, h⟩
theorem lawLS_true (room : Int) (l : List LAct) (raw : List UInt8) : lawLS room l raw = true := by
  have hraw : ∀ (q : Bool), q = (match lread raw with
      | .inl (ring, fr, ct, mk, en) => (match rread raw with | .inl (mo, ml, mk', en') => decide ((lbytes ring fr ct mk en) = raw) | .inr () => false)
      | .inr () => (match rread raw with | .inl (mo, ml, mk', en') => false | .inr () => true)) → q = true := by
    rintro q rfl
    rcases reads_same raw with ⟨ring, fr, ct, mk, en, mo, ml, mk', en', h1, h2, h3⟩ | ⟨h1, h2⟩
    · rw [h1, h2]; simp [h3]
    · rw [h1, h2]
  unfold lawLS
  rw [lives25_true]
  dsimp only
  rw [if_pos rfl]
  split
  · rfl
  · split
    · rfl
    · split
      · rename_i hroom
        have h0 : RelL room (List.replicate room.toNat Msg.zero) 0 0 0 false [] := by
          refine ⟨by rw [List.length_replicate]; omega, hroom.1, hroom.2, by omega, by rw [List.length_replicate]; omega, by omega, by omega, rfl, by omega, by omega, 0, false, rfl, fun hn => absurd rfl hn⟩
        obtain ⟨ring, fr, ct, mk, en, ml, h1, h⟩ := l2_ok (l := l) (((l.length : Int) - 0).toNat + 1) 0 _ _ _ _ _ _ (by omega) h0
        unfold lawLS_j1
        rw [h1]
        dsimp only
        have h6 : lawLS_j6 room ring fr ct mk en ml mk en = .inr () := by
          obtain ⟨ring2, e1, e2, e3, e4⟩ := lread_enc h.v
          have hr := h.rl
          have hr2 := h.r2
          have hc0 := h.c0
          have hc1 := h.c1
          have hb : lbytes ring fr ct mk en = enc room mk en ml := by rw [lbytes_enc (by omega) (by omega) (by omega) h.m0 h.m1, hr, h.al]
          unfold lawLS_j6
          dsimp only
          rw [rlbytes_enc h.m0 h.m1, e1]
          dsimp only
          rw [if_pos hb, if_pos e4, h.al, kmsgs_self, if_pos rfl]
        rw [h6]
        exact hraw _ rfl
      · exact hraw _ rfl
end Go.Proofs.Ytjkapifbinmjhaa
