/-
  A link told as bytes; a ring as the list of what is on its way; what may be sent.
-/
import Derived.Test.YtjkapifbinmjhaaL3
namespace Go.Proofs.Ytjkapifbinmjhaa
open Go.Vx
set_option linter.unusedVariables false
set_option linter.unusedSimpArgs false

def flat (ms : List Msg) : List UInt8 := ms.flatMap fun m => num (mb m).length ++ mb m
theorem flat_cons (m : Msg) (l : List Msg) : flat (m :: l) = num (mb m).length ++ (mb m ++ flat l) := by simp [flat]
/-- The bytes of a link. -/
def enc (mo mk : Int) (en : Bool) (ml : List Msg) : List UInt8 := num mo.toNat ++ (num mk.toNat ++ (num (if en = true then 1 else 0) ++ (num ml.length ++ flat ml)))
theorem blockOf_mb (b : List UInt8) (m : Msg) : (blockOf b (mb m)).1 = b ++ (num (mb m).length ++ mb m) := by
  have := mb_len m
  unfold blockOf
  rw [if_neg (by omega)]
  simp
theorem lbl_eq (l : List Msg) : ∀ b, lbl l b = b ++ flat l := by
  induction l with
  | nil => intro b; simp [lbl, flat]
  | cons m l ih =>
    intro b
    have h : lbl (m :: l) b = lbl l (blockOf b (mb m)).1 := rfl
    rw [h, ih, blockOf_mb, flat_cons]
    simp
theorem lbytes_enc {ring : List Msg} {fr ct mk : Int} {en : Bool} (hr : ring.length ≤ 4096) (h0 : 0 ≤ ct) (h1 : ct ≤ 4096) (h2 : 0 ≤ mk) (h3 : mk ≤ 1099511627776) :
    lbytes ring fr ct mk en = enc ring.length mk en (allOf ring fr ct.toNat) := by
  unfold lbytes enc
  rw [lbl_eq, allOf_len]
  simp only [nums, List.flatMap_cons, List.flatMap_nil]
  have he : (IntKind.wrap .u64 (if en = true then (1 : Int64) else 0).toInt).toNat = if en = true then 1 else 0 := by
    cases en
    · simp only [Bool.false_eq_true, if_false]; rw [show (0 : Int64).toInt = 0 from rfl, wu64' (by omega) (by omega)]; rfl
    · simp only [if_true]; rw [show (1 : Int64).toInt = 1 from rfl, wu64' (by omega) (by omega)]; rfl
  rw [he]
  rw [i64_val (by omega) (by omega), wu64' (by omega) (by omega), i64_val (by omega) (by omega), wu64' (by omega) (by omega), i64_val (by omega) (by omega), wu64' (by omega) (by omega)]
  simp
theorem rl3 (ml : List Msg) : ∀ (k : Nat) (b : List UInt8) (i : Int), 0 ≤ i → ((ml.length : Int) - i).toNat < k → rlbytes_l3 ml k b i = b ++ flat (ml.drop i.toNat) := by
  intro k
  induction k with
  | zero => intro b i h0 h; omega
  | succ k ih =>
    intro b i h0 h
    rw [rlbytes_l3]
    split
    · rename_i hi
      have hlt : i.toNat < ml.length := by omega
      have hd : ml.drop i.toNat = ml[i.toNat] :: ml.drop (i.toNat + 1) := List.drop_eq_getElem_cons hlt
      have hg : ml.getD i.toNat Msg.zero = ml[i.toNat] := by rw [List.getD_eq_getElem?_getD, List.getElem?_eq_getElem hlt]; rfl
      dsimp only
      rw [hg, rmbytes_eq]
      have h9 := ih ((blockOf b (mbytes ml[i.toNat]).1).1) (i + 1) (by omega) (by omega)
      rw [h9, hd, flat_cons]
      have h8 := blockOf_mb b ml[i.toNat]
      unfold mb at h8
      rw [h8, show (i + 1).toNat = i.toNat + 1 by omega]
      simp [mb]
    · rw [List.drop_of_length_le (by omega)]
      simp [flat]
theorem rlbytes_enc {ml : List Msg} {mo mk : Int} {en : Bool} (h0 : 0 ≤ mk) (h1 : mk ≤ 1099511627776) : rlbytes ml mo mk en = enc mo mk en ml := by
  unfold rlbytes rlbytes_j2 rlbytes_j1 enc
  dsimp only
  rw [rl3 _ _ _ _ (by omega) (by omega), wu64' h0 (by omega)]
  have he : (if en = true then (1 : Int) else 0).toNat = if en = true then 1 else 0 := by cases en <;> rfl
  rw [he]
  simp

/-- What a link comes to that is sent these messages: its mark, whether it ended; none if one is refused. -/
def run : Int → Bool → List Msg → Option (Int × Bool)
  | t, e, [] => some (t, e)
  | t, e, m :: l => if chk m = 0 ∧ e = false ∧ t ≤ m.time.toInt then run m.time.toInt (m.kind.toInt == 5) l else none
theorem run_append (l : List Msg) : ∀ (t : Int) (e : Bool) (t' : Int) (e' : Bool) (k : List Msg), run t e l = some (t', e') → run t e (l ++ k) = run t' e' k := by
  induction l with
  | nil => intro t e t' e' k h; simp only [run, Option.some.injEq, Prod.mk.injEq] at h; obtain ⟨rfl, rfl⟩ := h; rfl
  | cons m l ih =>
    intro t e t' e' k h
    simp only [run] at h
    split at h
    · rename_i hc
      simp only [List.cons_append, run]
      rw [if_pos hc]
      exact ih _ _ _ _ k h
    · cases h
theorem run_bound (l : List Msg) : ∀ (t : Int) (e : Bool) (t' : Int) (e' : Bool), 0 ≤ t → t ≤ 1099511627776 → run t e l = some (t', e') → 0 ≤ t' ∧ t' ≤ 1099511627776 ∧ ∀ m ∈ l, chk m = 0 := by
  induction l with
  | nil => intro t e t' e' h0 h1 h; simp only [run, Option.some.injEq, Prod.mk.injEq] at h; obtain ⟨rfl, rfl⟩ := h; exact ⟨h0, h1, by simp⟩
  | cons m l ih =>
    intro t e t' e' h0 h1 h
    simp only [run] at h
    split at h
    · rename_i hc
      have hr := chk_range hc.1
      obtain ⟨a, b, c⟩ := ih _ _ _ _ (by omega) (by omega) h
      exact ⟨a, b, by intro x hx; rcases List.mem_cons.1 hx with rfl | hx; exact hc.1; exact c x hx⟩
    · cases h
/-- Whatever was ahead of it. -/
theorem run_fresh {t : Int} {e : Bool} {m : Msg} {l : List Msg} {s : Int × Bool} (h : run t e (m :: l) = some s) : run 0 false (m :: l) = some s := by
  simp only [run] at h ⊢
  split at h
  · rename_i hc
    have := chk_range hc.1
    rw [if_pos ⟨hc.1, by simp, by omega⟩]; exact h
  · cases h

/-! ### rings -/
theorem mod_ne {a i c n : Nat} (h1 : i < c) (h2 : c < n) : (a + c) % n ≠ (a + i) % n := by
  intro h
  have h3 := Nat.sub_mod_eq_zero_of_mod_eq h
  rw [show a + c - (a + i) = c - i by omega, Nat.mod_eq_of_lt (by omega)] at h3
  omega
theorem allOf_set {ring : List Msg} {fr ct : Int} {m : Msg} (h0 : 0 ≤ fr) (h2 : 0 ≤ ct) (h3 : ct < ring.length) :
    allOf (ring.set ((fr + ct) % (ring.length : Int)).toNat m) fr (ct + 1).toNat = allOf ring fr ct.toNat ++ [m] := by
  have hp : ((fr + ct) % (ring.length : Int)).toNat = (fr.toNat + ct.toNat) % ring.length := by
    rw [← mod_nat (by omega), show (fr + ct).toNat = fr.toNat + ct.toNat by omega]
  have hlt : (fr.toNat + ct.toNat) % ring.length < ring.length := Nat.mod_lt _ (by omega)
  rw [show (ct + 1).toNat = ct.toNat + 1 by omega, allOf_succ, List.length_set, hp]
  congr 1
  · unfold allOf
    apply List.map_congr_left
    intro i hi
    rw [List.length_set, List.getD_eq_getElem?_getD, List.getD_eq_getElem?_getD, List.getElem?_set_ne (mod_ne (List.mem_range.1 hi) (by omega))]
  · congr 1
    rw [List.getD_eq_getElem?_getD, List.getElem?_set_self hlt]; rfl
theorem allOf_cons {ring : List Msg} {fr ct : Int} (h0 : 0 ≤ fr) (h1 : fr < ring.length) (h2 : 0 < ct) :
    allOf ring fr ct.toNat = ring.getD fr.toNat Msg.zero :: allOf ring ((fr + 1) % (ring.length : Int)) (ct - 1).toNat := by
  rw [show ct.toNat = (ct - 1).toNat + 1 by omega]
  unfold allOf
  rw [List.range_succ_eq_map, List.map_cons, List.map_map]
  congr 1
  · rw [Nat.add_zero, Nat.mod_eq_of_lt (by omega)]
  · apply List.map_congr_left
    intro i _
    simp only [Function.comp]
    rw [← mod_nat (by omega), show (fr + 1).toNat = fr.toNat + 1 by omega, Nat.mod_add_mod, show fr.toNat + i.succ = fr.toNat + 1 + i by omega]
theorem allOf_zero (ring : List Msg) (fr : Int) : allOf ring fr 0 = [] := rfl
theorem snd1_ok {ring : List Msg} {fr ct mk : Int} {en : Bool} {m : Msg} (h : chk m = 0) (he : en = false) (ht : mk ≤ m.time.toInt) (hc : ct ≠ ring.length) :
    snd1 ring fr ct mk en m = (0, ring.set ((fr + ct) % (ring.length : Int)).toNat m, ct + 1, m.time.toInt, m.kind.toInt == 5) := by
  unfold snd1
  rw [h]
  dsimp only
  rw [if_neg (by simp), he, if_neg (by simp), if_neg (by omega), if_neg hc]
theorem snd1_inv {ring ring' : List Msg} {fr ct ct' mk mk' : Int} {en en' : Bool} {m : Msg} (h : snd1 ring fr ct mk en m = (0, ring', ct', mk', en')) :
    chk m = 0 ∧ en = false ∧ mk ≤ m.time.toInt ∧ ct ≠ ring.length ∧ ring' = ring.set ((fr + ct) % (ring.length : Int)).toNat m ∧ ct' = ct + 1 ∧ mk' = m.time.toInt ∧ en' = (m.kind.toInt == 5) := by
  unfold snd1 at h
  dsimp only at h
  split at h
  · rename_i h1; simp only [Prod.mk.injEq] at h; exact absurd h.1 h1
  · rename_i h1
    split at h
    · simp at h
    · rename_i h2
      split at h
      · simp at h
      · rename_i h3
        split at h
        · simp at h
        · rename_i h4
          simp only [Prod.mk.injEq, true_and] at h
          obtain ⟨rfl, rfl, rfl, rfl⟩ := h
          exact ⟨Decidable.not_not.1 h1, by simpa using h2, by omega, h4, rfl, rfl, rfl, rfl⟩
end Go.Proofs.Ytjkapifbinmjhaa
