/-
  array[i] at a number that is known to be one of few; quotients. My own text.
-/
import Derived.Test.YtjkapifbinmjhaaVxC
namespace Go.Vx
open Go.RowKit
section
variable {P : Program} {ops : Array Oper} {Q : Exit → Act → World → Prop} {w : World} {T : Array Value} {df : List Deferred} {i : Nat} {rest : List Nat}
theorem comes_index {d : Nat} {t : TypeId} {x v : Value} {k : IntKind} {ix : Int} (n : Int) (hl : lookW ops i T = some (some d, .index t x (.int k ix))) (hn : ix = n) (hv : pureRun P (Instr.index t x (.int k n)) = some v) : Comes P ops i T d v w := by
  subst hn
  unfold lookW at hl
  split at hl
  · cases hl
  · rename_i o ho
    split at hl
    · rename_i hw
      simp only [Option.some.injEq, Prod.mk.injEq] at hl
      refine ⟨o, ho, hl.1, hw, ?_⟩
      have hx := hl.2
      unfold execOp
      split at hx
      all_goals first | (cases hx; done) | skip
      rename_i hop
      simp only [OpW.index.injEq] at hx; obtain ⟨rfl, h1, h2⟩ := hx
      simp only [hop, h1, h2, Sem.run_bind, pureRun_run _ hv, Result.andThen_ok]
      rfl
    · cases hl
end
theorem i64_lo (x : Int64) : -9223372036854775808 ≤ x.toInt := Int64.le_toInt x
theorem i64_hi (x : Int64) : x.toInt ≤ 9223372036854775807 := by have := Int64.toInt_lt x; omega
theorem i64_val {e : Int} (h0 : -9223372036854775808 ≤ e) (h1 : e ≤ 9223372036854775807) : (Int64.ofInt e).toInt = e := Int64.toInt_ofInt_of_le h0 (by omega)
theorem u8_hi (x : UInt8) : x.toNat ≤ 255 := by have := x.toNat_lt; omega
theorem u16_hi (x : UInt16) : x.toNat ≤ 65535 := by have := x.toNat_lt; omega
theorem u64_hi (x : UInt64) : x.toNat ≤ 18446744073709551615 := by have := x.toNat_lt; omega
theorem u64_val {e : Int} (h0 : 0 ≤ e) (h1 : e ≤ 18446744073709551615) : ((UInt64.ofNat e.toNat).toNat : Int) = e := by rw [UInt64.toNat_ofNat']; omega
theorem u16_val {e : Int} (h0 : 0 ≤ e) (h1 : e ≤ 65535) : ((UInt16.ofNat e.toNat).toNat : Int) = e := by rw [UInt16.toNat_ofNat']; omega
def tyI64 : Ty Int64 where
  sz := 1
  enc x := [.int .i64 x.toInt]
  len _ := rfl
  one _ u hu := by simp at hu; subst hu; rfl
  pos := by decide
def tyU64 : Ty UInt64 where
  sz := 1
  enc x := [.int .u64 (x.toNat : Int)]
  len _ := rfl
  one _ u hu := by simp at hu; subst hu; rfl
  pos := by decide
section
variable {P : Program} {ops : Array Oper} {w : World} {T : Array Value} {i : Nat}
theorem comes_div {d : Nat} {rem : Bool} {k : IntKind} {a b : Int} (hl : lookW ops i T = some (some d, .div rem (.int k a) (.int k b))) (hb : b ≠ 0) :
    Comes P ops i T d (.int k (if rem then Int.tmod a b else IntKind.wrap k (Int.tdiv a b))) w := by
  unfold lookW at hl
  split at hl
  · cases hl
  · rename_i o ho
    split at hl
    · rename_i hw
      simp only [Option.some.injEq, Prod.mk.injEq] at hl
      refine ⟨o, ho, hl.1, hw, ?_⟩
      have hx := hl.2
      unfold execOp
      split at hx
      all_goals first | (cases hx; done) | skip
      all_goals (rename_i hop; simp only [OpW.div.injEq] at hx; obtain ⟨rfl, h1, h2⟩ := hx)
      all_goals simp only [hop, h1, h2, Sem.run_bind, eqGuard, binOp, Op.intDiv, if_neg hb]
      all_goals simp
    · cases hl
theorem comes_rem {d : Nat} {k : IntKind} {a b : Int} (hl : lookW ops i T = some (some d, .div true (.int k a) (.int k b))) (ha : 0 ≤ a) (hb : 0 < b) : Comes P ops i T d (.int k (a % b)) w := by
  have := comes_div (P := P) (w := w) hl (by omega)
  rwa [if_pos rfl, Int.tmod_eq_emod_of_nonneg ha] at this
theorem comes_quo {d : Nat} {k : IntKind} {a b : Int} (hl : lookW ops i T = some (some d, .div false (.int k a) (.int k b))) (ha : 0 ≤ a) (hb : 0 < b) (hw : IntKind.wrap k (a / b) = a / b) : Comes P ops i T d (.int k (a / b)) w := by
  have := comes_div (P := P) (w := w) hl (by omega)
  rwa [if_neg (by simp), Int.tdiv_eq_ediv_of_nonneg ha, hw] at this
end
theorem Own.bounds {α : Type} {t : Ty α} {e : Nat} {w : World} {lo hi : Nat} {v : Value} {l : List α} (h : Own t e w lo hi v l) : l.length ≤ 140737488355328 := h.2.2
theorem getD_of {α : Type} {l : List α} {i : Nat} {x d : α} (h : i < l.length) (e : x = l[i]) : l.getD i d = x := by
  rw [List.getD_eq_getElem?_getD, List.getElem?_eq_getElem h, e]; rfl
theorem beq_conj {b : Bool} {p : Prop} (h : (b = true) = p) (hp : p) : b = true := h.mpr hp
theorem imax (x y : Int) : (if y > x then y else x) = max x y := by split <;> omega
theorem imin (x y : Int) : (if y < x then y else x) = min x y := by split <;> omega
section
variable {P : Program} {ops : Array Oper} {Q : Exit → Act → World → Prop} {w : World} {T : Array Value} {df : List Deferred} {α : Type} {t : Ty α}
/-- x[i:] -/
theorem st_from {i d tn e : Nat} {rest : List Nat} {A : Option Addr} {n c : Nat} {lo : Value} {i' : Int} {l : List α} {b1 b2 k : Nat}
    (hl : look ops i T = some (some d, .slice tn (.slice A n c) (some lo) none)) (ht : P.underlying tn = some (.slice e)) (hs : (P.info? e).map (·.size) = some t.sz)
    (hlo : bndOf (some lo) 0 = some i') (h0 : 0 ≤ i') (h1 : i' ≤ n) (hn : n = l.length) (hc : l.length ≤ c) (hA : A = none → c = 0) (hr : RdA t w b1 b2 A l) (hk' : i'.toNat = k)
    (hk : ∀ A' c', RdA t w b1 b2 A' (l.drop k) → (l.drop k).length ≤ c' → (A' = none → c' = 0) → Run P ops Q rest ⟨puts T [(d, .slice A' (l.drop k).length c')], df⟩ w) :
    Run P ops Q (i :: rest) ⟨T, df⟩ w := by
  subst hk'
  have e1 : l.take ((l.length : Nat) : Int).toNat = l := by simp
  refine st_cut (t := t) (i' := i') (j := (n : Int)) (l := l) hl ht hs hlo rfl h0 h1 (Int.le_refl _) hn hc hA hr ?_
  subst hn
  rw [e1]
  exact hk
/-- x[:j] -/
theorem st_upto {i d tn e : Nat} {rest : List Nat} {A : Option Addr} {n c : Nat} {hi : Value} {j : Int} {l : List α} {b1 b2 k : Nat}
    (hl : look ops i T = some (some d, .slice tn (.slice A n c) none (some hi))) (ht : P.underlying tn = some (.slice e)) (hs : (P.info? e).map (·.size) = some t.sz)
    (hhi : bndOf (some hi) n = some j) (h0 : 0 ≤ j) (h1 : j ≤ n) (hn : n = l.length) (hc : l.length ≤ c) (hA : A = none → c = 0) (hr : RdA t w b1 b2 A l) (hk' : j.toNat = k)
    (hk : ∀ A' c', RdA t w b1 b2 A' (l.take k) → (l.take k).length ≤ c' → (A' = none → c' = 0) → Run P ops Q rest ⟨puts T [(d, .slice A' (l.take k).length c')], df⟩ w) :
    Run P ops Q (i :: rest) ⟨T, df⟩ w := by
  subst hk'
  refine st_cut (t := t) (i' := 0) (j := j) (l := l) hl ht hs rfl hhi (Int.le_refl _) h0 h1 hn hc hA hr ?_
  exact hk
end
theorem lev_step {l : List UInt8} {n i : Nat} {y : UInt8} (h1 : i ≤ n) (h2 : n < l.length) (hy : y = l[i]) : lev ((l.take (n + 1)).drop i) = y.toNat + 256 * lev ((l.take (n + 1)).drop (i + 1)) := by
  have h3 : i < (l.take (n + 1)).length := by rw [List.length_take]; omega
  rw [List.drop_eq_getElem_cons h3, lev, List.getElem_take, hy]
theorem eq_step {α : Type} {l m : List α} {i : Nat} {x y : α} (h1 : i < l.length) (h2 : i < m.length) (hx : x = l[i]) (hy : y = m[i]) (h : l.take i = m.take i) (he : x = y) : l.take (i + 1) = m.take (i + 1) := by
  rw [List.take_succ_eq_append_getElem h1, List.take_succ_eq_append_getElem h2, h, ← hx, ← hy, he]
theorem u8_ext {x y : UInt8} (h : (x.toNat : Int) = (y.toNat : Int)) : x = y := UInt8.toNat_inj.1 (by omega)
end Go.Vx
