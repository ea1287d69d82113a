/-
  Slices: lists of elements of one kind, read (RdA) and appended to (Own). My own text.
-/
import Derived.Test.YtjkapifbinmjhaaVx2
namespace Go.Vx
open Go.RowKit

/-- A kind of elements: how many cells, which. -/
structure Ty (α : Type) where
  sz : Nat
  enc : α → List Value
  len : ∀ x, (enc x).length = sz
  one : ∀ x, ∀ u ∈ enc x, u.oneCell' = true
  pos : 0 < sz

def Ty.cells {α : Type} (t : Ty α) (l : List α) : List Value := l.flatMap t.enc

section
variable {α : Type} {t : Ty α}
theorem Ty.cells_len (l : List α) : (t.cells l).length = l.length * t.sz := by
  induction l with
  | nil => simp [Ty.cells]
  | cons x l ih =>
    have : t.cells (x :: l) = t.enc x ++ t.cells l := rfl
    rw [this, List.length_append, ih, t.len, List.length_cons, Nat.add_mul]; omega
theorem Ty.cells_append (l m : List α) : t.cells (l ++ m) = t.cells l ++ t.cells m := List.flatMap_append
theorem Ty.cells_one (l : List α) : ∀ u ∈ t.cells l, u.oneCell' = true := by
  intro u hu
  obtain ⟨x, _, hx⟩ := List.mem_flatMap.1 hu
  exact t.one x u hx
theorem Ty.cells_at (l : List α) (i : Nat) (hi : i < l.length) : ∀ j u, (t.enc l[i])[j]? = some u → (t.cells l)[i * t.sz + j]? = some u := by
  induction l generalizing i with
  | nil => simp at hi
  | cons x l ih =>
    intro j u hu
    have hc : t.cells (x :: l) = t.enc x ++ t.cells l := rfl
    rw [hc]
    cases i with
    | zero =>
      simp only [List.getElem_cons_zero] at hu
      have hj : j < (t.enc x).length := (List.getElem?_eq_some_iff.1 hu).1
      rw [Nat.zero_mul, Nat.zero_add, List.getElem?_append_left hj]; exact hu
    | succ i =>
      have := ih i (by simpa using hi) j u (by simpa using hu)
      rw [List.getElem?_append_right (by rw [t.len, Nat.succ_mul]; omega), t.len]
      rw [show (i + 1) * t.sz + j - t.sz = i * t.sz + j by rw [Nat.succ_mul]; omega]
      exact this

/-- The slice's first cell is A; the blocks lie in [lo, hi); it reads as l. -/
def RdA (t : Ty α) (w : World) (lo hi : Nat) (A : Option Addr) (l : List α) : Prop :=
  l.length ≤ 140737488355328 ∧ (0 < l.length → ∃ b o, A = some ⟨b, o, none⟩ ∧ lo ≤ b ∧ b < hi ∧ At w b o (t.cells l))

theorem RdA.len {w : World} {lo hi : Nat} {A : Option Addr} {l : List α} (h : RdA t w lo hi A l) : l.length ≤ 140737488355328 := h.1
theorem RdA.nil {w : World} {lo hi : Nat} {A : Option Addr} : RdA t w lo hi A [] := ⟨by simp, fun h => absurd h (by simp)⟩
theorem RdA.mod {S : Nat → Prop} {w w' : World} {lo hi : Nat} {A : Option Addr} {l : List α} (h : RdA t w lo hi A l) (m : Mod S w w') (hS : ∀ k, lo ≤ k → k < hi → ¬ S k) : RdA t w' lo hi A l :=
  ⟨h.1, fun hl => let ⟨b, o, e, h1, h2, h3⟩ := h.2 hl; ⟨b, o, e, h1, h2, h3.mod m (hS b h1 h2)⟩⟩
theorem RdA.mod0 {w w' : World} {lo hi : Nat} {A : Option Addr} {l : List α} (h : RdA t w lo hi A l) (m : Mod Nil w w') : RdA t w' lo hi A l := h.mod m fun _ _ _ q => q
theorem RdA.wide {w : World} {lo hi lo' hi' : Nat} {A : Option Addr} {l : List α} (h : RdA t w lo hi A l) (h1 : lo' ≤ lo) (h2 : hi ≤ hi') : RdA t w lo' hi' A l :=
  ⟨h.1, fun hl => let ⟨b, o, e, h3, h4, h5⟩ := h.2 hl; ⟨b, o, e, Nat.le_trans h1 h3, Nat.lt_of_lt_of_le h4 h2, h5⟩⟩
theorem RdA.bound {w : World} {lo hi : Nat} {A : Option Addr} {l : List α} (h : RdA t w lo hi A l) : RdA t w lo w.heap.size A l :=
  ⟨h.1, fun hl => let ⟨b, o, e, h3, _, h5⟩ := h.2 hl; ⟨b, o, e, h3, h5.lt, h5⟩⟩
theorem RdA.get {w : World} {lo hi : Nat} {A : Option Addr} {l : List α} (h : RdA t w lo hi A l) {i : Nat} (hi' : i < l.length) :
    ∃ b o, A = some ⟨b, o, none⟩ ∧ lo ≤ b ∧ b < hi ∧ At w b (o + i * t.sz) (t.enc l[i]) := by
  obtain ⟨b, o, e, h1, h2, h3⟩ := h.2 (by omega)
  exact ⟨b, o, e, h1, h2, h3.sub (Ty.cells_at l i hi')⟩
theorem RdA.take {w : World} {lo hi : Nat} {A : Option Addr} {l : List α} (h : RdA t w lo hi A l) (k : Nat) : RdA t w lo hi A (l.take k) := by
  refine ⟨by have := h.1; simp only [List.length_take]; omega, fun hl => ?_⟩
  obtain ⟨b, o, e, h1, h2, h3⟩ := h.2 (by simp only [List.length_take] at hl; omega)
  refine ⟨b, o, e, h1, h2, ?_⟩
  have := h3.sub (k := 0) (ds := t.cells (l.take k)) (fun j u hu => ?_)
  · rwa [Nat.add_zero] at this
  · have hj : j < (t.cells (l.take k)).length := (List.getElem?_eq_some_iff.1 hu).1
    rw [Nat.zero_add]
    conv => lhs; rw [← List.take_append_drop k l, Ty.cells_append]
    rw [List.getElem?_append_left hj]; exact hu
theorem RdA.drop {w : World} {lo hi : Nat} {A : Option Addr} {l : List α} {c k : Nat} (h : RdA t w lo hi A l) (hc : l.length ≤ c) (hk : k ≤ l.length) :
    RdA t w lo hi (if c = k then A else A.map (·.add (k * t.sz))) (l.drop k) := by
  refine ⟨by have := h.1; simp only [List.length_drop]; omega, fun hl => ?_⟩
  simp only [List.length_drop] at hl
  obtain ⟨b, o, e, h1, h2, h3⟩ := h.2 (by omega)
  refine ⟨b, o + k * t.sz, ?_, h1, h2, h3.sub fun j u hu => ?_⟩
  · rw [if_neg (by omega), e]; simp [add_mk]
  · conv => lhs; rw [← List.take_append_drop k l, Ty.cells_append]
    rw [List.getElem?_append_right (by rw [Ty.cells_len, List.length_take, Nat.min_eq_left hk]; omega)]
    rw [Ty.cells_len, List.length_take, Nat.min_eq_left hk, Nat.add_sub_cancel_left]; exact hu
/-- A literal's block, read as a slice. -/
theorem Blk.rd {w : World} {b e : Nat} {C : List Value} {l : List α} (h : Blk w b e C) (hC : C = t.cells l) (hl : l.length ≤ 140737488355328) (lo hi : Nat) (h1 : lo ≤ b) (h2 : b < hi) : RdA t w lo hi (some ⟨b, 0, none⟩) l :=
  ⟨hl, fun _ => ⟨b, 0, rfl, h1, h2, hC ▸ h.at⟩⟩

/-- v is a slice of the call's own (elements of type e), at the head of a block in [lo, hi), that may be appended to. -/
def Own (t : Ty α) (e : Nat) (w : World) (lo hi : Nat) (v : Value) (l : List α) : Prop :=
  w.ownsRow lo e t.sz v l.length (t.cells l) ∧ (∀ g, v.ownBlock = some g → g < hi) ∧ l.length ≤ 140737488355328

theorem Own.nil {e : Nat} {w : World} {lo hi : Nat} : Own t e w lo hi (.slice none 0 0) ([] : List α) := ⟨World.ownsRow_nil _ _ _ _, by simp [Value.ownBlock], by simp⟩
theorem Own.mod {S : Nat → Prop} {e : Nat} {w w' : World} {lo hi : Nat} {v : Value} {l : List α} (h : Own t e w lo hi v l) (m : Mod S w w') (hS : ∀ k, lo ≤ k → k < hi → ¬ S k) : Own t e w' lo hi v l := by
  obtain ⟨h1, h2, h3⟩ := h
  refine ⟨⟨h1.1, ?_⟩, h2, h3⟩
  rcases h1.2 with h1 | ⟨g, cap, cur, rfl, hg, hb, r⟩
  · exact .inl h1
  · exact .inr ⟨g, cap, cur, rfl, hg, (m.block g (Array.getElem?_eq_some_iff.1 hb).1 (hS g hg (h2 g rfl))).trans hb, r⟩
theorem Own.mod0 {e : Nat} {w w' : World} {lo hi : Nat} {v : Value} {l : List α} (h : Own t e w lo hi v l) (m : Mod Nil w w') : Own t e w' lo hi v l := h.mod m fun _ _ _ q => q
theorem Own.wide {e : Nat} {w : World} {lo hi lo' hi' : Nat} {v : Value} {l : List α} (h : Own t e w lo hi v l) (h1 : lo' ≤ lo) (h2 : hi ≤ hi') : Own t e w lo' hi' v l := by
  refine ⟨⟨h.1.1, ?_⟩, fun g hg => Nat.lt_of_lt_of_le (h.2.1 g hg) h2, h.2.2⟩
  rcases h.1.2 with h3 | ⟨g, cap, cur, rfl, hg, r⟩
  · exact .inl h3
  · exact .inr ⟨g, cap, cur, rfl, Nat.le_trans h1 hg, r⟩
theorem Own.bound {e : Nat} {w : World} {lo hi : Nat} {v : Value} {l : List α} (h : Own t e w lo hi v l) : Own t e w lo w.heap.size v l := ⟨h.1, fun g hg => (h.1.lt g hg).2, h.2.2⟩
theorem Own.rd {e : Nat} {w : World} {lo hi : Nat} {v : Value} {l : List α} (h : Own t e w lo hi v l) : ∃ A c, v = .slice A l.length c ∧ l.length ≤ c ∧ (A = none → c = 0) ∧ RdA t w lo hi A l := by
  obtain ⟨h1, h2, h3⟩ := h
  rcases h1.2 with ⟨rfl, h0⟩ | ⟨g, cap, cur, rfl, hg, hb, hc, hm, hs, ht⟩
  · exact ⟨none, 0, by rw [h0], by omega, fun _ => rfl, h3, fun hl => by omega⟩
  · refine ⟨some ⟨g, 0, none⟩, cap, rfl, hc, (by intro h; cases h), h3, fun hl => ⟨g, 0, rfl, hg, h2 g rfl, cur, e, _, hb, fun j u hu => ?_⟩⟩
    rw [← ht, List.getElem?_take] at hu
    split at hu
    · simpa using hu
    · cases hu
/-- A new block, as a slice of the call's own. -/
theorem Blk.own {w : World} {b e : Nat} {C : List Value} {l : List α} (h : Blk w b e C) (hC : C = t.cells l) (hl : l.length ≤ 140737488355328) (lo hi : Nat) (h1 : lo ≤ b) (h2 : b < hi) : Own t e w lo hi (.slice (some ⟨b, 0, none⟩) l.length l.length) l := by
  subst hC
  refine ⟨⟨Ty.cells_len l, .inr ⟨b, l.length, (t.cells l).toArray, rfl, h1, h, Nat.le_refl _, by unfold maxLen; omega, by simp [Ty.cells_len], ?_⟩⟩, ?_, hl⟩
  · simp [← Ty.cells_len]
  · intro g hg; simp only [Value.ownBlock, Option.some.injEq] at hg; omega
end

section
variable {P : Program} {ops : Array Oper} {Q : Exit → Act → World → Prop} {w : World} {T : Array Value} {df : List Deferred} {i : Nat} {rest : List Nat} {α : Type} {t : Ty α}

/-- x[i] of a slice: the address. -/
theorem st_index {d tn e n : Nat} {k : IntKind} {A : Option Addr} {c : Nat} {b o : Nat} {ix : Int} (hl : look ops i T = some (some d, .indexAddr tn (.slice A n c) (.int k ix)))
    (ht : P.underlying tn = some (.slice e)) (hs : (P.info? e).map (·.size) = some t.sz) (hA : A = some ⟨b, o, none⟩) (h0 : 0 ≤ ix) (h1 : ix < n)
    (hk : Run P ops Q rest ⟨puts T [(d, .pointer (some ⟨b, o + ix.toNat * t.sz, none⟩))], df⟩ w) : Run P ops Q (i :: rest) ⟨T, df⟩ w := by
  obtain ⟨op, ho, hw, hd, hx⟩ := look_spec hl (by simp) (by simp)
  refine st_op ho hd hw ?_ hk
  rw [hx]
  obtain ⟨ti, hi, hsz⟩ := Option.map_eq_some_iff.1 hs
  subst hA
  simp [OpV.sem, Instr.indexAt, asIntOf, run_underlying ht, h0, h1, sizeOf, typeInfo, hi, hsz, add_mk]

theorem run_append {tn e bytes : Nat} {z : Value} {ty : TypeId} {lo hi lo' hi' : Nat} {v : Value} {A : Option Addr} {c : Nat} {l m : List α}
    (ht : P.underlying tn = some (.slice e)) (hs : (P.info? e).map (fun x => (x.zero, x.size, x.bytes)) = some (some z, t.sz, bytes)) (hz : z.cells.size = t.sz) (hb : 0 < bytes)
    (h : Own t e w lo hi v l) (hm : RdA t w lo' hi' A m) (hlen : (l.length + m.length) * bytes ≤ 140737488355328) (hlo : lo ≤ w.heap.size) (hn : A = none → c = 0) :
    ∃ v' w', (Builtin.append_ #[tn, tn] ty #[v, .slice A m.length c]).run P w = .ok v' w' ∧ Mod (Iv lo hi) w w' ∧ Own t e w' lo w'.heap.size v' (l ++ m) := by
  obtain ⟨ti, hi', hzz⟩ := Option.map_eq_some_iff.1 hs
  simp only [Prod.mk.injEq] at hzz
  obtain ⟨hz0, hz1, hz2⟩ := hzz
  have hll : (l.length + m.length) * 1 ≤ (l.length + m.length) * bytes := Nat.mul_le_mul_left _ hb
  by_cases h0 : A = none
  · subst h0
    have hm0 : m = [] := by
      cases m with
      | nil => rfl
      | cons x m =>
        obtain ⟨b, o, e, _⟩ := hm.2 (by simp)
        cases e
    subst hm0
    have := run_append_owned_none (P := P) w lo tn ty e ti t.sz ht hi' v l.length (t.cells l) h.1
    rw [hn rfl]
    exact ⟨v, w, this, Mod.refl _ _, by rw [List.append_nil]; exact h.bound⟩
  · have hA : ∃ a, A = some a := by cases A with | none => exact absurd rfl h0 | some a => exact ⟨a, rfl⟩
    obtain ⟨a, rfl⟩ := hA
    have hnews : ∀ j u, (t.cells m)[j]? = some u → w.cell? (a.add j) = some u := by
      intro j u hu
      have hj : j < (t.cells m).length := (List.getElem?_eq_some_iff.1 hu).1
      rw [Ty.cells_len] at hj
      obtain ⟨b, o, e, _, _, hat⟩ := hm.2 (by
        rcases Nat.eq_zero_or_pos m.length with h | h
        · rw [h] at hj; omega
        · exact h)
      cases e
      rw [add_mk]
      exact hat.cell hu
    obtain ⟨v', w', h1, h2, h3, _, h5⟩ := run_append_own_at (P := P) w lo tn ty e ti z t.sz bytes ht hi' hz0 hz1 hz2 hz t.pos v l.length (t.cells l) h.1 a m.length c (t.cells m) (Ty.cells_len m) hnews (Ty.cells_one m)
      (by unfold maxLen; omega) hlen hlo
    refine ⟨v', w', h1, ⟨h3.os, h3.tape, h3.output, h3.size, fun k hk hn => h3.block k hk fun e => hn ⟨(h.1.lt k e.symm).1, h.2.1 k e.symm⟩⟩, ?_, ?_, by simp only [List.length_append]; omega⟩
    · rw [List.length_append, Ty.cells_append]; exact h2
    · intro g hg; exact (h2.lt g hg).2

/-- append(v, m...) -/
theorem st_append {d tn e bytes : Nat} {z : Value} {ty : TypeId} {lo hi lo' hi' : Nat} {v : Value} {A : Option Addr} {n c : Nat} {l m : List α}
    (hl : look ops i T = some (some d, .builtin .append ty [tn, tn] [v, .slice A n c]))
    (ht : P.underlying tn = some (.slice e)) (hs : (P.info? e).map (fun x => (x.zero, x.size, x.bytes)) = some (some z, t.sz, bytes)) (hz : z.cells.size = t.sz) (hb : 0 < bytes)
    (h : Own t e w lo hi v l) (hm : RdA t w lo' hi' A m) (hnm : n = m.length) (hlen : (l.length + m.length) * bytes ≤ 140737488355328) (hlo : lo ≤ w.heap.size) (hn : A = none → c = 0)
    (hk : ∀ v' w', Mod (Iv lo hi) w w' → Own t e w' lo w'.heap.size v' (l ++ m) → Run P ops Q rest ⟨puts T [(d, v')], df⟩ w') : Run P ops Q (i :: rest) ⟨T, df⟩ w := by
  obtain ⟨op, ho, hw, hd, hx⟩ := look_spec hl (by simp) (by rintro b _ _ _ h; injection h with h; subst h; simp)
  subst hnm
  obtain ⟨v', w', h1, h2, h3⟩ := run_append (ty := ty) (c := c) ht hs hz hb h hm hlen hlo hn
  refine st_op ho hd hw ?_ (hk v' w' h2 h3)
  rw [hx]
  simp only [OpV.sem, builtin, Sem.run_bind]
  rw [show ([tn, tn].toArray : Array TypeId) = #[tn, tn] from rfl, show ([v, Value.slice A m.length c].toArray : Array Value) = #[v, Value.slice A m.length c] from rfl, h1]
  rfl
end
end Go.Vx
