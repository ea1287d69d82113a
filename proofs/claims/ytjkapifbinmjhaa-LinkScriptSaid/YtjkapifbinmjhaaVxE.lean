/-
  append, told more closely: the row stays in its block, or lies in a new one. My own text.
-/
import Derived.Test.YtjkapifbinmjhaaVxD
namespace Go.Vx
open Go.RowKit
section
variable {P : Program} {ops : Array Oper} {Q : Exit → Act → World → Prop} {w : World} {T : Array Value} {df : List Deferred} {i : Nat} {rest : List Nat} {α : Type} {t : Ty α}
theorem Own.at {e : Nat} {w : World} {lo hi : Nat} {v : Value} {l : List α} (h : w.ownsRow lo e t.sz v l.length (t.cells l)) (h1 : ∀ g, v.ownBlock = some g → g < hi) {lo2 hi2 : Nat} (hl : l.length ≤ 140737488355328)
    (h2 : ∀ g, v.ownBlock = some g → lo2 ≤ g ∧ g < hi2) : Own t e w lo2 hi2 v l := by
  refine ⟨⟨h.1, ?_⟩, fun g hg => (h2 g hg).2, hl⟩
  rcases h.2 with h3 | ⟨g, cap, cur, rfl, hg, r⟩
  · exact .inl h3
  · exact .inr ⟨g, cap, cur, rfl, (h2 g rfl).1, r⟩

theorem st_append2 {d tn e bytes : Nat} {z : Value} {ty : TypeId} {lo hi lo' hi' : Nat} {v : Value} {A : Option Addr} {n c : Nat} {l m : List α}
    (hl : look ops i T = some (some d, .builtin .append ty [tn, tn] [v, .slice A n c]))
    (ht : P.underlying tn = some (.slice e)) (hs : (P.info? e).map (fun x => (x.zero, x.size, x.bytes)) = some (some z, t.sz, bytes)) (hz : z.cells.size = t.sz) (hb : 0 < bytes)
    (h : Own t e w lo hi v l) (hm : RdA t w lo' hi' A m) (hnm : n = m.length) (hlen : (l.length + m.length) * bytes ≤ 140737488355328) (hlo : lo ≤ w.heap.size) (hn : A = none → c = 0)
    (hk : ∀ v' w' lo2 hi2, Mod (Iv lo hi) w w' → (lo2 = lo ∧ hi2 = hi ∨ w.heap.size ≤ lo2 ∧ lo2 ≤ hi2 ∧ hi2 ≤ w'.heap.size) → Own t e w' lo2 hi2 v' (l ++ m) → Run P ops Q rest ⟨puts T [(d, v')], df⟩ w') : Run P ops Q (i :: rest) ⟨T, df⟩ w := by
  obtain ⟨op, ho, hw, hd, hx⟩ := look_spec hl (by simp) (by rintro b _ _ _ h; injection h with h; subst h; simp)
  subst hnm
  obtain ⟨ti, hi', hzz⟩ := Option.map_eq_some_iff.1 hs
  simp only [Prod.mk.injEq] at hzz
  obtain ⟨hz0, hz1, hz2⟩ := hzz
  have hll : (l.length + m.length) * 1 ≤ (l.length + m.length) * bytes := Nat.mul_le_mul_left _ hb
  by_cases h0 : A = none
  · subst h0
    have hm0 : m = [] := by
      cases m with
      | nil => rfl
      | cons x m =>
        obtain ⟨b, o, e, _⟩ := hm.2 (by simp)
        cases e
    subst hm0
    have hr := run_append_owned_none (P := P) w lo tn ty e ti t.sz ht hi' v l.length (t.cells l) h.1
    refine st_op ho hd hw ?_ (hk v w lo hi (Mod.refl _ _) (.inl ⟨rfl, rfl⟩) (by rw [List.append_nil]; exact h))
    rw [hx, hn rfl]
    simp only [OpV.sem, builtin, Sem.run_bind]
    rw [show ([tn, tn].toArray : Array TypeId) = #[tn, tn] from rfl, show ([v, Value.slice none ([] : List α).length 0].toArray : Array Value) = #[v, Value.slice none 0 0] from rfl, hr]
    rfl
  · have hA : ∃ a, A = some a := by cases A with | none => exact absurd rfl h0 | some a => exact ⟨a, rfl⟩
    obtain ⟨a, rfl⟩ := hA
    have hnews : ∀ j u, (t.cells m)[j]? = some u → w.cell? (a.add j) = some u := by
      intro j u hu
      have hj : j < (t.cells m).length := (List.getElem?_eq_some_iff.1 hu).1
      rw [Ty.cells_len] at hj
      obtain ⟨b, o, e, _, _, hat⟩ := hm.2 (by
        rcases Nat.eq_zero_or_pos m.length with h | h
        · rw [h] at hj; omega
        · exact h)
      cases e
      rw [add_mk]
      exact hat.cell hu
    obtain ⟨v', w', h1, h2, h3, _, h5⟩ := run_append_own_at (P := P) w lo tn ty e ti z t.sz bytes ht hi' hz0 hz1 hz2 hz t.pos v l.length (t.cells l) h.1 a m.length c (t.cells m) (Ty.cells_len m) hnews (Ty.cells_one m)
      (by unfold maxLen; omega) hlen hlo
    have hmod : Mod (Iv lo hi) w w' := ⟨h3.os, h3.tape, h3.output, h3.size, fun k hk hn => h3.block k hk fun e => hn ⟨(h.1.lt k e.symm).1, h.2.1 k e.symm⟩⟩
    have h2' : w'.ownsRow lo e t.sz v' (l ++ m).length (t.cells (l ++ m)) := by rw [List.length_append, Ty.cells_append]; exact h2
    have hlen2 : (l ++ m).length ≤ 140737488355328 := by simp only [List.length_append]; omega
    have hrun : (execOp (Act.eval ⟨T, []⟩) op).run P w = .ok (.value v') w' := by
      rw [hx]
      simp only [OpV.sem, builtin, Sem.run_bind]
      rw [show ([tn, tn].toArray : Array TypeId) = #[tn, tn] from rfl, show ([v, Value.slice (some a) m.length c].toArray : Array Value) = #[v, Value.slice (some a) m.length c] from rfl, h1]
      rfl
    rcases h5 with h5 | h5
    · exact st_op ho hd hw hrun (hk v' w' lo hi hmod (.inl ⟨rfl, rfl⟩) (Own.at h2' (hi := w'.heap.size) (fun g hg => (h2.lt g hg).2) hlen2 fun g hg => by rw [h5] at hg; exact ⟨(h.1.lt g hg).1, h.2.1 g hg⟩))
    · have hb := (h2.lt _ h5).2
      exact st_op ho hd hw hrun (hk v' w' w.heap.size (w.heap.size + 1) hmod (.inr ⟨Nat.le_refl _, Nat.le_succ _, hb⟩) (Own.at h2' (hi := w'.heap.size) (fun g hg => (h2.lt g hg).2) hlen2 fun g hg => by rw [h5] at hg; cases hg; exact ⟨Nat.le_refl _, Nat.lt_succ_self _⟩))
/-- make([]T, n), the row by a name. -/
theorem st_make2 {d tn e bytes : Nat} {k k' : IntKind} {n : Int} {z : Value} {x : α} (hl : look ops i T = some (some d, .makeSlice tn (.int k n) (.int k' n)))
    (ht : P.underlying tn = some (.slice e)) (hs : (P.info? e).map (fun x => (x.zero, x.size, x.bytes)) = some (some z, t.sz, bytes)) (hz : z.cells.toList = t.enc x) (h0 : 0 ≤ n) (hn : n * bytes ≤ 140737488355328) (hb : 0 < bytes)
    (hk : ∀ A c l w', Mod Nil w w' → List.replicate n.toNat x = l → l.length = n.toNat → Own t e w' w.heap.size w'.heap.size (.slice A l.length c) l → Run P ops Q rest ⟨puts T [(d, .slice A l.length c)], df⟩ w') : Run P ops Q (i :: rest) ⟨T, df⟩ w := by
  refine st_make (t := t) hl ht hs hz h0 hn hb ?_
  intro A w' m h
  have h1 : (List.replicate n.toNat x).length = n.toNat := List.length_replicate
  have := hk A n.toNat (List.replicate n.toNat x) w' m rfl h1 (by rw [h1]; exact h)
  rw [h1] at this
  exact this
end
end Go.Vx
