/-
  x[i] = v in a row of one's own; make([]T, n). My own text.
-/
import Derived.Test.YtjkapifbinmjhaaVxB
namespace Go.Vx
open Go.RowKit
section
variable {α : Type} {t : Ty α}
theorem Ty.cells_set (l : List α) (i : Nat) (x : α) (hi : i < l.length) : t.cells (l.set i x) = (t.cells l).take (i * t.sz) ++ t.enc x ++ (t.cells l).drop (i * t.sz + t.sz) := by
  have h1 : l.set i x = l.take i ++ x :: l.drop (i + 1) := List.set_eq_take_append_cons_drop .. |>.trans (by rw [if_pos hi])
  have hl : l = l.take i ++ l[i] :: l.drop (i + 1) := by rw [List.getElem_cons_drop, List.take_append_drop]
  have hc : ∀ (a : List α) (y : α) (b : List α), t.cells (a ++ y :: b) = t.cells a ++ (t.enc y ++ t.cells b) := fun a y b => by rw [Ty.cells_append]; rfl
  have hlen : (t.cells (l.take i)).length = i * t.sz := by rw [Ty.cells_len, List.length_take, Nat.min_eq_left (by omega)]
  have h2 : t.cells l = t.cells (l.take i) ++ (t.enc l[i] ++ t.cells (l.drop (i + 1))) := by conv => lhs; rw [hl]
                                                                                             exact hc _ _ _
  rw [h1, hc, h2, List.take_left' hlen]
  have h3 : (t.cells (l.take i) ++ (t.enc l[i] ++ t.cells (l.drop (i + 1)))).drop (i * t.sz + t.sz) = t.cells (l.drop (i + 1)) := by
    rw [← List.append_assoc]
    exact List.drop_left' (by rw [List.length_append, hlen, t.len])
  rw [h3, List.append_assoc]
theorem replicate_enc (n : Nat) (x : α) : t.cells (List.replicate n x) = (List.replicate n (t.enc x)).flatten := by
  induction n with
  | zero => rfl
  | succ n ih => rw [List.replicate_succ, List.replicate_succ, List.flatten_cons, ← ih]; rfl
theorem madeCells_enc {z : Array Value} {x : α} (hz : z.toList = t.enc x) (n : Nat) : (madeCells z (n * t.sz)).toList = t.cells (List.replicate n x) := by
  have hzs : z.size = t.sz := by rw [← Array.length_toList, hz, t.len]
  apply List.ext_getElem
  · rw [Array.length_toList, size_madeCells, Ty.cells_len, List.length_replicate]
  · intro i h1 h2
    have hp := t.pos
    rw [Array.length_toList, size_madeCells] at h1
    have hq : i / t.sz < n := Nat.div_lt_of_lt_mul (by rw [Nat.mul_comm]; exact h1)
    have hm : i % t.sz < t.sz := Nat.mod_lt _ hp
    have hat := Ty.cells_at (t := t) (List.replicate n x) (i / t.sz) (by simpa using hq) (i % t.sz) ((t.enc x)[i % t.sz]'(by rw [t.len]; exact hm)) (by
      rw [List.getElem_replicate]; exact List.getElem?_eq_getElem _)
    have hi : i / t.sz * t.sz + i % t.sz = i := by rw [Nat.mul_comm]; exact Nat.div_add_mod i t.sz
    rw [hi] at hat
    have := (List.getElem?_eq_some_iff.1 hat).2
    rw [this]
    simp only [madeCells, Array.getElem_toList, Array.getElem_map, Array.getElem_range, hzs]
    rw [getElem!_pos z (i % t.sz) (by omega), ← Array.getElem_toList]
    simp only [hz]
end
section
variable {P : Program} {ops : Array Oper} {Q : Exit → Act → World → Prop} {w : World} {T : Array Value} {df : List Deferred} {i : Nat} {rest : List Nat} {α : Type} {t : Ty α}

/-- x[k] = v, x a row of the call's own. -/
theorem st_storeO {ti e b o k n c lo hi : Nat} {v : Value} {x : α} {l : List α} (hl : look ops i T = some (none, .store ti (.pointer (some ⟨b, o + k * t.sz, none⟩)) v))
    (h : Own t e w lo hi (.slice (some ⟨b, o, none⟩) n c) l) (hv : v.cells.toList = t.enc x) (hs : (P.info? ti).map (·.size) = some t.sz) (hk : k < l.length)
    (hq : ∀ w', Mod (Iv lo hi) w w' → w'.heap.size = w.heap.size → lo ≤ b → b < hi → Own t e w' lo hi (.slice (some ⟨b, o, none⟩) n c) (l.set k x) → Run P ops Q rest ⟨T, df⟩ w') : Run P ops Q (i :: rest) ⟨T, df⟩ w := by
  obtain ⟨op, ho, hw, hd, hx⟩ := look_spec hl (by simp) (by simp)
  obtain ⟨inf, hi', hsz⟩ := Option.map_eq_some_iff.1 hs
  obtain ⟨⟨h1, h2⟩, h3, h4⟩ := h
  rcases h2 with ⟨h5, _⟩ | ⟨g, cap, cur, hg, hlo, hb, hc, hm, hcs, ht⟩
  · simp at h5
  · simp only [Value.slice.injEq, Option.some.injEq, Addr.mk.injEq, and_true] at hg
    obtain ⟨⟨rfl, rfl⟩, rfl, rfl⟩ := hg
    have hbhi : b < hi := h3 b rfl
    have hlen : (t.enc x).length = t.sz := t.len x
    have hmul : k * t.sz + t.sz ≤ c * t.sz := by rw [← Nat.succ_mul]; exact Nat.mul_le_mul_right _ (by omega)
    have hrun := run_storeCells_at (P := P) b (k * t.sz) e (t.enc x) 0 cur w hb (by rw [hlen]; omega) (t.one x)
    have hnew := setRow_heap w b cur (cur.toList.take (k * t.sz + 0) ++ t.enc x ++ cur.toList.drop (k * t.sz + 0 + (t.enc x).length)).toArray e _ hb
    have hmod : Mod (Iv lo hi) w (w.setRow b (cur.toList.take (k * t.sz + 0) ++ t.enc x ++ cur.toList.drop (k * t.sz + 0 + (t.enc x).length)).toArray) :=
      ⟨rfl, rfl, rfl, by simp, fun j _ hn => setRow_other w b j _ (fun e => hn (by subst e; exact ⟨hlo, hbhi⟩))⟩
    refine st_skip ho hd hw ?_ (hq _ hmod (by simp) hlo hbhi ⟨⟨Ty.cells_len _, .inr ⟨b, c, _, by rw [List.length_set], hlo, hnew, by rw [List.length_set]; exact hc, hm, ?_, ?_⟩⟩, h3, by rw [List.length_set]; exact h4⟩)
    · rw [hx]
      unfold OpV.sem Instr.storeAt
      simp only [Instr.sureAddr]
      have hvs : v.cells.size = t.sz := by rw [← Array.length_toList, hv, hlen]
      have hsz' : (sizeOf ti).run P w = .ok v.cells.size w := by simp [sizeOf, typeInfo, hi', hsz, hvs]
      rw [Nat.zero_add]
      simp only [Sem.run_bind, Sem.run_pure, Result.andThen_ok, storeVar, hsz', ne_eq, not_true_eq_false, if_false, hv, hrun]
    · simp only [List.size_toArray, List.length_append, List.length_take, List.length_drop, Array.length_toList, hcs, hlen, Nat.add_zero]; omega
    · rw [List.length_set, Ty.cells_set l k x hk, ← ht]
      have hll : l.length * t.sz ≤ c * t.sz := Nat.mul_le_mul_right _ hc
      have hkl : k * t.sz + t.sz ≤ l.length * t.sz := by rw [← Nat.succ_mul]; exact Nat.mul_le_mul_right _ (by omega)
      simp only [Nat.add_zero, hlen]
      generalize hL : l.length * t.sz = L at *
      generalize hK : k * t.sz = K at *
      generalize t.sz = S at *
      have hcl : cur.toList.length = c * S := by rw [Array.length_toList, hcs]
      rw [List.take_take, Nat.min_eq_left (by omega), List.take_append, List.take_of_length_le (l := List.take K cur.toList ++ t.enc x) (by simp only [List.length_append, List.length_take, hlen]; omega)]
      congr 1
      rw [List.drop_take]
      congr 1
      simp only [List.length_append, List.length_take, hlen, hcl]
      omega

theorem Own.rdSelf {e : Nat} {w : World} {lo hi n c : Nat} {A : Option Addr} {l : List α} (h : Own t e w lo hi (.slice A n c) l) : n = l.length ∧ l.length ≤ c ∧ (A = none → c = 0) ∧ RdA t w lo hi A l := by
  obtain ⟨A', c', he, h1, h2, h3⟩ := h.rd
  injection he with e1 e2 e3
  subst e1 e2 e3
  exact ⟨rfl, h1, h2, h3⟩

/-- make([]T, n) -/
theorem st_make {d tn e bytes : Nat} {k k' : IntKind} {n : Int} {z : Value} {x : α} (hl : look ops i T = some (some d, .makeSlice tn (.int k n) (.int k' n)))
    (ht : P.underlying tn = some (.slice e)) (hs : (P.info? e).map (fun x => (x.zero, x.size, x.bytes)) = some (some z, t.sz, bytes)) (hz : z.cells.toList = t.enc x) (h0 : 0 ≤ n) (hn : n * bytes ≤ 140737488355328) (hb : 0 < bytes)
    (hk : ∀ A w', Mod Nil w w' → Own t e w' w.heap.size w'.heap.size (.slice A n.toNat n.toNat) (List.replicate n.toNat x) → Run P ops Q rest ⟨puts T [(d, .slice A n.toNat n.toNat)], df⟩ w') : Run P ops Q (i :: rest) ⟨T, df⟩ w := by
  obtain ⟨op, ho, hw, hd, hx⟩ := look_spec hl (by simp) (by simp)
  obtain ⟨inf, hi', hzz⟩ := Option.map_eq_some_iff.1 hs
  simp only [Prod.mk.injEq] at hzz
  obtain ⟨hz0, hz1, hz2⟩ := hzz
  obtain ⟨n, rfl⟩ := Int.eq_ofNat_of_zero_le h0
  have hn' : n * bytes ≤ 140737488355328 := by
    have : ((n * bytes : Nat) : Int) ≤ 140737488355328 := by rw [Int.natCast_mul]; exact hn
    omega
  have hnn : n ≤ n * bytes := Nat.le_mul_of_pos_right _ hb
  obtain ⟨w', hr, hown, hg⟩ := run_make_full (P := P) w w.heap.size tn e inf z t.sz ht hi' hz0 hz1 k k' n (by rw [hz2, Nat.mul_comm]; omega) (by unfold maxLen; omega) (Nat.le_refl _)
  have hm : Mod Nil w w' := ⟨hg.os, hg.tape, hg.output, hg.size, fun j hj _ => hg.block j hj (by simp)⟩
  rw [madeCells_enc hz] at hown
  refine st_op ho hd hw ?_ (hk (some ⟨w.heap.size, 0, none⟩) w' hm ⟨by simpa using hown, fun g hg => ?_, by simp; omega⟩)
  · rw [hx]
    simp only [OpV.sem, Sem.run_bind]
    rw [hr]
    rfl
  · exact (hown.lt g hg).2
end
end Go.Vx
