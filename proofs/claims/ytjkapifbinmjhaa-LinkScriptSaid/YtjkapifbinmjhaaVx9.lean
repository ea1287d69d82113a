/-
  x[i:j] of a slice; string(b) of bytes; equality of structs. My own text.
-/
import Derived.Test.YtjkapifbinmjhaaVx8
namespace Go.Vx
open Go.RowKit
section
variable {P : Program} {ops : Array Oper} {Q : Exit → Act → World → Prop} {w : World} {T : Array Value} {df : List Deferred} {α : Type} {t : Ty α}

def bndOf (v : Option Value) (d : Int) : Option Int := match v with | none => some d | some (.int _ i) => some i | _ => none

theorem run_cut {tn e : Nat} {A : Option Addr} {n c : Nat} {lo hi : Option Value} {i j : Int} (ht : P.underlying tn = some (.slice e)) (hs : (P.info? e).map (·.size) = some t.sz)
    (hlo : bndOf lo 0 = some i) (hhi : bndOf hi n = some j) (h0 : 0 ≤ i) (h1 : i ≤ j) (h2 : j ≤ n) (hc : n ≤ c) :
    (Instr.sliceAt tn (.slice A n c) lo hi none).run P w = .ok (.slice (if c = i.toNat then A else A.map (·.add (i.toNat * t.sz))) (j.toNat - i.toNat) (c - i.toNat)) w := by
  obtain ⟨ti, hi', hsz⟩ := Option.map_eq_some_iff.1 hs
  have hlo' : (lo = none ∧ i = 0) ∨ ∃ k, lo = some (.int k i) := by
    cases lo with
    | none => left; simp only [bndOf, Option.some.injEq] at hlo; exact ⟨rfl, hlo.symm⟩
    | some v => right; cases v <;> simp only [bndOf, Option.some.injEq, reduceCtorEq] at hlo; subst hlo; exact ⟨_, rfl⟩
  have hhi' : (hi = none ∧ j = n) ∨ ∃ k, hi = some (.int k j) := by
    cases hi with
    | none => left; simp only [bndOf, Option.some.injEq] at hhi; exact ⟨rfl, hhi.symm⟩
    | some v => right; cases v <;> simp only [bndOf, Option.some.injEq, reduceCtorEq] at hhi; subst hhi; exact ⟨_, rfl⟩
  have hj0 : 0 ≤ j := by omega
  have hjc : j ≤ (c : Int) := by omega
  have hz : (sizeOf e).run P w = .ok t.sz w := by simp [sizeOf, typeInfo, hi', hsz]
  have hij : i ≤ ((j.toNat : Nat) : Int) := by omega
  rcases hlo' with ⟨rfl, rfl⟩ | ⟨k, rfl⟩ <;> rcases hhi' with ⟨rfl, rfl⟩ | ⟨k', rfl⟩ <;>
    simp [Instr.sliceAt, Instr.slice, Instr.sliceBounds, Instr.sliceBound, asIntOf, run_underlying ht, hz, h0, h1, hj0, hjc] <;>
    (intro hlt; exfalso; omega)

theorem st_cut {i d tn e : Nat} {rest : List Nat} {A : Option Addr} {n c : Nat} {lo hi : Option Value} {i' j : Int} {l : List α} {b1 b2 : Nat}
    (hl : look ops i T = some (some d, .slice tn (.slice A n c) lo hi)) (ht : P.underlying tn = some (.slice e)) (hs : (P.info? e).map (·.size) = some t.sz)
    (hlo : bndOf lo 0 = some i') (hhi : bndOf hi n = some j) (h0 : 0 ≤ i') (h1 : i' ≤ j) (h2 : j ≤ n) (hn : n = l.length) (hc : l.length ≤ c) (hA : A = none → c = 0) (hr : RdA t w b1 b2 A l)
    (hk : ∀ A' c', RdA t w b1 b2 A' ((l.take j.toNat).drop i'.toNat) → ((l.take j.toNat).drop i'.toNat).length ≤ c' → (A' = none → c' = 0) → Run P ops Q rest ⟨puts T [(d, .slice A' ((l.take j.toNat).drop i'.toNat).length c')], df⟩ w) :
    Run P ops Q (i :: rest) ⟨T, df⟩ w := by
  obtain ⟨op, ho, hw, hd, hx⟩ := look_spec hl (by simp) (by simp)
  subst hn
  have hlen : ((l.take j.toNat).drop i'.toNat).length = j.toNat - i'.toNat := by simp only [List.length_drop, List.length_take]; omega
  have hk' := hk (if c = i'.toNat then A else A.map (·.add (i'.toNat * t.sz))) (c - i'.toNat) ((hr.take j.toNat).drop (by simp only [List.length_take]; omega) (by simp only [List.length_take]; omega)) (by omega) (fun h => by
    split at h
    · omega
    · have : A = none := by cases A <;> simp_all
      have := hA this; omega)
  rw [hlen] at hk'
  refine st_op ho hd hw ?_ hk'
  rw [hx]
  simp only [OpV.sem, Sem.run_bind, run_cut (t := t) ht hs hlo hhi h0 h1 h2 hc]
  rfl
end
end Go.Vx
