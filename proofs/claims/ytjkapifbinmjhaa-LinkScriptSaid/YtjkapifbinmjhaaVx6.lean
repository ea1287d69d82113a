/-
  Small words for the written proofs: frames at a loop's head, wraps, results that lie in a cell, regions whose order is open over a class of worlds. My own text.
-/
import Derived.Test.YtjkapifbinmjhaaVx5
namespace Go.Vx
open Go.RowKit

/-- The frame is that of n slots of which these hold these values. -/
def Fr (n : Nat) (L : List (Nat × Value)) (a : Act) : Prop := ∃ T, a = ⟨puts (mkT n T) L, []⟩
theorem Fr.mk {n : Nat} {L : List (Nat × Value)} {X : Array Value} (hn : X.size = n) (h : L.map (fun p => X[p.1]?) = L.map (fun p => some p.2)) : Fr n L ⟨X, []⟩ := by
  obtain ⟨T, hT⟩ := frame_eq n X L hn h
  exact ⟨T, by rw [hT]⟩

theorem wi64 {n : Int} (h1 : -9223372036854775808 ≤ n) (h2 : n ≤ 9223372036854775807) : IntKind.wrap .i64 n = n := by
  rw [IntKind.wrap_i64]; omega
theorem wu64 {n : Int} (h1 : 0 ≤ n) (h2 : n ≤ 18446744073709551615) : IntKind.wrap .u64 n = n := by
  simp only [IntKind.wrap, IntKind.signed, IntKind.bits, Bool.false_and, Bool.false_eq_true, if_false]
  omega
theorem wu32 {n : Int} (h1 : 0 ≤ n) (h2 : n ≤ 4294967295) : IntKind.wrap .u32 n = n := by
  simp only [IntKind.wrap, IntKind.signed, IntKind.bits, Bool.false_and, Bool.false_eq_true, if_false]
  omega
theorem wu16 {n : Int} (h1 : 0 ≤ n) (h2 : n ≤ 65535) : IntKind.wrap .u16 n = n := by
  simp only [IntKind.wrap, IntKind.signed, IntKind.bits, Bool.false_and, Bool.false_eq_true, if_false]
  omega
theorem wu8 {n : Int} (h1 : 0 ≤ n) (h2 : n ≤ 255) : IntKind.wrap .u8 n = n := by
  simp only [IntKind.wrap, IntKind.signed, IntKind.bits, Bool.false_and, Bool.false_eq_true, if_false]
  omega
theorem wu8m (n : Int) : IntKind.wrap .u8 n = n % 256 := by
  simp [IntKind.wrap, IntKind.signed, IntKind.bits]

theorem At.dropk {w : World} {b o : Nat} {cs : List Value} (h : At w b o cs) (k : Nat) : At w b (o + k) (cs.drop k) := h.sub (fun j u hu => by simpa using hu)

section
variable {P : Program} {ops : Array Oper} {Q : Exit → Act → World → Prop} {w : World} {T : Array Value} {df : List Deferred}
def putD (T : Array Value) (d : Option Nat) : Array Value := match d with | some d => puts T [(d, undef)] | none => T
def unwantedAt (ops : Array Oper) (i : Nat) (T : Array Value) : Option (Option Nat) :=
  match ops[i]? with
  | some o => if Region.wanted o (yielded ops T) then none else some o.dst
  | none => none
theorem st_unwanted {i : Nat} {rest : List Nat} (d : Option Nat) (h : unwantedAt ops i T = some d) (hk : Run P ops Q rest ⟨putD T d, df⟩ w) :
    Run P ops Q (i :: rest) ⟨T, df⟩ w := by
  unfold unwantedAt at h
  split at h
  · rename_i o ho
    split at h
    · cases h
    · rename_i hw
      simp only [Option.some.injEq] at h
      subst h
      refine ⟨?_⟩
      simp only [wpOps, ho, hw, Bool.false_eq_true, if_false, Act.put]
      unfold putD at hk
      cases hd : o.dst <;> simp only [hd] at hk ⊢ <;> exact hk.h
  · cases h

def callAt (P : Program) (ops : Array Oper) (i : Nat) (T : Array Value) : Option (Option Nat × FuncId × Array Value) :=
  match ops[i]? with
  | some o => if Region.wanted o (yielded ops T) then match pureRun P (execOp (Act.eval ⟨T, []⟩) o) with | some (.enter f xs) => some (o.dst, f, xs) | _ => none else none
  | none => none
theorem callAt_spec {i : Nat} {d : Option Nat} {f : FuncId} {xs : Array Value} (h : callAt P ops i T = some (d, f, xs)) :
    ∃ o, ops[i]? = some o ∧ o.dst = d ∧ Region.wanted o (yielded ops T) = true ∧ pureRun P (execOp (Act.eval ⟨T, []⟩) o) = some (.enter f xs) := by
  unfold callAt at h
  split at h
  · rename_i o ho
    split at h
    · rename_i hw
      split at h
      · rename_i hr
        simp only [Option.some.injEq, Prod.mk.injEq] at h
        obtain ⟨rfl, rfl, rfl⟩ := h
        exact ⟨o, ho, rfl, hw, hr⟩
      · cases h
    · cases h
  · cases h
/-- A call, by its contract. -/
theorem st_fn {i : Nat} {rest : List Nat} {d : Nat} {f : FuncId} {xs : Array Value} {R : Value → World → Prop} (h : callAt P ops i T = some (some d, f, xs)) (hc : Ret P f xs w R)
    (hk : ∀ v w', R v w' → Run P ops Q rest ⟨puts T [(d, v)], df⟩ w') : Run P ops Q (i :: rest) ⟨T, df⟩ w := by
  obtain ⟨o, ho, hd, hw, hr⟩ := callAt_spec h
  exact st_call ho hd hw hr hc hk
theorem st_fn0 {i : Nat} {rest : List Nat} {f : FuncId} {xs : Array Value} {R : Value → World → Prop} (h : callAt P ops i T = some (none, f, xs)) (hc : Ret P f xs w R)
    (hk : ∀ v w', R v w' → Run P ops Q rest ⟨T, df⟩ w') : Run P ops Q (i :: rest) ⟨T, df⟩ w := by
  obtain ⟨o, ho, hd, hw, hr⟩ := callAt_spec h
  exact st_call0 ho hd hw hr hc hk

theorem m_Q {C : Nat → World → Prop} {F : List Nat} {K : Act → World → Prop} {k fuel : Nat} (hF : (F.contains k || (ops[k]?).isNone) = false) (h : Run P ops (After (C k) (wpM P ops C F.contains K fuel (k + 1))) [k] ⟨T, df⟩ w) :
    RunM P ops C F K (fuel + 1) k ⟨T, df⟩ w := by
  simp only [Bool.or_eq_false_iff] at hF
  cases ho : ops[k]? with
  | none => rw [ho] at hF; simp at hF
  | some o => exact m_R hF.1 ho h

theorem c_drawS {id : Nat} (S1 S2 : Nat → Prop) (F E : List Nat) (kL : Nat) (h12 : ∀ k, S1 k → S2 k) (hm : P.follows .mixedOrders = true) {n : Nat} (hn : ops.size = n)
    (hB : (Region.noSelect ops && lexM .any ops F.contains n 0 (Array.replicate n false) && lateOk .any ops F E kL) = true)
    (h : ∀ w1, Mod Nil w w1 → RunM P ops (cls (Mod S1 w) (Mod S2 w) F E kL) F (fun a' w' => Q .normal a' w') n 0 ⟨T, df⟩ w1) : (Code.region id ops true).wp P Q ⟨T, df⟩ w :=
  c_draw (Mod S1 w) (Mod S2 w) F E kL (fun _ h => h.weaken fun k _ q => h12 k q) hm hn hB ((Mod.drew w).weaken fun _ _ q => q.elim) (h _ (Mod.drew w)).h

theorem run_bind' {α β : Type} (m : Sem α) (f : α → Sem β) (w : World) : (Sem.bind m f).run P w = (m.run P w).andThen fun a w' => (f a).run P w' := Sem.run_bind ..
theorem res_cell1 {fn : Func} {p t b e k : Nat} {C : List Value} {v : Value} (hr : fn.results = #[.cell p t]) (hp : T.getD p undef = .pointer (some ⟨b, k, none⟩)) (hb : Blk w b e C) (hv : loadVal P t (C.drop k) = some v) :
    (results fn T).run P w = .ok v w := by
  have := run_load (P := P) (hb.sub k) hv
  unfold Instr.loadAt at this
  simp only [Instr.sureAddr, Sem.run_bind, Sem.run_pure, Result.andThen_ok] at this
  unfold results
  simp only [hr, List.mapM_toArray, Sem.run_bind, List.mapM_cons, List.mapM_nil, hp, asAddr, Sem.run_pure, Result.andThen_ok, this, Functor.map, run_bind']
  simp
theorem res_cell2 {fn : Func} {p t b e k q : Nat} {C : List Value} {v u : Value} (hr : fn.results = #[.cell p t, .tmp q]) (hp : T.getD p undef = .pointer (some ⟨b, k, none⟩)) (hq : T.getD q undef = u) (hb : Blk w b e C) (hv : loadVal P t (C.drop k) = some v) :
    (results fn T).run P w = .ok (.tuple #[v, u]) w := by
  have := run_load (P := P) (hb.sub k) hv
  unfold Instr.loadAt at this
  simp only [Instr.sureAddr, Sem.run_bind, Sem.run_pure, Result.andThen_ok] at this
  unfold results
  simp only [hr, List.mapM_toArray, Sem.run_bind, List.mapM_cons, List.mapM_nil, hp, hq, asAddr, Sem.run_pure, Result.andThen_ok, this, Functor.map, run_bind']
  simp
end
end Go.Vx
