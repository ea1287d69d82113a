/-
  Memory: what a step or a call may have changed (Mod), cells that are there (At), blocks of the call's own (Blk), slices that are read (RdA), slices that are appended to (Own); and the steps that read and write.
  Every world is a variable; blocks are told apart by intervals of block numbers. My own text.
-/
import Derived.Test.YtjkapifbinmjhaaVx1
import Derived.Maps.AppendAt
import Derived.Laws.OwnMore
import Derived.Laws.CopyRow
import Derived.Laws.Tables
namespace Go.Vx
open Go.RowKit

/-- Between w and w' at most the old blocks in S have changed. -/
structure Mod (S : Nat → Prop) (w w' : World) : Prop where
  os : w'.os = w.os
  tape : w'.tape = w.tape
  output : w'.output = w.output
  size : w.heap.size ≤ w'.heap.size
  block : ∀ k, k < w.heap.size → ¬ S k → w'.heap[k]? = w.heap[k]?

def Nil : Nat → Prop := fun _ => False
def Iv (lo hi : Nat) : Nat → Prop := fun k => lo ≤ k ∧ k < hi

theorem Mod.refl (S : Nat → Prop) (w : World) : Mod S w w := ⟨rfl, rfl, rfl, Nat.le_refl _, fun _ _ _ => rfl⟩
theorem Mod.trans {S S' : Nat → Prop} {a b c : World} (h : Mod S a b) (k : Mod S' b c) (hs : ∀ i, i < a.heap.size → S' i → S i) : Mod S a c :=
  ⟨k.os.trans h.os, k.tape.trans h.tape, k.output.trans h.output, Nat.le_trans h.size k.size,
    fun i hi hn => (k.block i (Nat.lt_of_lt_of_le hi h.size) (fun q => hn (hs i hi q))).trans (h.block i hi hn)⟩
theorem Mod.tr0 {S : Nat → Prop} {a b c : World} (h : Mod S a b) (k : Mod Nil b c) : Mod S a c := h.trans k fun _ _ q => q.elim
theorem Mod.weaken {S S' : Nat → Prop} {a b : World} (h : Mod S a b) (hs : ∀ i, i < a.heap.size → S i → S' i) : Mod S' a b := (Mod.refl S' a).trans h hs
theorem Mod.below {w w' : World} (h : Mod Nil w w') : Below w.heap.size w w' := ⟨h.os, h.tape, h.output, h.size, fun k hk => h.block k hk (fun q => q)⟩
theorem Mod.of_below {w w' : World} (h : Below w.heap.size w w') : Mod Nil w w' := ⟨h.os, h.tape, h.output, h.size, fun k hk _ => h.block k hk⟩
theorem Mod.alloc (w : World) (o : Obj) : Mod Nil w (w.alloc o) := ⟨rfl, rfl, rfl, by simp, fun k hk _ => Below.heap_alloc w o k hk⟩
theorem Mod.drew (w : World) : Mod Nil w { w with drawn := w.drawn + 1 } := ⟨rfl, rfl, rfl, Nat.le_refl _, fun _ _ _ => rfl⟩

/-- From cell o of block b on these values lie. -/
def At (w : World) (b o : Nat) (cs : List Value) : Prop := ∃ C e fr, w.heap[b]? = some (.cells C e fr) ∧ ∀ j u, cs[j]? = some u → C[o + j]? = some u
/-- Block b is a row of cells of the type e, none of them frozen. -/
def Blk (w : World) (b e : Nat) (C : List Value) : Prop := w.heap[b]? = some (.cells C.toArray e (0, 0))

theorem Blk.lt {w : World} {b e : Nat} {C : List Value} (h : Blk w b e C) : b < w.heap.size := (Array.getElem?_eq_some_iff.1 h).1
theorem At.lt {w : World} {b o : Nat} {cs : List Value} (h : At w b o cs) : b < w.heap.size := by
  obtain ⟨C, e, fr, h, _⟩ := h
  exact (Array.getElem?_eq_some_iff.1 h).1
theorem Blk.mod {S : Nat → Prop} {w w' : World} {b e : Nat} {C : List Value} (h : Blk w b e C) (m : Mod S w w') (hn : ¬ S b) : Blk w' b e C := (m.block b h.lt hn).trans h
theorem At.mod {S : Nat → Prop} {w w' : World} {b o : Nat} {cs : List Value} (h : At w b o cs) (m : Mod S w w') (hn : ¬ S b) : At w' b o cs := by
  have hl := h.lt
  obtain ⟨C, e, fr, h, hc⟩ := h
  exact ⟨C, e, fr, (m.block b hl hn).trans h, hc⟩
theorem Blk.at {w : World} {b e : Nat} {C : List Value} (h : Blk w b e C) : At w b 0 C := ⟨C.toArray, e, _, h, fun j u hu => by simpa using hu⟩
theorem At.sub {w : World} {b o k : Nat} {cs ds : List Value} (h : At w b o cs) (hd : ∀ j u, ds[j]? = some u → cs[k + j]? = some u) : At w b (o + k) ds := by
  obtain ⟨C, e, fr, h, hc⟩ := h
  exact ⟨C, e, fr, h, fun j u hu => by rw [Nat.add_assoc]; exact hc _ _ (hd j u hu)⟩

theorem Blk.sub {w : World} {b e : Nat} {C : List Value} (h : Blk w b e C) (k : Nat) : At w b k (C.drop k) := by
  have := (Blk.at h).sub (k := k) (ds := C.drop k) (fun j u hu => by simpa using hu)
  rwa [Nat.zero_add] at this

/-! ### the operation at hand, its operands looked up -/
inductive OpV where
  | load (t : TypeId) (a : Value)
  | store (t : TypeId) (a v : Value)
  | box (e : TypeId) (v : Value)
  | alloc (e : TypeId)
  | buildSlice (t : TypeId) (n : Nat) (ps : List (Nat × Value))
  | indexAddr (t : TypeId) (x i : Value)
  | slice (t : TypeId) (x : Value) (lo hi : Option Value)
  | makeSlice (t : TypeId) (l c : Value)
  | builtin (b : Builtin) (ty : TypeId) (ts : List TypeId) (xs : List Value)
  | other

def look (ops : Array Oper) (i : Nat) (T : Array Value) : Option (Option Nat × OpV) :=
  match ops[i]? with
  | none => none
  | some o =>
    if Region.wanted o (yielded ops T) then
      let ρ := Act.eval ⟨T, []⟩
      some (o.dst, match o.op with
        | .load t a => .load t (ρ a)
        | .store t a v => .store t (ρ a) (ρ v)
        | .box e v => .box e (ρ v)
        | .alloc e => .alloc e
        | .buildSlice t n ps => .buildSlice t n (ps.toList.map fun p => (p.1, ρ p.2))
        | .indexAddr t x ix => .indexAddr t (ρ x) (ρ ix)
        | .slice t x lo hi none => .slice t (ρ x) (lo.map ρ) (hi.map ρ)
        | .makeSlice t l c => .makeSlice t (ρ l) (ρ c)
        | .call { callee := .builtin b, args := args, argTypes := ts } => .builtin b o.type ts.toList (args.toList.map ρ)
        | _ => .other)
    else none

section
variable {P : Program} {ops : Array Oper} {Q : Exit → Act → World → Prop} {w : World} {T : Array Value} {df : List Deferred} {i : Nat} {rest : List Nat}

/-- What it runs. -/
def OpV.sem : OpV → Sem Next
  | .load t a => do pure (.value (← Instr.loadAt t a))
  | .store t a v => do Instr.storeAt t a v; pure .skip
  | .box e v => do pure (.value (← Instr.box e v))
  | .alloc e => do pure (.value (← Instr.alloc e true (.tuple #[])))
  | .buildSlice t n ps => do pure (.value (← Instr.buildSlice t n ps.toArray))
  | .indexAddr t x i => do pure (.value (← Instr.indexAt t x i))
  | .slice t x lo hi => do pure (.value (← Instr.sliceAt t x lo hi none))
  | .makeSlice t l c => do pure (.value (← Instr.makeSlice t l c))
  | .builtin b ty ts xs => Go.builtin b ts.toArray ty (xs.map fun _ => false).toArray xs.toArray
  | .other => stuck ""

theorem look_spec {d : Option Nat} {x : OpV} (h : look ops i T = some (d, x)) (hne : x ≠ .other) (hb : ∀ b ty ts xs, x = .builtin b ty ts xs → b ≠ .print ∧ b ≠ .println) :
    ∃ o, ops[i]? = some o ∧ Region.wanted o (yielded ops T) = true ∧ o.dst = d ∧ execOp (Act.eval ⟨T, []⟩) o = x.sem := by
  unfold look at h
  split at h
  · cases h
  · rename_i o ho
    split at h
    · rename_i hw
      simp only [Option.some.injEq, Prod.mk.injEq] at h
      refine ⟨o, ho, hw, h.1, ?_⟩
      have hx := h.2
      clear h ho hw
      unfold execOp
      split at hx
      all_goals (subst hx; rename_i hop; first | exact absurd rfl hne | skip)
      all_goals simp only [hop, OpV.sem]
      · rename_i ps
        have : (ps.map fun x => (x.fst, (Act.eval ⟨T, []⟩) x.snd)) = (List.map (fun x => (x.fst, (Act.eval ⟨T, []⟩) x.snd)) ps.toList).toArray := by
          apply Array.ext'; simp
        rw [← this]
      · rfl
      · rename_i b args ts
        have hbb := hb _ _ _ _ rfl
        have : (List.map (Act.eval ⟨T, []⟩) args.toList).toArray = args.map (Act.eval ⟨T, []⟩) := by apply Array.ext'; simp
        simp only [resolve, invoke, bind, Sem.bind, pure]
        rw [this]
        cases b <;> first | rfl | exact absurd rfl hbb.1 | exact absurd rfl hbb.2
    · cases h

/-- What a load of type t yields, the cells from the address on being cs. -/
def loadVal (P : Program) (t : TypeId) (cs : List Value) : Option Value :=
  match P.underlying t, P.info? t with
  | some (.struct _), some i | some (.array _ _), some i => if i.size ≤ cs.length then some (.agg (cs.take i.size).toArray) else none
  | some _, some _ => cs[0]?
  | _, _ => none

theorem add_mk (b o n : Nat) : (⟨b, o, none⟩ : Addr).add n = ⟨b, o + n, none⟩ := by unfold Addr.add; split <;> simp_all

theorem At.cell {b o : Nat} {cs : List Value} (h : At w b o cs) {j : Nat} {u : Value} (hu : cs[j]? = some u) : w.cell? ⟨b, o + j, none⟩ = some u := by
  obtain ⟨C, e, fr, h, hc⟩ := h
  simp only [World.cell?, h]
  simpa using hc j u hu

theorem run_load {t b o : Nat} {cs : List Value} {v : Value} (h : At w b o cs) (hv : loadVal P t cs = some v) : (Instr.loadAt t (.pointer (some ⟨b, o, none⟩))).run P w = .ok v w := by
  unfold loadVal at hv
  have hone : ∀ d, P.underlying t = some d → (∀ fs, d ≠ .struct fs) → (∀ n e, d ≠ .array n e) → cs[0]? = some v → (Instr.loadAt t (.pointer (some ⟨b, o, none⟩))).run P w = .ok v w := by
    intro d hd h1 h2 hc
    have hcell := h.cell hc
    have hag : (isAgg t).run P w = .ok false w := by
      unfold isAgg
      rw [Sem.run_bind, run_underlying hd, Result.andThen_ok]
      cases d <;> first | rfl | exact absurd rfl (h1 _) | exact absurd rfl (h2 _ _)
    unfold Instr.loadAt
    rw [Sem.run_bind]
    simp only [Instr.sureAddr, Sem.run_pure, Result.andThen_ok]
    unfold loadVar
    rw [Sem.run_bind, hag, Result.andThen_ok]
    simp only [Bool.false_eq_true, if_false]
    unfold load
    simp only [Sem.run]
    rw [show w.cell? ⟨b, o, none⟩ = some v from hcell]
  have hag : ∀ d i, P.underlying t = some d → P.info? t = some i → ((∃ fs, d = .struct fs) ∨ (∃ n e, d = .array n e)) → i.size ≤ cs.length → v = .agg (cs.take i.size).toArray →
      (Instr.loadAt t (.pointer (some ⟨b, o, none⟩))).run P w = .ok v w := by
    intro d i hd hi hk hl hv
    have hag : (isAgg t).run P w = .ok true w := by
      unfold isAgg
      rw [Sem.run_bind, run_underlying hd, Result.andThen_ok]
      rcases hk with ⟨fs, rfl⟩ | ⟨n, e, rfl⟩ <;> rfl
    have hs : (sizeOf t).run P w = .ok i.size w := by simp [sizeOf, typeInfo, hi]
    unfold Instr.loadAt
    rw [Sem.run_bind]
    simp only [Instr.sureAddr, Sem.run_pure, Result.andThen_ok]
    unfold loadVar
    rw [Sem.run_bind, hag, Result.andThen_ok]
    simp only [if_true]
    rw [Sem.run_bind, hs, Result.andThen_ok, Sem.run_bind]
    have := run_loadCells_list (P := P) (w := w) ⟨b, o, none⟩ (cs.take i.size) (fun j u hu => by
      rw [add_mk]
      rw [List.getElem?_take] at hu
      split at hu
      · exact h.cell hu
      · cases hu)
    rw [List.length_take, Nat.min_eq_left hl] at this
    rw [this]
    simp [hv]
  split at hv
  · rename_i hd hi
    split at hv
    · rename_i hl
      exact hag _ _ hd hi (.inl ⟨_, rfl⟩) hl (by simpa using hv.symm)
    · cases hv
  · rename_i hd hi
    split at hv
    · rename_i hl
      exact hag _ _ hd hi (.inr ⟨_, _, rfl⟩) hl (by simpa using hv.symm)
    · cases hv
  · rename_i d i h1 h2 hd hi
    exact hone d hd (fun fs e => h1 fs e) (fun n e' e => h2 n e' e) hv
  · cases hv

/-- x := *p -/
theorem st_load {d t b o : Nat} {cs : List Value} {v : Value} (hl : look ops i T = some (some d, .load t (.pointer (some ⟨b, o, none⟩)))) (h : At w b o cs) (hv : loadVal P t cs = some v)
    (hk : Run P ops Q rest ⟨puts T [(d, v)], df⟩ w) : Run P ops Q (i :: rest) ⟨T, df⟩ w := by
  obtain ⟨op, ho, hw, hd, hx⟩ := look_spec hl (by simp) (by simp)
  refine st_op ho hd hw ?_ hk
  rw [hx]
  unfold OpV.sem
  simp only
  rw [Sem.run_bind, run_load h hv]
  rfl

/-- A load out of a block of the call's own, k cells behind its head. -/
theorem st_loadB {d t b k e : Nat} {C : List Value} {v : Value} (hl : look ops i T = some (some d, .load t (.pointer (some ⟨b, k, none⟩)))) (h : Blk w b e C) (hv : loadVal P t (C.drop k) = some v)
    (hk : Run P ops Q rest ⟨puts T [(d, v)], df⟩ w) : Run P ops Q (i :: rest) ⟨T, df⟩ w := st_load hl (h.sub k) hv hk

/-- What a block holds behind a store, if it may be done. -/
def storeVal (P : Program) (t : TypeId) (C : List Value) (o : Nat) (v : Value) : Option (List Value) :=
  match P.info? t with
  | some i => if i.size = v.cells.toList.length ∧ o + v.cells.toList.length ≤ C.length ∧ v.cells.toList.all (·.oneCell') = true then some (C.take o ++ v.cells.toList ++ C.drop (o + v.cells.toList.length)) else none
  | none => none

/-- *p = v -/
theorem st_store {t b o e : Nat} {v : Value} {C C' : List Value} (hl : look ops i T = some (none, .store t (.pointer (some ⟨b, o, none⟩)) v)) (h : Blk w b e C) (hv : storeVal P t C o v = some C')
    (hk : ∀ w', Mod (· = b) w w' → w'.heap.size = w.heap.size → Blk w' b e C' → Run P ops Q rest ⟨T, df⟩ w') : Run P ops Q (i :: rest) ⟨T, df⟩ w := by
  obtain ⟨op, ho, hw, hd, hx⟩ := look_spec hl (by simp) (by simp)
  unfold storeVal at hv
  split at hv
  · rename_i ti hi
    split at hv
    · rename_i hc
      obtain ⟨h1, h2, h3⟩ := hc
      simp only [Option.some.injEq] at hv
      have hrun := run_storeCells_at (P := P) b o e v.cells.toList 0 C.toArray w h (by simpa using h2) (fun u hu => List.all_eq_true.1 h3 u hu)
      refine st_skip ho hd hw ?_ (hk (w.setRow b C'.toArray) ⟨rfl, rfl, rfl, by simp, fun k _ hn => setRow_other w b k _ hn⟩ (by simp) (setRow_heap w b _ _ e _ h))
      rw [hx]
      unfold OpV.sem Instr.storeAt
      simp only [Instr.sureAddr]
      simp only [Nat.add_zero] at hrun
      have hsz : (sizeOf t).run P w = .ok v.cells.size w := by simp [sizeOf, typeInfo, hi, h1]
      simp only [Sem.run_bind, Sem.run_pure, Result.andThen_ok, storeVar, hsz, ne_eq, not_true_eq_false, if_false, hrun, hv]
    · cases hv
  · cases hv

/-- A computation that makes one block and touches no other memory. -/
def newRun {α : Type} (p : Program) : Sem α → Option (Obj × (Nat → Option α))
  | .program k => newRun p (k p)
  | .new o k => some (o, fun r => pureRun p (k r))
  | _ => none

theorem newRun_run {p : Program} {α : Type} (m : Sem α) : ∀ {o : Obj} {f : Nat → Option α} {a : α}, newRun p m = some (o, f) → ∀ w : World, f w.heap.size = some a → m.run p w = .ok a (w.alloc o) := by
  induction m with
  | program k ih => intro o f a h w ha; simp only [newRun] at h; exact ih p h w ha
  | new o k ih =>
    intro o' f a h w ha
    simp only [newRun, Option.some.injEq, Prod.mk.injEq] at h
    obtain ⟨rfl, rfl⟩ := h
    exact pureRun_run _ ha _
  | _ => intro o f a h; simp [newRun] at h

def newAt (P : Program) (ops : Array Oper) (i : Nat) (T : Array Value) : Option (Option Nat × Obj × (Nat → Option Next)) :=
  match ops[i]? with
  | none => none
  | some o => if Region.wanted o (yielded ops T) then (newRun P (execOp (Act.eval ⟨T, []⟩) o)).map fun p => (o.dst, p.1, p.2) else none

/-- Whatever makes one block: a variable, a literal, make. -/
theorem st_new {d : Nat} {e : Nat} {C : List Value} {V : Nat → Value} (hl : newAt P ops i T = some (some d, .cells C.toArray e (0, 0), fun r => some (.value (V r))))
    (hk : ∀ b w', Mod Nil w w' → w.heap.size ≤ b → b < w'.heap.size → Blk w' b e C → Run P ops Q rest ⟨puts T [(d, V b)], df⟩ w') : Run P ops Q (i :: rest) ⟨T, df⟩ w := by
  unfold newAt at hl
  split at hl
  · cases hl
  · rename_i o ho
    split at hl
    · rename_i hw
      obtain ⟨⟨ob, f⟩, hn, hp⟩ := Option.map_eq_some_iff.1 hl
      simp only [Prod.mk.injEq] at hp
      obtain ⟨hd, rfl, rfl⟩ := hp
      refine st_op ho hd hw (newRun_run _ hn w rfl) (hk w.heap.size (w.alloc (.cells C.toArray e)) (Mod.alloc _ _) (Nat.le_refl _) (by simp) (by rw [Blk, heap_alloc_new]))
    · cases hl
end
end Go.Vx
