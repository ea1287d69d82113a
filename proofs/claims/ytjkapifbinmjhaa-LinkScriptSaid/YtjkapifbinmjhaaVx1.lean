/-
  Steps of a walk, one lemma each: pure operations in batches (checked by the kernel), loads, stores, calls, loops with ghost state.
  Generic over the program. My own text.
-/
import Derived.WalkKit
import Derived.KernelRfl
import Derived.Orders
namespace Go.Vx
open Go.RowKit

/-! ### pure operations -/
/-- What a computation that touches no memory comes to. -/
def pureRun {α : Type} (p : Program) : Sem α → Option α
  | .pure a => some a
  | .program k => pureRun p (k p)
  | _ => none

theorem pureRun_run {p : Program} {α : Type} (m : Sem α) : ∀ {a : α}, pureRun p m = some a → ∀ w, m.run p w = .ok a w := by
  induction m with
  | pure a => intro b h w; simp only [pureRun, Option.some.injEq] at h; subst h; rfl
  | program k ih => intro b h w; simp only [pureRun] at h; exact ih p h w
  | _ => intro b h; simp [pureRun] at h

def puts (T : Array Value) : List (Nat × Value) → Array Value
  | [] => T
  | p :: L => puts (T.setIfInBounds p.1 p.2) L

theorem puts_append (T : Array Value) (L M : List (Nat × Value)) : puts T (L ++ M) = puts (puts T L) M := by
  induction L generalizing T with
  | nil => rfl
  | cons p L ih => exact ih _

/-- The values that a batch of pure operations writes, in order. -/
def pureRes (P : Program) (ops : Array Oper) : List Nat → Array Value → Option (List (Nat × Value))
  | [], _ => some []
  | i :: l, T =>
    match ops[i]? with
    | none => none
    | some o =>
      match o.dst with
      | none => none
      | some d =>
        match (if Region.wanted o (yielded ops T) then pureRun P (execOp (Act.eval ⟨T, []⟩) o) else some (.value undef)) with
        | some (.value v) =>
          match pureRes P ops l (T.setIfInBounds d v) with
          | some r => some ((d, v) :: r)
          | none => none
        | _ => none

section
variable {P : Program} {ops : Array Oper} {Q : Exit → Act → World → Prop} {a : Act} {w : World}

theorem eval_mk (T : Array Value) (d d' : List Deferred) : Act.eval ⟨T, d⟩ = Act.eval ⟨T, d'⟩ := by
  funext x; cases x <;> rfl

theorem wpOps_pure (l : List Nat) : ∀ {L : List (Nat × Value)} {T : Array Value} {rest : List Nat} {df : List Deferred}, pureRes P ops l T = some L →
    wpOps P ops Q rest ⟨puts T L, df⟩ w → wpOps P ops Q (l ++ rest) ⟨T, df⟩ w := by
  induction l with
  | nil => intro L T rest df h hk; simp only [pureRes, Option.some.injEq] at h; subst h; exact hk
  | cons i l ih =>
    intro L T rest df h hk
    simp only [pureRes] at h
    cases ho : ops[i]? with
    | none => simp [ho] at h
    | some o =>
      simp only [ho] at h
      cases hd : o.dst with
      | none => simp [hd] at h
      | some d =>
        simp only [hd] at h
        by_cases hw : Region.wanted o (yielded ops T) = true
        · simp only [hw, if_true] at h
          cases hr : pureRun P (execOp (Act.eval ⟨T, []⟩) o) with
          | none => simp [hr] at h
          | some n =>
            cases n <;> simp only [hr] at h <;> try (exact absurd h (by simp))
            rename_i v
            cases hp : pureRes P ops l (T.setIfInBounds d v) with
            | none => simp [hp] at h
            | some r =>
              simp only [hp, Option.some.injEq] at h
              subst h
              have hk' := ih hp hk
              simp only [List.cons_append, wpOps, ho, hw, if_true]
              left
              unfold Oper.wp
              rw [eval_mk T df []]
              rw [pureRun_run _ hr w]
              simp only [Oper.upon, Act.put, hd]
              exact hk'
        · simp only [hw, if_false, Bool.false_eq_true] at h
          cases hp : pureRes P ops l (T.setIfInBounds d undef) with
          | none => simp [hp] at h
          | some r =>
            simp only [hp, Option.some.injEq] at h
            subst h
            have hk' := ih hp hk
            simp only [List.cons_append, wpOps, ho, hw, if_false, Bool.false_eq_true, Act.put, hd]
            exact hk'

/-- What is left of a region, shut, so that nothing looks into it. -/
structure Run (P : Program) (ops : Array Oper) (Q : Exit → Act → World → Prop) (L : List Nat) (a : Act) (w : World) : Prop where
  of ::
  h : wpOps P ops Q L a w

/-- A batch at the head of the list. -/
theorem st_pure {L : List (Nat × Value)} {T : Array Value} {l rest all : List Nat} {df : List Deferred} (hl : l ++ rest = all) (h : pureRes P ops l T = some L)
    (hk : Run P ops Q rest ⟨puts T L, df⟩ w) : Run P ops Q all ⟨T, df⟩ w := ⟨hl ▸ wpOps_pure l h hk.h⟩

theorem st_end {T : Array Value} {df : List Deferred} (h : Q .normal ⟨T, df⟩ w) : Run P ops Q [] ⟨T, df⟩ w := ⟨h⟩

/-- An operation that yields a value. -/
theorem st_op {i : Nat} {rest : List Nat} {o : Oper} {d : Nat} {T : Array Value} {df : List Deferred} {v : Value} {w' : World} (ho : ops[i]? = some o) (hd : o.dst = some d)
    (hw : Region.wanted o (yielded ops T) = true) (hrun : (execOp (Act.eval ⟨T, []⟩) o).run P w = .ok (.value v) w')
    (hk : Run P ops Q rest ⟨puts T [(d, v)], df⟩ w') : Run P ops Q (i :: rest) ⟨T, df⟩ w := by
  refine ⟨?_⟩
  simp only [wpOps, ho, hw, if_true]
  left
  unfold Oper.wp
  rw [eval_mk T df [], hrun]
  simp only [Oper.upon, Act.put, hd]
  exact hk.h

/-- An operation that yields nothing. -/
theorem st_skip {i : Nat} {rest : List Nat} {o : Oper} {T : Array Value} {df : List Deferred} {w' : World} (ho : ops[i]? = some o) (hd : o.dst = none)
    (hw : Region.wanted o (yielded ops T) = true) (hrun : (execOp (Act.eval ⟨T, []⟩) o).run P w = .ok .skip w')
    (hk : Run P ops Q rest ⟨T, df⟩ w') : Run P ops Q (i :: rest) ⟨T, df⟩ w := by
  refine ⟨?_⟩
  simp only [wpOps, ho, hw, if_true]
  left
  unfold Oper.wp
  rw [eval_mk T df [], hrun]
  simp only [Oper.upon, Act.put, hd]
  exact hk.h

/-- The call of f returns, and R holds of what it returns and leaves. -/
def Ret (P : Program) (f : FuncId) (args : Array Value) (w : World) (R : Value → World → Prop) : Prop :=
  Calls P f args w fun e w' => ∃ v, e = .returned v ∧ R v w'

theorem Ret.imp {f : FuncId} {args : Array Value} {R R' : Value → World → Prop} (h : Ret P f args w R) (hr : ∀ v w', R v w' → R' v w') : Ret P f args w R' :=
  Calls.mono h fun _ _ ⟨v, he, hv⟩ => ⟨v, he, hr _ _ hv⟩

/-- A call, by its contract. -/
theorem st_call {i : Nat} {rest : List Nat} {o : Oper} {d : Nat} {T : Array Value} {df : List Deferred} {f : FuncId} {args : Array Value} {R : Value → World → Prop}
    (ho : ops[i]? = some o) (hd : o.dst = some d)
    (hw : Region.wanted o (yielded ops T) = true) (hrun : pureRun P (execOp (Act.eval ⟨T, []⟩) o) = some (.enter f args)) (hc : Ret P f args w R)
    (hk : ∀ v w', R v w' → Run P ops Q rest ⟨puts T [(d, v)], df⟩ w') : Run P ops Q (i :: rest) ⟨T, df⟩ w := by
  refine ⟨?_⟩
  simp only [wpOps, ho, hw, if_true]
  left
  unfold Oper.wp
  rw [eval_mk T df [], pureRun_run _ hrun w]
  simp only [Oper.upon]
  refine Calls.mono hc ?_
  rintro e w' ⟨v, rfl, hR⟩
  simp only [Act.put, hd]
  exact (hk v w' hR).h

/-- A call whose result is thrown away. -/
theorem st_call0 {i : Nat} {rest : List Nat} {o : Oper} {T : Array Value} {df : List Deferred} {f : FuncId} {args : Array Value} {R : Value → World → Prop}
    (ho : ops[i]? = some o) (hd : o.dst = none)
    (hw : Region.wanted o (yielded ops T) = true) (hrun : pureRun P (execOp (Act.eval ⟨T, []⟩) o) = some (.enter f args)) (hc : Ret P f args w R)
    (hk : ∀ v w', R v w' → Run P ops Q rest ⟨T, df⟩ w') : Run P ops Q (i :: rest) ⟨T, df⟩ w := by
  refine ⟨?_⟩
  simp only [wpOps, ho, hw, if_true]
  left
  unfold Oper.wp
  rw [eval_mk T df [], pureRun_run _ hrun w]
  simp only [Oper.upon]
  refine Calls.mono hc ?_
  rintro e w' ⟨v, rfl, hR⟩
  simp only [Act.put, hd]
  exact (hk v w' hR).h
end

/-! ### code -/
section
variable {P : Program} {Q : Exit → Act → World → Prop} {K : Act → World → Prop} {a : Act} {w : World}
theorem c_region {id : Nat} {ops : Array Oper} {L : List Nat} (hL : List.range ops.size = L) (h : Run P ops Q L a w) : (Code.region id ops false).wp P Q a w :=
  wp_region (hL ▸ h.h)
theorem then_n (h : K a w) : Exit.then K Q .normal a w := h
theorem then_x {id : Nat} (h : Q (.exit id) a w) : Exit.then K Q (.exit id) a w := h
theorem then_r (h : Q .ret a w) : Exit.then K Q .ret a w := h
theorem blk_n {id : Nat} (h : Q .normal a w) : Exit.inBlock id Q .normal a w := h
theorem blk_r {id : Nat} (h : Q .ret a w) : Exit.inBlock id Q .ret a w := h
theorem blk_hit {id : Nat} (h : Q .normal a w) : Exit.inBlock id Q (.exit id) a w := by simp only [Exit.inBlock, if_true]; exact h
theorem blk_miss {id id' : Nat} (hne : id' ≠ id) (h : Q (.exit id') a w) : Exit.inBlock id Q (.exit id') a w := by simp only [Exit.inBlock, if_neg hne]; exact h
theorem c_true {c : Operand} {x y : Code} {T : Array Value} {df : List Deferred} (hc : Act.eval ⟨T, []⟩ c = .bool true) (h : x.wp P Q ⟨T, df⟩ w) : (Code.cond c x y).wp P Q ⟨T, df⟩ w :=
  wp_cond_true (by rw [eval_mk T df []]; exact hc) h
theorem c_false {c : Operand} {x y : Code} {T : Array Value} {df : List Deferred} (hc : Act.eval ⟨T, []⟩ c = .bool false) (h : y.wp P Q ⟨T, df⟩ w) : (Code.cond c x y).wp P Q ⟨T, df⟩ w :=
  wp_cond_false (by rw [eval_mk T df []]; exact hc) h

/-- A loop, with ghost state and a measure of it. -/
theorem c_loop {c : Code} {σ : Type} (I : σ → Act → World → Prop) (μ : σ → Nat) (s₀ : σ) (h₀ : I s₀ a w)
    (round : ∀ s a w, I s a w → c.wp P (Exit.then (fun a' w' => ∃ s', I s' a' w' ∧ μ s' < μ s) Q) a w) : (Code.loop c).wp P Q a w := by
  classical
  have hmin : ∀ a w, (∃ s, I s a w) → ∃ n, (∃ s, I s a w ∧ μ s = n) ∧ ∀ s, I s a w → n ≤ μ s := fun a w ⟨s, hs⟩ => by
    have key : ∀ n, (∃ s, I s a w ∧ μ s = n) → ∃ n, (∃ s, I s a w ∧ μ s = n) ∧ ∀ s, I s a w → n ≤ μ s := by
      intro n
      induction n using Nat.strongRecOn with
      | _ n ih =>
        intro h
        by_cases hl : ∃ s, I s a w ∧ μ s < n
        · obtain ⟨s, hs, hlt⟩ := hl
          exact ih _ hlt ⟨s, hs, rfl⟩
        · exact ⟨n, h, fun s hs => Nat.le_of_not_lt fun hlt => hl ⟨s, hs, hlt⟩⟩
    exact key _ ⟨s, hs, rfl⟩
  let m : Act → World → Nat := fun a w => if h : ∃ s, I s a w then Classical.choose (hmin a w h) else 0
  have hm : ∀ {s a w}, I s a w → m a w ≤ μ s := by
    intro s a w hI
    have h : ∃ s, I s a w := ⟨s, hI⟩
    simp only [m, dif_pos h]
    exact (Classical.choose_spec (hmin a w h)).2 s hI
  refine wp_loop (fun a w => ∃ s, I s a w) m ⟨s₀, h₀⟩ ?_
  rintro a w ⟨s1, hI1⟩
  have h : ∃ s, I s a w := ⟨s1, hI1⟩
  obtain ⟨s, hI, hs⟩ := (Classical.choose_spec (hmin a w h)).1
  have hs' : m a w = μ s := by simp only [m, dif_pos h]; exact hs.symm
  refine wp_mono (round s a w hI) ?_
  intro e a' w' hq
  cases e with
  | normal =>
    obtain ⟨s', hI', hlt⟩ := hq
    exact ⟨⟨s', hI'⟩, by rw [hs']; exact Nat.lt_of_le_of_lt (hm hI') hlt⟩
  | _ => exact hq

/-- Ways that meet again. -/
theorem c_cut {c : Code} {J : Act → World → Prop} (h : c.wp P (Exit.then J Q) a w) (hk : ∀ a w, J a w → K a w) : c.wp P (Exit.then K Q) a w :=
  wp_mono h fun e a w hq => by cases e <;> first | exact hk _ _ hq | exact hq

theorem post_ret {fn : Func} {R : Value → World → Prop} {T : Array Value} {v : Value} (h : pureRun P (results fn T) = some v) (hR : R v w) :
    bodyPost P fn (fun e w' => ∃ v, e = .returned v ∧ R v w') .ret ⟨T, []⟩ w := ⟨rfl, v, pureRun_run _ h w, v, rfl, hR⟩
theorem post_normal {fn : Func} {R : Value → World → Prop} {T : Array Value} {v : Value} (h : pureRun P (results fn T) = some v) (hR : R v w) :
    bodyPost P fn (fun e w' => ∃ v, e = .returned v ∧ R v w') .normal ⟨T, []⟩ w := ⟨rfl, v, pureRun_run _ h w, v, rfl, hR⟩
theorem post_run {fn : Func} {R : Value → World → Prop} {T : Array Value} {v : Value} (h : (results fn T).run P w = .ok v w) (hR : R v w) :
    bodyPost P fn (fun e w' => ∃ v, e = .returned v ∧ R v w') .ret ⟨T, []⟩ w := ⟨rfl, v, h, v, rfl, hR⟩

theorem ret_of {f : FuncId} {fn : Func} {c : Code} {args : Array Value} {R : Value → World → Prop} (hf : P.funcs[f]? = some fn) (hb : fn.body = some c) {T : Array Value}
    (hT : args ++ Array.replicate (fn.ntmps - args.size) undef = T)
    (h : c.wp P (bodyPost P fn (fun e w' => ∃ v, e = .returned v ∧ R v w')) ⟨T, []⟩ w) : Ret P f args w R := calls_of_wp hf hb (by rw [hT]; exact h)
end

/-! ### frames at a loop's head -/
def mkT (n : Nat) (T : Nat → Value) : Array Value := ((List.range n).map T).toArray

theorem puts_getElem? (L : List (Nat × Value)) : ∀ (T : Array Value) (i : Nat), (∀ p ∈ L, p.1 ≠ i) → (puts T L)[i]? = T[i]? := by
  induction L with
  | nil => intro T i _; rfl
  | cons p L ih =>
    intro T i h
    rw [puts, ih _ _ (fun q hq => h q (List.mem_cons_of_mem _ hq)), Array.getElem?_setIfInBounds_ne (h p (List.mem_cons_self ..))]

theorem puts_same (L : List (Nat × Value)) : ∀ (T : Array Value), (∀ p ∈ L, T[p.1]? = some p.2) → puts T L = T := by
  induction L with
  | nil => intro T _; rfl
  | cons p L ih =>
    intro T h
    have h1 := h p (List.mem_cons_self ..)
    have : T.setIfInBounds p.1 p.2 = T := by
      obtain ⟨hlt, he⟩ := Array.getElem?_eq_some_iff.1 h1
      apply Array.ext
      · simp
      · intro i hi hi2
        rw [Array.getElem_setIfInBounds]
        split
        · rename_i e; subst e; exact he.symm
        · rfl
    rw [puts, this]
    exact ih T (fun q hq => h q (List.mem_cons_of_mem _ hq))

/-- Any frame of n slots is the head's, where its named slots hold what the head says. -/
theorem frame_eq (n : Nat) (X : Array Value) (L : List (Nat × Value)) (hn : X.size = n) (h : L.map (fun p => X[p.1]?) = L.map (fun p => some p.2)) :
    ∃ T, X = puts (mkT n T) L := by
  refine ⟨fun i => X.getD i undef, ?_⟩
  have hX : mkT n (fun i => X.getD i undef) = X := by
    apply Array.ext
    · simp [mkT, hn]
    · intro i h1 h2
      simp only [mkT, List.getElem_toArray, List.getElem_map, List.getElem_range]
      simp [Array.getD, h2]
  rw [hX, puts_same L X]
  intro p hp
  have := List.map_inj_left.1 h p hp
  exact this
end Go.Vx
