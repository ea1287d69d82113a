/-
  Steps inside a region whose order is open. My own text.
-/
import Derived.Test.YtjkapifbinmjhaaVx4
namespace Go.Vx
open Go.RowKit
section
variable {P : Program} {ops : Array Oper} {C : Nat → World → Prop} {F : List Nat} {K : Act → World → Prop} {w : World} {T : Array Value} {df : List Deferred}

structure RunM (P : Program) (ops : Array Oper) (C : Nat → World → Prop) (F : List Nat) (K : Act → World → Prop) (n k : Nat) (a : Act) (w : World) : Prop where
  of ::
  h : wpM P ops C F.contains K n k a w
theorem m_end {k : Nat} (h : K ⟨T, df⟩ w) : RunM P ops C F K 0 k ⟨T, df⟩ w := ⟨h⟩

/-- Pure operations, one behind the other. -/
theorem m_pure (l : List Nat) : ∀ {L : List (Nat × Value)} {T : Array Value} {fuel k : Nat}, l = List.range' k l.length → l.all F.contains = true → pureRes P ops l T = some L →
    wpM P ops C F.contains K fuel (k + l.length) ⟨puts T L, df⟩ w → wpM P ops C F.contains K (fuel + l.length) k ⟨T, df⟩ w := by
  induction l with
  | nil => intro L T fuel k _ _ h hk; simp only [pureRes, Option.some.injEq] at h; subst h; exact hk
  | cons i l ih =>
    intro L T fuel k hl hF h hk
    have hi : i = k := by simpa [List.range'_succ] using (List.cons.inj hl).1
    subst hi
    have hl' : l = List.range' (i + 1) l.length := by simpa [List.range'_succ] using (List.cons.inj hl).2
    simp only [List.all_cons, Bool.and_eq_true] at hF
    simp only [pureRes] at h
    cases ho : ops[i]? with
    | none => simp [ho] at h
    | some o =>
      simp only [ho] at h
      cases hd : o.dst with
      | none => simp [hd] at h
      | some d =>
        simp only [hd] at h
        show mOp P ops C F.contains i _ _ _
        unfold mOp
        rw [if_pos hF.1]
        by_cases hw : Region.wanted o (yielded ops T) = true
        · simp only [hw, if_true] at h
          cases hr : pureRun P (execOp (Act.eval ⟨T, []⟩) o) with
          | none => simp [hr] at h
          | some n =>
            cases n <;> simp only [hr] at h <;> try (exact absurd h (by simp))
            rename_i v
            cases hp : pureRes P ops l (T.setIfInBounds d v) with
            | none => simp [hp] at h
            | some r =>
              simp only [hp, Option.some.injEq] at h
              subst h
              refine ⟨o, v, ho, .inl ⟨hw, fun w' _ => ?_⟩, ?_⟩
              · rw [eval_mk T df []]; exact pureRun_run _ hr w'
              · have := ih (fuel := fuel) (k := i + 1) hl' hF.2 hp (by rw [show i + 1 + l.length = i + (l.length + 1) by omega]; exact hk)
                simp only [Act.put, hd]
                exact this
        · simp only [hw, if_false, Bool.false_eq_true] at h
          cases hp : pureRes P ops l (T.setIfInBounds d undef) with
          | none => simp [hp] at h
          | some r =>
            simp only [hp, Option.some.injEq] at h
            subst h
            refine ⟨o, undef, ho, .inr ⟨by simpa using hw, rfl⟩, ?_⟩
            have := ih (fuel := fuel) (k := i + 1) hl' hF.2 hp (by rw [show i + 1 + l.length = i + (l.length + 1) by omega]; exact hk)
            simp only [Act.put, hd]
            exact this

theorem m_p {L : List (Nat × Value)} {k n fuel m : Nat} (hF : (List.range' k n).all F.contains = true) (h : pureRes P ops (List.range' k n) T = some L) (hm : m = fuel + n)
    (hk : RunM P ops C F K fuel (k + n) ⟨puts T L, df⟩ w) : RunM P ops C F K m k ⟨T, df⟩ w := by
  subst hm
  have := m_pure (P := P) (C := C) (F := F) (K := K) (w := w) (df := df) (List.range' k n) (T := T) (fuel := fuel) (k := k) (by simp) hF h (by simpa using hk.h)
  exact ⟨by simpa using this⟩

theorem m_op {k fuel : Nat} {o : Oper} {d : Nat} {v : Value} (hF : F.contains k = true) (ho : ops[k]? = some o) (hd : o.dst = some d) (hw : Region.wanted o (yielded ops T) = true)
    (hrun : ∀ w, C k w → (execOp (Act.eval ⟨T, []⟩) o).run P w = .ok (.value v) w) (hk : RunM P ops C F K fuel (k + 1) ⟨puts T [(d, v)], df⟩ w) : RunM P ops C F K (fuel + 1) k ⟨T, df⟩ w := by
  refine ⟨?_⟩
  show mOp P ops C F.contains k _ _ _
  unfold mOp
  rw [if_pos hF]
  refine ⟨o, v, ho, .inl ⟨hw, fun w' hw' => ?_⟩, ?_⟩
  · rw [eval_mk T df []]; exact hrun w' hw'
  · simp only [Act.put, hd]; exact hk.h

theorem m_load {k fuel d t b o : Nat} {cs : List Value} {v : Value} (hF : F.contains k = true) (hl : look ops k T = some (some d, .load t (.pointer (some ⟨b, o, none⟩)))) (h : ∀ w, C k w → At w b o cs) (hv : loadVal P t cs = some v)
    (hk : RunM P ops C F K fuel (k + 1) ⟨puts T [(d, v)], df⟩ w) : RunM P ops C F K (fuel + 1) k ⟨T, df⟩ w := by
  obtain ⟨op, ho, hw, hd, hx⟩ := look_spec hl (by simp) (by simp)
  refine m_op hF ho hd hw (fun w' hw' => ?_) hk
  rw [hx]
  unfold OpV.sem
  simp only
  rw [Sem.run_bind, run_load (h w' hw') hv]
  rfl

theorem m_index {α : Type} {t : Ty α} {k fuel d tn e n : Nat} {kd : IntKind} {A : Option Addr} {c : Nat} {b o : Nat} {ix : Int} (hF : F.contains k = true) (hl : look ops k T = some (some d, .indexAddr tn (.slice A n c) (.int kd ix)))
    (ht : P.underlying tn = some (.slice e)) (hs : (P.info? e).map (·.size) = some t.sz) (hA : A = some ⟨b, o, none⟩) (h0 : 0 ≤ ix) (h1 : ix < n)
    (hk : RunM P ops C F K fuel (k + 1) ⟨puts T [(d, .pointer (some ⟨b, o + ix.toNat * t.sz, none⟩))], df⟩ w) : RunM P ops C F K (fuel + 1) k ⟨T, df⟩ w := by
  obtain ⟨op, ho, hw, hd, hx⟩ := look_spec hl (by simp) (by simp)
  refine m_op hF ho hd hw (fun w' _ => ?_) hk
  rw [hx]
  obtain ⟨ti, hi, hsz⟩ := Option.map_eq_some_iff.1 hs
  subst hA
  simp [OpV.sem, Instr.indexAt, asIntOf, run_underlying ht, h0, h1, sizeOf, typeInfo, hi, hsz, add_mk]

theorem wp_toQF {Q : Exit → Act → World → Prop} {o : Oper} {a : Act} {w : World} {K : Act → World → Prop} (hp : ∀ c a w, ¬ Q (.panic c) a w) (ho : ¬ LetsOut Q) (h : o.wp P a w K Q) : o.wp P a w K QF := by
  unfold Oper.wp at *
  generalize (execOp a.eval o).run P w = r at *
  cases r with
  | ok n w' =>
    cases n <;> simp only [Oper.upon] at h ⊢ <;> first | exact h | skip
    refine Calls.mono h fun e w'' he => ?_
    cases e with
    | returned v => exact he
    | panicked c => exact absurd he (hp _ _ _)
    | outgrown => exact absurd he ho
  | halt x w' => cases x <;> simp only [Oper.upon] at h ⊢ <;> first | exact h | exact absurd h (hp _ _ _)

/-- What the step of a region leaves: the rest of the walk. -/
def After (C : World → Prop) (K : Act → World → Prop) : Exit → Act → World → Prop := fun e a w => match e with | .normal => C w ∧ K a w | _ => False

/-- One of those that come in one order alone: by the steps of Vx1 .. Vx3. -/
theorem m_R {k fuel : Nat} {o : Oper} (hF : F.contains k = false) (ho : ops[k]? = some o) (h0 : Run P ops (After (C k) (wpM P ops C F.contains K fuel (k + 1))) [k] ⟨T, df⟩ w) : RunM P ops C F K (fuel + 1) k ⟨T, df⟩ w := by
  have h := h0.h
  refine ⟨?_⟩
  show mOp P ops C F.contains k _ _ _
  unfold mOp
  rw [if_neg (by rw [hF]; simp)]
  unfold rOp
  simp only [wpOps, ho] at h ⊢
  split
  · rename_i hw
    simp only [hw, if_true] at h
    rcases h with h | ⟨_, a', w', h⟩
    · exact wp_toQF (fun c a w h => h) (fun ⟨_, _, h⟩ => h) h
    · exact h.elim
  · rename_i hw
    simp only [hw, Bool.false_eq_true, if_false] at h
    exact h.2
theorem m_after {C0 : World → Prop} {a : Act} {n k : Nat} (hC : C0 w) (h : RunM P ops C F K n k a w) : After C0 (wpM P ops C F.contains K n k) .normal a w := ⟨hC, h.h⟩
end
end Go.Vx
