/-
  A region whose order is open: one walk in the text's order serves every order, if the operations in F only read (in every world of the class C the same value, the world as it was),
  and the others come in one order alone and never leave C. My own text.
-/
import Derived.Test.YtjkapifbinmjhaaVx3
import Derived.Still
namespace Go.Vx
open Go.RowKit

def QF : Exit → Act → World → Prop := fun _ _ _ => False

section
variable {P : Program} {ops : Array Oper} {C : Nat → World → Prop} {md : Region.Mode}

/-- The operation reads alone: v, in every world of the class. -/
def FY (P : Program) (ops : Array Oper) (C : World → Prop) (o : Oper) (v : Value) (a : Act) : Prop :=
  (Region.wanted o (yielded ops a.tmps) = true ∧ ∀ w, C w → (execOp a.eval o).run P w = .ok (.value v) w) ∨ (Region.wanted o (yielded ops a.tmps) = false ∧ v = undef)

def rOp (P : Program) (ops : Array Oper) (C : Nat → World → Prop) (i : Nat) (K : Act → World → Prop) (a : Act) (w : World) : Prop :=
  match ops[i]? with
  | none => False
  | some o => if Region.wanted o (yielded ops a.tmps) then o.wp P a w (fun a' w' => C i w' ∧ K a' w') QF else K (a.put o.dst undef) w

def fOp (P : Program) (ops : Array Oper) (C : Nat → World → Prop) (i : Nat) (K : Act → World → Prop) (a : Act) (w : World) : Prop :=
  ∃ o v, ops[i]? = some o ∧ FY P ops (C i) o v a ∧ K (a.put o.dst v) w

def mOp (P : Program) (ops : Array Oper) (C : Nat → World → Prop) (F : Nat → Bool) (i : Nat) (K : Act → World → Prop) (a : Act) (w : World) : Prop :=
  if F i = true then fOp P ops C i K a w else rOp P ops C i K a w

def wpAnyM (P : Program) (md : Region.Mode) (ops : Array Oper) (C : Nat → World → Prop) (F : Nat → Bool) (Q : Act → World → Prop) : Nat → Array Bool → Act → World → Prop
  | 0, listed, a, w => Region.ready md ops listed = [] ∧ Q a w
  | fuel + 1, listed, a, w => (Region.ready md ops listed = [] → Q a w) ∧ ∀ i ∈ Region.ready md ops listed, mOp P ops C F i (wpAnyM P md ops C F Q fuel (listed.setIfInBounds i true)) a w

theorem rOp_mono {i : Nat} {a : Act} {w : World} {K K' : Act → World → Prop} (h : ∀ a w, K a w → K' a w) (hh : rOp P ops C i K a w) : rOp P ops C i K' a w := by
  unfold rOp at *
  split
  · rename_i ho; simp [ho] at hh
  · rename_i o ho
    simp only [ho] at hh
    split
    · rename_i hw; simp only [hw, if_true] at hh; exact Oper.wp_mono (fun a w h' => ⟨h'.1, h _ _ h'.2⟩) hh
    · rename_i hw; simp only [hw] at hh; exact h _ _ hh

theorem wp_QF {Q : Exit → Act → World → Prop} {o : Oper} {a : Act} {w : World} {K : Act → World → Prop} (h : o.wp P a w K QF) : o.wp P a w K Q := by
  unfold Oper.wp at *
  generalize (execOp a.eval o).run P w = r at *
  cases r with
  | ok n w' =>
    cases n <;> simp only [Oper.upon] at h ⊢ <;> first | exact h | skip
    refine Calls.mono h fun e w'' he => ?_
    cases e with
    | returned v => exact he
    | panicked c => exact he.elim
    | outgrown => obtain ⟨_, _, h⟩ := he; exact h.elim
  | halt x w' => cases x <;> simp only [Oper.upon] at h ⊢ <;> first | exact h | exact h.elim

/-- What comes of an operation is its frame with something put where it writes. -/
theorem wp_exists {o : Oper} {a : Act} {w : World} {K : Act → World → Prop} (h : o.wp P a w K QF) : ∃ ds u w', K (({ a with defers := ds } : Act).put o.dst u) w' := by
  unfold Oper.wp at h
  generalize (execOp a.eval o).run P w = r at h
  cases r with
  | ok n w' =>
    cases n <;> simp only [Oper.upon] at h
    case value v => exact ⟨a.defers, v, w', h⟩
    case skip => exact ⟨a.defers, undef, w', h⟩
    case defer d => exact ⟨d :: a.defers, undef, w', h⟩
    case enter f args =>
      obtain ⟨e, w'', _, hR, _⟩ := h []
      cases e with
      | returned v => exact ⟨a.defers, v, w'', hR⟩
      | panicked c => exact hR.elim
      | outgrown => obtain ⟨_, _, h⟩ := hR; exact h.elim
    case row row args =>
      obtain ⟨v, w'', hR, _⟩ := h default []
      exact ⟨a.defers, v, w'', hR⟩
  | halt x w' => cases x <;> simp only [Oper.upon] at h <;> first | exact h.elim | exact absurd h id

/-- Another's temporary put ahead or behind is one. -/
theorem wp_put {o : Oper} {d : Option Tmp} {v : Value} {a : Act} {w : World} {K : Act → World → Prop} (he : execOp (a.put d v).eval o = execOp a.eval o) (hd : ∀ t, d = some t → o.dst ≠ some t) :
    o.wp P (a.put d v) w K QF ↔ o.wp P a w (fun a' w' => K (a'.put d v) w') QF := by
  unfold Oper.wp
  rw [he]
  generalize (execOp a.eval o).run P w = r
  have hc : ∀ u, (a.put d v).put o.dst u = (a.put o.dst u).put d v := fun u => Act.put_comm a v u hd
  cases r with
  | ok n w' =>
    cases n <;> simp only [Oper.upon]
    case value u => rw [hc]
    case skip => rw [hc]
    case defer q =>
      have : ({ a.put d v with defers := q :: (a.put d v).defers } : Act).put o.dst undef = (({ a with defers := q :: a.defers } : Act).put o.dst undef).put d v := by
        rw [Act.put_defers, Act.put_comm _ v undef hd]
      rw [this]
    case enter f args =>
      constructor
      · intro h; refine Calls.mono h fun e w'' he => ?_
        cases e with
        | returned u => dsimp only at he ⊢; rw [← hc]; exact he
        | panicked c => exact he
        | outgrown => exact he
      · intro h; refine Calls.mono h fun e w'' he => ?_
        cases e with
        | returned u => dsimp only at he ⊢; rw [hc]; exact he
        | panicked c => exact he
        | outgrown => exact he
    case row row args =>
      constructor
      · intro h; exact Rows.mono h fun u w'' he => by rw [← hc]; exact he
      · intro h; exact Rows.mono h fun u w'' he => by rw [hc]; exact he
  | halt x w' => cases x <;> simp only [Oper.upon] <;> exact Iff.rfl

theorem FY.same {C : World → Prop} {o : Oper} {v : Value} {a a' : Act} (hy : FY P ops C o v a) (he : execOp a'.eval o = execOp a.eval o) (hw : Region.wanted o (yielded ops a'.tmps) = Region.wanted o (yielded ops a.tmps)) : FY P ops C o v a' := by
  unfold FY at *
  rw [he, hw]; exact hy

theorem FY.det {C : World → Prop} {o : Oper} {v u : Value} {a : Act} (hC : ∃ w, C w) (h : FY P ops C o v a) (k : FY P ops C o u a) : v = u := by
  obtain ⟨w, hw⟩ := hC
  rcases h with ⟨h1, h2⟩ | ⟨h1, h2⟩ <;> rcases k with ⟨k1, k2⟩ | ⟨k1, k2⟩
  · have := (h2 w hw).symm.trans (k2 w hw)
    simpa using this
  · rw [h1] at k1; cases k1
  · rw [h1] at k1; cases k1
  · rw [h2, k2]

theorem execOp_defers (a : Act) (ds : List Deferred) (o : Oper) : execOp ({ a with defers := ds } : Act).eval o = execOp a.eval o := by
  rw [show ({ a with defers := ds } : Act).eval = a.eval from by funext x; cases x <;> rfl]

/-- What those that are still to come may meet. -/
def Meets (C : Nat → World → Prop) (F : Nat → Bool) (listed : Array Bool) (w : World) : Prop := ∀ i, F i = true → listed.getD i true = false → C i w

/-- An operation behind which the world is of the class C k may be taken only when those of a smaller class are done. -/
def LateOk (md : Region.Mode) (ops : Array Oper) (C : Nat → World → Prop) (F : Nat → Bool) : Prop :=
  ∀ k ok, ops[k]? = some ok → ¬ F k = true → ∀ i, F i = true → (∀ w, C k w → C i w) ∨ ∃ e ∈ ok.after, Region.binds md e = true ∧ e.on = i

theorem Meets.more {F : Nat → Bool} {listed : Array Bool} {w : World} {k : Nat} (h : Meets C F listed w) : Meets C F (listed.setIfInBounds k true) w := fun i hF hl => by
  by_cases e : k = i
  · subst e
    rcases Nat.lt_or_ge k listed.size with h' | h'
    · simp [Array.getD, h'] at hl
    · simp [Array.getD, Nat.not_lt.2 h'] at hl
  · rw [getD_set_ne true e] at hl; exact h i hF hl

/-- It is what is asked. -/
theorem wpAny_of_M {F : Nat → Bool} {Q : Act → World → Prop} {Q' : Exit → Act → World → Prop} (hL : LateOk md ops C F) (hQ : ∀ a w, Q a w → Q' .normal a w) :
    ∀ (fuel : Nat) (listed : Array Bool) (a : Act) (w : World), Meets C F listed w → wpAnyM P md ops C F Q fuel listed a w → wpAny P md ops Q' fuel listed a w
  | 0, _, _, _, _, h => ⟨h.1, hQ _ _ h.2⟩
  | fuel + 1, listed, _, w, hw, h => ⟨fun h0 => hQ _ _ (h.1 h0), fun i hi => by
      have hm := h.2 i hi
      obtain ⟨hun, oi, hoi, hall⟩ := mem_ready.1 hi
      unfold mOp at hm
      split at hm
      · rename_i hFi
        obtain ⟨o, v, ho, hy, hK⟩ := hm
        unfold wpOp
        simp only [ho]
        rcases hy with ⟨h1, h2⟩ | ⟨h1, rfl⟩
        · simp only [h1, if_true]
          left
          unfold Oper.wp
          rw [h2 _ (hw i hFi hun)]
          exact wpAny_of_M hL hQ fuel _ _ _ hw.more hK
        · simp only [h1, Bool.false_eq_true, if_false]
          exact wpAny_of_M hL hQ fuel _ _ _ hw.more hK
      · rename_i hFi
        unfold rOp at hm
        unfold wpOp
        split at hm
        · exact hm.elim
        · rename_i o ho
          simp only [ho]
          rw [ho] at hoi; cases hoi
          have hnew : ∀ w', C i w' → Meets C F (listed.setIfInBounds i true) w' := fun w' hw' j hFj hj => by
            rcases hL i oi ho hFi j hFj with hs | ⟨e, he, hb, heq⟩
            · exact hs _ hw'
            · exfalso
              have h1 := hall e he hb
              have hji : i ≠ j := fun h => hFi (h ▸ hFj)
              rw [getD_set_ne true hji] at hj
              rw [heq] at h1
              rcases Nat.lt_or_ge j listed.size with h' | h'
              · simp [h'] at h1 hj; rw [h1] at hj; cases hj
              · simp [Array.getElem?_eq_none h'] at h1 hj
          split at hm
          · rename_i hwant
            simp only [hwant, if_true]
            left
            exact Oper.wp_mono (fun a' w' hk => wpAny_of_M hL hQ fuel _ _ _ (hnew _ hk.1) hk.2) (wp_QF hm)
          · rename_i hwant
            simp only [hwant, Bool.false_eq_true, if_false]
            exact wpAny_of_M hL hQ fuel _ _ _ hw.more hm⟩

theorem not_waits {i j : Nat} {listed : Array Bool} {oj : Oper} (hi : i ∈ Region.ready md ops listed) (hoj : ops[j]? = some oj) (hj : j ∈ Region.ready md ops listed) : ∀ e ∈ oj.after, Region.binds md e = true → e.on ≠ i := fun e he hb heq => by
  obtain ⟨_, oj', hoj', hall⟩ := mem_ready.1 hj
  rw [hoj] at hoj'; cases hoj'
  have h1 := hall e he hb
  have h0 := (mem_ready.1 hi).1
  rw [heq] at h1
  rcases Nat.lt_or_ge i listed.size with h' | h'
  · simp [h'] at h0 h1; rw [h0] at h1; cases h1
  · simp [Array.getElem?_eq_none h'] at h1

/-- One that reads alone may be taken first. -/
theorem take_F {F : Nat → Bool} {Q : Act → World → Prop} {i : Nat} {oi : Oper} {v : Value} (hi : ops[i]? = some oi) (hFi : F i = true) (hsel : ∀ (j : Nat) (o : Oper) cs b, ops[j]? = some o → o.op ≠ .select cs b) :
    ∀ (fuel : Nat) (listed : Array Bool) (a : Act) (w : World),
      (∀ j oj, ops[j]? = some oj → j ≠ i → listed.getD j true = false → (∀ e ∈ oj.after, Region.binds md e = true → e.on ≠ i) → oi.apart ops oj = true) →
      i ∈ Region.ready md ops listed → FY P ops (C i) oi v a →
      wpAnyM P md ops C F Q fuel (listed.setIfInBounds i true) (a.put oi.dst v) w → wpAnyM P md ops C F Q (fuel + 1) listed a w := by
  intro fuel
  induction fuel with
  | zero =>
    intro listed a w _ hr hy H
    refine ⟨fun h => (by rw [h] at hr; cases hr), fun j hj => ?_⟩
    by_cases hji : j = i
    · subst hji; unfold mOp; rw [if_pos hFi]; exact ⟨oi, v, hi, hy, H⟩
    · have := ready_mono hj hji
      rw [H.1] at this
      cases this
  | succ fuel ih =>
    intro listed a w hfree hr hy H
    refine ⟨fun h => (by rw [h] at hr; cases hr), fun j hj => ?_⟩
    by_cases hji : j = i
    · subst hji; unfold mOp; rw [if_pos hFi]; exact ⟨oi, v, hi, hy, H⟩
    · have h1 := H.2 j (ready_mono hj hji)
      obtain ⟨hjun, oj, hoj, hall⟩ := mem_ready.1 hj
      have hap := hfree j oj hoj hji hjun (not_waits hr hoj hj)
      obtain ⟨a1, a2, a3⟩ := Oper.apart_spec hap
      have hfree' : ∀ k ok, ops[k]? = some ok → k ≠ i → (listed.setIfInBounds j true).getD k true = false →
          (∀ e ∈ ok.after, Region.binds md e = true → e.on ≠ i) → oi.apart ops ok = true := fun k ok hk hki hun hno => by
        refine hfree k ok hk hki ?_ hno
        by_cases hjk : j = k
        · subst hjk; exact hjun
        · rw [getD_set_ne true hjk] at hun; exact hun
      have keep : ∀ ds u, FY P ops (C i) oi v (({ a with defers := ds } : Act).put oj.dst u) := fun ds u =>
        hy.same (by rw [execOp_put oi (fun cs b => hsel i oi cs b hi) _ oj.dst u a3]; exact execOp_defers a ds oi) (by rw [wanted_put oi _ oj.dst u a3])
      have go : ∀ a' w', FY P ops (C i) oi v a' → wpAnyM P md ops C F Q fuel ((listed.setIfInBounds i true).setIfInBounds j true) (a'.put oi.dst v) w' → wpAnyM P md ops C F Q (fuel + 1) (listed.setIfInBounds j true) a' w' := fun a' w' hy' h =>
        ih _ a' w' hfree' (ready_mono hr (Ne.symm hji)) hy' (by rw [Array.setIfInBounds_comm _ _ hji]; exact h)
      unfold mOp at h1 ⊢
      split at h1
      · rename_i hFj
        rw [if_pos hFj]
        obtain ⟨oj', u, hoj', hyj, hK⟩ := h1
        rw [hoj] at hoj'; cases hoj'
        refine ⟨oj, u, hoj, hyj.same (execOp_put oj (fun cs b => hsel j oj cs b hoj) a oi.dst v a1).symm (wanted_put oj a oi.dst v a1).symm, go _ _ (keep a.defers u) ?_⟩
        rw [← Act.put_comm a v u a2]; exact hK
      · rename_i hFj
        rw [if_neg hFj]
        unfold rOp at h1 ⊢
        simp only [hoj] at h1 ⊢
        rw [wanted_put oj a oi.dst v a1] at h1
        split
        · rename_i hw
          simp only [hw, if_true] at h1
          rw [wp_put (execOp_put oj (fun cs b => hsel j oj cs b hoj) a oi.dst v a1) a2] at h1
          -- what comes of j keeps i's value
          have hkeep : ∀ {K : Act → World → Prop}, oj.wp P a w K QF → oj.wp P a w (fun a' w' => FY P ops (C i) oi v a' ∧ K a' w') QF := by
            intro K hk
            unfold Oper.wp at *
            generalize (execOp a.eval oj).run P w = r at *
            cases r with
            | ok n w' =>
              cases n <;> simp only [Oper.upon] at hk ⊢ <;> first | exact hk | skip
              case value u => exact ⟨keep a.defers u, hk⟩
              case skip => exact ⟨keep a.defers undef, hk⟩
              case defer q => exact ⟨keep _ undef, hk⟩
              case enter f args =>
                refine Calls.mono hk fun e w'' he => ?_
                cases e with
                | returned u => exact ⟨keep a.defers u, he⟩
                | panicked c => exact he
                | outgrown => exact he
              case row row args => exact Rows.mono hk fun u w'' he => ⟨keep a.defers u, he⟩
            | halt x w' => cases x <;> simp only [Oper.upon] at hk ⊢ <;> exact hk
          exact Oper.wp_mono (fun a' w' hk => ⟨hk.2.1, go _ _ hk.1 hk.2.2⟩) (hkeep h1)
        · rename_i hw
          simp only [hw, Bool.false_eq_true, if_false] at h1
          refine go _ _ (keep a.defers undef) ?_
          rw [← Act.put_comm a v undef a2]; exact h1

/-- Who waits for k, straight or through others. -/
def waiters (md : Region.Mode) (ops : Array Oper) (k : Nat) : List Nat :=
  (List.range ops.size).foldl (fun D j => match ops[j]? with
    | some oj => if oj.after.any (fun e => Region.binds md e && (e.on == k || D.contains e.on)) then j :: D else D
    | none => D) []

def Waits (md : Region.Mode) (ops : Array Oper) (k : Nat) (D : List Nat) : Prop := ∀ j ∈ D, ∃ oj, ops[j]? = some oj ∧ ∃ e ∈ oj.after, Region.binds md e = true ∧ (e.on = k ∨ e.on ∈ D)

theorem waiters_ok (k : Nat) : Waits md ops k (waiters md ops k) := by
  have key : ∀ (l : List Nat) (D : List Nat), Waits md ops k D → Waits md ops k (l.foldl (fun D j => match ops[j]? with
    | some oj => if oj.after.any (fun e => Region.binds md e && (e.on == k || D.contains e.on)) then j :: D else D
    | none => D) D) := by
    intro l
    induction l with
    | nil => intro D h; exact h
    | cons j l ih =>
      intro D h
      refine ih _ ?_
      dsimp only
      split
      · rename_i oj hoj
        split
        · rename_i hany
          obtain ⟨e, he, hb⟩ := Array.any_eq_true'.1 hany
          simp only [Bool.and_eq_true, Bool.or_eq_true, beq_iff_eq, List.contains_iff_mem] at hb
          intro j' hj'
          rcases List.mem_cons.1 hj' with rfl | hj'
          · exact ⟨oj, hoj, e, he, hb.1, hb.2.imp id (fun h => List.mem_cons_of_mem _ h)⟩
          · obtain ⟨o', ho', e', he', hb', hor⟩ := h j' hj'
            exact ⟨o', ho', e', he', hb', hor.imp id (fun h => List.mem_cons_of_mem _ h)⟩
        · exact h
      · exact h
  exact key _ [] (fun j hj => by cases hj)

/-- One that is ready, while all who are not listed wait for it, or read alone and are apart from it. -/
theorem take_R {F : Nat → Bool} {Q : Act → World → Prop} {i : Nat} {oi : Oper} (hi : ops[i]? = some oi) (hFi : F i ≠ true) (hsel : ∀ (j : Nat) (o : Oper) cs b, ops[j]? = some o → o.op ≠ .select cs b)
    {D : List Nat} (hD : Waits md ops i D) (hC : ∀ i, ∃ w, C i w) :
    ∀ (fuel : Nat) (listed : Array Bool) (a : Act) (w : World), (∀ j ∈ D, listed.getD j false = false) →
      (∀ j oj, ops[j]? = some oj → j ≠ i → listed.getD j true = false → j ∉ D → F j = true ∧ oi.apart ops oj = true) →
      i ∈ Region.ready md ops listed → mOp P ops C F i (wpAnyM P md ops C F Q fuel (listed.setIfInBounds i true)) a w → wpAnyM P md ops C F Q (fuel + 1) listed a w := by
  have hiF : ∀ {listed : Array Bool}, i ∈ Region.ready md ops listed → listed.getD i false = false := fun {listed} h => by
    have h0 := (mem_ready.1 h).1
    rcases Nat.lt_or_ge i listed.size with h' | h'
    · simp [h'] at h0 ⊢; exact h0
    · simp [Array.getElem?_eq_none h']
  have hnotD : ∀ {listed : Array Bool} {j : Nat}, i ∈ Region.ready md ops listed → (∀ j ∈ D, listed.getD j false = false) → j ∈ Region.ready md ops listed → j ∉ D := fun {listed j} hr hDl hj hm => by
    obtain ⟨oj, hoj, e, he, hb, hor⟩ := hD j hm
    obtain ⟨_, oj', hoj', hall⟩ := mem_ready.1 hj
    rw [hoj] at hoj'; cases hoj'
    have h1 := hall e he hb
    rcases hor with heq | hm'
    · rw [heq, hiF hr] at h1; cases h1
    · rw [hDl _ hm'] at h1; cases h1
  intro fuel
  induction fuel with
  | zero =>
    intro listed a w hDl hfree hr H
    refine ⟨fun h => (by rw [h] at hr; cases hr), fun j hj => ?_⟩
    by_cases hji : j = i
    · subst hji; exact H
    · exfalso
      have hready : Region.ready md ops (listed.setIfInBounds i true) ≠ [] := fun h => by have := ready_mono hj hji; rw [h] at this; cases this
      unfold mOp at H
      rw [if_neg hFi] at H
      unfold rOp at H
      simp only [hi] at H
      split at H
      · obtain ⟨_, _, _, _, hk⟩ := wp_exists H
        exact hready hk.1
      · exact hready H.1
  | succ fuel ih =>
    intro listed a w hDl hfree hr H
    refine ⟨fun h => (by rw [h] at hr; cases hr), fun j hj => ?_⟩
    by_cases hji : j = i
    · subst hji; exact H
    · obtain ⟨hjun, oj, hoj, hall⟩ := mem_ready.1 hj
      have hjD := hnotD hr hDl hj
      obtain ⟨hFj, hap⟩ := hfree j oj hoj hji hjun hjD
      obtain ⟨a1, a2, a3⟩ := Oper.apart_spec hap
      have hDl' : ∀ k ∈ D, (listed.setIfInBounds j true).getD k false = false := fun k hk => by
        rw [getD_set_ne false (by rintro rfl; exact hjD hk)]; exact hDl k hk
      have hfree' : ∀ k ok, ops[k]? = some ok → k ≠ i → (listed.setIfInBounds j true).getD k true = false → k ∉ D → F k = true ∧ oi.apart ops ok = true := fun k ok hk hki hun hkD => by
        refine hfree k ok hk hki ?_ hkD
        by_cases hjk : j = k
        · subst hjk; exact hjun
        · rw [getD_set_ne true hjk] at hun; exact hun
      have hrj := ready_mono (i := i) hj hji
      -- j's branch behind i
      have behind : ∀ {a' : Act} {w' : World}, wpAnyM P md ops C F Q (fuel + 1) (listed.setIfInBounds i true) a' w' →
          ∃ u, FY P ops (C j) oj u a' ∧ wpAnyM P md ops C F Q fuel ((listed.setIfInBounds j true).setIfInBounds i true) (a'.put oj.dst u) w' := fun {a' w'} h => by
        have := h.2 j hrj
        unfold mOp at this
        rw [if_pos hFj] at this
        obtain ⟨oj', u, hoj', hy, hk⟩ := this
        rw [hoj] at hoj'; cases hoj'
        exact ⟨u, hy, by rw [Array.setIfInBounds_comm _ _ hji]; exact hk⟩
      have front : ∀ {u ds x}, FY P ops (C j) oj u (({ a with defers := ds } : Act).put oi.dst x) → FY P ops (C j) oj u a := fun {u ds x} h =>
        h.same (by rw [execOp_put oj (fun cs b => hsel j oj cs b hoj) _ oi.dst x a1]; exact (execOp_defers a ds oj).symm) (by rw [wanted_put oj _ oi.dst x a1])
      unfold mOp at H
      rw [if_neg hFi] at H
      unfold rOp at H
      simp only [hi] at H
      unfold mOp
      rw [if_pos hFj]
      -- the value that j has
      have hu : ∃ u, FY P ops (C j) oj u a := by
        split at H
        · obtain ⟨ds, x, w', hCw, hk⟩ := wp_exists H
          obtain ⟨u, hy, _⟩ := behind hk
          exact ⟨u, front hy⟩
        · obtain ⟨u, hy, _⟩ := behind H
          exact ⟨u, front (ds := a.defers) hy⟩
      obtain ⟨u, hyu⟩ := hu
      refine ⟨oj, u, hoj, hyu, ih _ _ w hDl' hfree' (ready_mono hr (Ne.symm hji)) ?_⟩
      unfold mOp
      rw [if_neg hFi]
      unfold rOp
      simp only [hi]
      rw [wanted_put oi a oj.dst u a3]
      have hc : ∀ d, oj.dst = some d → oi.dst ≠ some d := fun d hd he => a2 d he hd
      split
      · rename_i hw
        simp only [hw, if_true] at H
        rw [wp_put (execOp_put oi (fun cs b => hsel i oi cs b hi) a oj.dst u a3) hc]
        -- every outcome of i keeps j's value
        have hkeep : ∀ {K : Act → World → Prop}, oi.wp P a w K QF → oi.wp P a w (fun a' w' => FY P ops (C j) oj u a' ∧ K a' w') QF := by
          have keep : ∀ ds x, FY P ops (C j) oj u (({ a with defers := ds } : Act).put oi.dst x) := fun ds x =>
            hyu.same (by rw [execOp_put oj (fun cs b => hsel j oj cs b hoj) _ oi.dst x a1]; exact execOp_defers a ds oj) (by rw [wanted_put oj _ oi.dst x a1])
          intro K hk
          unfold Oper.wp at *
          generalize (execOp a.eval oi).run P w = r at *
          cases r with
          | ok n w' =>
            cases n <;> simp only [Oper.upon] at hk ⊢ <;> first | exact hk | skip
            case value x => exact ⟨keep a.defers x, hk⟩
            case skip => exact ⟨keep a.defers undef, hk⟩
            case defer q => exact ⟨keep _ undef, hk⟩
            case enter f args =>
              refine Calls.mono hk fun e w'' he => ?_
              cases e with
              | returned x => exact ⟨keep a.defers x, he⟩
              | panicked c => exact he
              | outgrown => exact he
            case row row args => exact Rows.mono hk fun x w'' he => ⟨keep a.defers x, he⟩
          | halt x w' => cases x <;> simp only [Oper.upon] at hk ⊢ <;> exact hk
        refine Oper.wp_mono (fun a' w' hk => ⟨hk.2.1, ?_⟩) (hkeep H)
        obtain ⟨u', hy', hk'⟩ := behind hk.2.2
        rw [FY.det (hC j) hk.1 hy']; exact hk'
      · rename_i hw
        simp only [hw, Bool.false_eq_true, if_false] at H
        obtain ⟨u', hy', hk'⟩ := behind H
        have := FY.det (hC j) hyu (front (ds := a.defers) hy')
        subst this
        rw [Act.put_comm a u undef hc]; exact hk'

/-! ### the text's order -/
def freeR (md : Region.Mode) (ops : Array Oper) (F : Nat → Bool) (listed : Array Bool) (i : Nat) : Bool :=
  let D := waiters md ops i
  match ops[i]? with
  | none => false
  | some oi => D.all (fun j => !listed.getD j false) && (List.range ops.size).all fun j => j == i || listed.getD j true || D.contains j || (F j && match ops[j]? with | some oj => oi.apart ops oj | none => true)

def lexM (md : Region.Mode) (ops : Array Oper) (F : Nat → Bool) : Nat → Nat → Array Bool → Bool
  | 0, _, listed => (Region.ready md ops listed).isEmpty
  | fuel + 1, k, listed => (Region.ready md ops listed).contains k && (if F k then Region.free md ops listed k else freeR md ops F listed k) && lexM md ops F fuel (k + 1) (listed.setIfInBounds k true)

/-- The walk in the text's order. -/
def wpM (P : Program) (ops : Array Oper) (C : Nat → World → Prop) (F : Nat → Bool) (Q : Act → World → Prop) : Nat → Nat → Act → World → Prop
  | 0, _, a, w => Q a w
  | fuel + 1, k, a, w => mOp P ops C F k (wpM P ops C F Q fuel (k + 1)) a w

theorem wpAnyM_lex {F : Nat → Bool} {Q : Act → World → Prop} (hs : Region.noSelect ops = true) (hC : ∀ i, ∃ w, C i w) : ∀ (fuel k : Nat) (listed : Array Bool) (a : Act) (w : World),
    lexM md ops F fuel k listed = true → wpM P ops C F Q fuel k a w → wpAnyM P md ops C F Q fuel listed a w
  | 0, _, _, _, _, hB, h => ⟨by simpa [lexM] using hB, h⟩
  | fuel + 1, k, listed, a, w, hB, h => by
    simp only [lexM, Bool.and_eq_true] at hB
    obtain ⟨⟨hr, hf⟩, hB'⟩ := hB
    have hr' : k ∈ Region.ready md ops listed := by simpa using hr
    have h' : mOp P ops C F k (wpM P ops C F Q fuel (k + 1)) a w := h
    unfold mOp at h'
    by_cases hFk : F k = true
    · rw [if_pos hFk] at h' hf
      obtain ⟨o, v, ho, hy, hK⟩ := h'
      exact take_F ho hFk (Region.noSelect_spec hs) fuel listed a w (Region.free_spec ho hf) hr' hy (wpAnyM_lex hs hC fuel (k + 1) _ _ _ hB' hK)
    · rw [if_neg hFk] at h' hf
      obtain ⟨_, o, ho, _⟩ := mem_ready.1 hr'
      unfold freeR at hf
      simp only [ho, Bool.and_eq_true, List.all_eq_true, List.mem_range] at hf
      obtain ⟨hf1, hf2⟩ := hf
      refine take_R ho hFk (Region.noSelect_spec hs) (waiters_ok (md := md) k) hC fuel listed a w (fun j hj => by simpa using hf1 j hj) (fun j oj hoj hne hun hnD => ?_) hr' ?_
      · have := hf2 j (Array.getElem?_eq_some_iff.1 hoj).1
        have hnD' : (waiters md ops k).contains j = false := by simpa using hnD
        simp only [hoj, Bool.or_eq_true, beq_iff_eq, hne, false_or, hun, Bool.false_eq_true, hnD', Bool.and_eq_true] at this
        exact this
      · unfold mOp
        rw [if_neg hFk]
        refine (?_ : rOp P ops C k _ a w)
        unfold rOp at h' ⊢
        simp only [ho] at h' ⊢
        split
        · rename_i hw
          simp only [hw, if_true] at h'
          exact Oper.wp_mono (fun a' w' hk => ⟨hk.1, wpAnyM_lex hs hC fuel (k + 1) _ _ _ hB' hk.2⟩) h'
        · rename_i hw
          simp only [hw, Bool.false_eq_true, if_false] at h'
          exact wpAnyM_lex hs hC fuel (k + 1) _ _ _ hB' h'
end

section
variable {P : Program} {ops : Array Oper} {Q : Exit → Act → World → Prop}
/-- The classes: up to the operation kL the smaller one, behind it the wider; those of E meet the smaller alone. -/
def cls (S1 S2 : World → Prop) (F E : List Nat) (kL : Nat) (i : Nat) : World → Prop := bif E.contains i || (Nat.blt i kL && !F.contains i) then S1 else S2
def lateOk (md : Region.Mode) (ops : Array Oper) (F E : List Nat) (kL : Nat) : Bool :=
  (List.range ops.size).all fun k => F.contains k || Nat.blt k kL || E.all fun i => match ops[k]? with | some o => o.after.any fun e => Region.binds md e && e.on == i | none => true
theorem lateOk_spec {md : Region.Mode} {S1 S2 : World → Prop} {F E : List Nat} {kL : Nat} (h12 : ∀ w, S1 w → S2 w) (h : lateOk md ops F E kL = true) : LateOk md ops (cls S1 S2 F E kL) F.contains := by
  intro k ok hok hFk i hFi
  have hk := List.all_eq_true.1 h k (List.mem_range.2 (Array.getElem?_eq_some_iff.1 hok).1)
  simp only [Bool.or_eq_true] at hk
  have hFk' : F.contains k = false := by simpa using hFk
  unfold cls
  cases hE : E.contains i
  · left
    simp only [hFi, Bool.false_or, Bool.not_true, Bool.and_false, cond_false]
    cases hc : (E.contains k || (Nat.blt k kL && !F.contains k))
    · exact fun w h => h
    · exact fun w h => h12 w h
  · rcases hk with (hk | hk) | hk
    · rw [hFk'] at hk; cases hk
    · left
      simp only [hk, hFk', Bool.not_false, Bool.and_true, Bool.or_true, Bool.true_or, cond_true]
      exact fun w h => h
    · right
      have hi : i ∈ E := by simpa using hE
      have := List.all_eq_true.1 hk i hi
      rw [hok] at this
      obtain ⟨e, he, hb⟩ := Array.any_eq_true'.1 this
      simp only [Bool.and_eq_true, beq_iff_eq] at hb
      exact ⟨e, he, hb.1, hb.2⟩
/-- The region. -/
theorem c_draw {id : Nat} {a : Act} {w : World} (S1 S2 : World → Prop) (F E : List Nat) (kL : Nat) (h12 : ∀ w, S1 w → S2 w) (hm : P.follows .mixedOrders = true) {n : Nat} (hn : ops.size = n)
    (hB : (Region.noSelect ops && lexM .any ops F.contains n 0 (Array.replicate n false) && lateOk .any ops F E kL) = true) (hC : S1 { w with drawn := w.drawn + 1 })
    (h : wpM P ops (cls S1 S2 F E kL) F.contains (fun a' w' => Q .normal a' w') n 0 a { w with drawn := w.drawn + 1 }) : (Code.region id ops true).wp P Q a w := by
  subst hn
  simp only [Bool.and_eq_true] at hB
  have hall : ∀ i, cls S1 S2 F E kL i { w with drawn := w.drawn + 1 } := fun i => by unfold cls; cases (E.contains i || (Nat.blt i kL && !F.contains i)) <;> first | exact h12 _ hC | exact hC
  exact wp_region_any hm (wpAny_of_M (lateOk_spec h12 hB.2) (fun _ _ h => h) _ _ _ _ (fun i _ _ => hall i) (wpAnyM_lex hB.1.1 (fun i => ⟨_, hall i⟩) _ _ _ _ _ hB.1.2 h))
end
end Go.Vx
