/-
  Equality of structs and strings, string(b), make, x[i] = v, array[i], loops that are gone through round by round. My own text.
-/
import Derived.Test.YtjkapifbinmjhaaVxA
import Derived.Laws.StructEq
import Derived.Laws.IdiomStrings
import Derived.ChangeKeysEq
namespace Go.Vx
open Go.RowKit

/-! ### == -/
def eqvF (P : Program) (f : TypeId → Value → Value → Option Bool) (xs ys : Array Value) : List Field → Option Bool
  | [] => some true
  | d :: fs =>
    if d.name == "_" then none else
    match pureRun P (part d.type xs d.offset), pureRun P (part d.type ys d.offset) with
    | some a, some b =>
      match f d.type a b, eqvF P f xs ys fs with
      | some r, some s => some (r && s)
      | _, _ => none
    | _, _ => none
def eqvI (P : Program) (f : TypeId → Value → Value → Option Bool) (e n : Nat) (xs ys : Array Value) : List Nat → Option Bool
  | [] => some true
  | i :: is =>
    match pureRun P (part e xs (i * n)), pureRun P (part e ys (i * n)) with
    | some a, some b =>
      match f e a b, eqvI P f e n xs ys is with
      | some r, some s => some (r && s)
      | _, _ => none
    | _, _ => none
def eqv (P : Program) : Nat → TypeId → Value → Value → Option Bool
  | 0, _, _, _ => none
  | d + 1, t, x, y =>
    match P.underlying t, x, y with
    | some .bool, .bool a, .bool b => some (a == b)
    | some (.int _), .int k a, .int k' b => if k = k' then some (a == b) else none
    | some (.struct fs), .agg xs, .agg ys => if P.stoodInHeld t then none else eqvF P (eqv P d) xs ys fs.toList
    | some (.array n e), .agg xs, .agg ys => match P.info? e with | some _ => eqvI P (eqv P d) e (P.cellsOf e) xs ys (List.range n) | none => none
    | _, _, _ => none

theorem eqvF_run {P : Program} {d : Nat} {f : TypeId → Value → Value → Option Bool} (hf : ∀ t x y b, f t x y = some b → ∀ w, (Op.equalIn d t x y).run P w = .ok b w) (xs ys : Array Value) (fs : List Field) :
    ∀ b, eqvF P f xs ys fs = some b → ∀ w, (Op.eqFields d xs ys fs).run P w = .ok b w := by
  induction fs with
  | nil => intro b h w; simp only [eqvF, Option.some.injEq] at h; subst h; simp [Op.eqFields]
  | cons g fs ih =>
    intro b h w
    simp only [eqvF] at h
    split at h
    · cases h
    · rename_i hn
      have hn' : g.name ≠ "_" := by simpa using hn
      split at h
      · rename_i a c ha hc
        split at h
        · rename_i r s hr hs
          simp only [Option.some.injEq] at h
          subst h
          simp only [Op.eqFields, if_pos hn', Sem.run_bind, pureRun_run _ ha, pureRun_run _ hc, hf _ _ _ _ hr, Result.andThen_ok]
          cases r
          · simp
          · simpa using ih _ hs w
        · cases h
      · cases h
theorem eqvI_run {P : Program} {d : Nat} {f : TypeId → Value → Value → Option Bool} (hf : ∀ t x y b, f t x y = some b → ∀ w, (Op.equalIn d t x y).run P w = .ok b w) (e n : Nat) (xs ys : Array Value) (is : List Nat) :
    ∀ b, eqvI P f e n xs ys is = some b → ∀ w, (Op.eqItems d e n xs ys is).run P w = .ok b w := by
  induction is with
  | nil => intro b h w; simp only [eqvI, Option.some.injEq] at h; subst h; simp [Op.eqItems]
  | cons i is ih =>
    intro b h w
    simp only [eqvI] at h
    split at h
    · rename_i a c ha hc
      split at h
      · rename_i r s hr hs
        simp only [Option.some.injEq] at h
        subst h
        simp only [Op.eqItems, Sem.run_bind, pureRun_run _ ha, pureRun_run _ hc, hf _ _ _ _ hr, Result.andThen_ok]
        cases r
        · simp
        · simpa using ih _ hs w
      · cases h
    · cases h
theorem eqv_run {P : Program} (d : Nat) : ∀ D, d ≤ D → ∀ t x y b, eqv P d t x y = some b → ∀ w, (Op.equalIn D t x y).run P w = .ok b w := by
  induction d with
  | zero => intro D _ t x y b h; simp [eqv] at h
  | succ d ih =>
    intro D hD t x y b h w
    obtain ⟨D, rfl⟩ : ∃ n, D = n + 1 := ⟨D - 1, by omega⟩
    have hf : ∀ t x y b, eqv P d t x y = some b → ∀ w, (Op.equalIn D t x y).run P w = .ok b w := ih D (by omega)
    simp only [eqv] at h
    split at h
    · rename_i hu
      simp only [Option.some.injEq] at h; subst h
      exact run_equalIn_bool' w D t _ _ hu
    · rename_i hu
      split at h
      · rename_i hk
        subst hk
        simp only [Option.some.injEq] at h; subst h
        exact run_equalIn_int w D t _ _ _ _ hu
      · cases h
    · rename_i fs xs ys hu
      split at h
      · cases h
      · rename_i hp
        have hfs : P.fieldsOf t = fs := by simp [Program.fieldsOf, hu]
        rw [run_equalIn_struct w D t xs ys (by rw [hfs]; exact hu) (by simpa using hp), hfs]
        exact eqvF_run hf xs ys _ _ h w
    · rename_i n e xs ys hu
      split at h
      · rename_i i hi
        rw [run_equalIn_array w D xs ys hu hi]
        exact eqvI_run hf _ _ xs ys _ _ h w
      · cases h
    · cases h

inductive OpW where
  | eq (neg : Bool) (t : TypeId) (x y : Value)
  | conv (s t : TypeId) (x : Value)
  | index (t : TypeId) (x i : Value)
  | div (rem : Bool) (x y : Value)
  | other
def lookW (ops : Array Oper) (i : Nat) (T : Array Value) : Option (Option Nat × OpW) :=
  match ops[i]? with
  | none => none
  | some o =>
    if Region.wanted o (yielded ops T) then
      let ρ := Act.eval ⟨T, []⟩
      some (o.dst, match o.op with
        | .binOp .eql t x y _ => .eq false t (ρ x) (ρ y)
        | .binOp .neq t x y _ => .eq true t (ρ x) (ρ y)
        | .convert s t x => .conv s t (ρ x)
        | .index t x ix => .index t (ρ x) (ρ ix)
        | .binOp .rem _ x y _ => .div true (ρ x) (ρ y)
        | .binOp .quo _ x y _ => .div false (ρ x) (ρ y)
        | _ => .other)
    else none

section
variable {P : Program} {ops : Array Oper} {Q : Exit → Act → World → Prop} {w : World} {T : Array Value} {df : List Deferred} {i : Nat} {rest : List Nat}

/-- What comes to a value and touches nothing, in whatever world. -/
def Comes (P : Program) (ops : Array Oper) (i : Nat) (T : Array Value) (d : Nat) (v : Value) (w : World) : Prop :=
  ∃ o, ops[i]? = some o ∧ o.dst = some d ∧ Region.wanted o (yielded ops T) = true ∧ (execOp (Act.eval ⟨T, []⟩) o).run P w = .ok (.value v) w
theorem st_comes {d : Nat} {v : Value} (h : Comes P ops i T d v w) (hk : Run P ops Q rest ⟨puts T [(d, v)], df⟩ w) : Run P ops Q (i :: rest) ⟨T, df⟩ w := by
  obtain ⟨o, ho, hd, hw, hr⟩ := h
  exact st_op ho hd hw hr hk
theorem m_comes {C : Nat → World → Prop} {F : List Nat} {K : Act → World → Prop} {fuel d : Nat} {v : Value} (hF : F.contains i = true) (h : ∀ w, C i w → Comes P ops i T d v w) (h0 : C i w)
    (hk : RunM P ops C F K fuel (i + 1) ⟨puts T [(d, v)], df⟩ w) : RunM P ops C F K (fuel + 1) i ⟨T, df⟩ w := by
  obtain ⟨o, ho, hd, hw, hr⟩ := h w h0
  refine m_op hF ho hd hw (fun w' hw' => ?_) hk
  obtain ⟨o', ho', _, _, hr'⟩ := h w' hw'
  rw [ho] at ho'
  cases ho'
  exact hr'

theorem comes_eq {d : Nat} {neg : Bool} {t : TypeId} {xs ys : Array Value} {b : Bool} (hl : lookW ops i T = some (some d, .eq neg t (.agg xs) (.agg ys))) (hg : P.eqGuardType P.depth t = false)
    (hb : eqv P 8 t (.agg xs) (.agg ys) = some b) : Comes P ops i T d (.bool (b != neg)) w := by
  unfold lookW at hl
  split at hl
  · cases hl
  · rename_i o ho
    split at hl
    · rename_i hw
      simp only [Option.some.injEq, Prod.mk.injEq] at hl
      refine ⟨o, ho, hl.1, hw, ?_⟩
      have hx := hl.2
      have hr := eqv_run 8 10000 (by omega) _ _ _ _ hb w
      unfold execOp
      split at hx
      all_goals first | (cases hx; done) | skip
      all_goals (rename_i hop; simp only [OpW.eq.injEq] at hx; obtain ⟨rfl, rfl, h1, h2⟩ := hx)
      all_goals simp only [hop, h1, h2, Sem.run_bind, run_eqGuard_agg w _ _ _ _ _ _ hg, Result.andThen_ok, run_eql_struct, run_neq_struct, hr, Sem.run_pure]
      all_goals cases b <;> rfl
    · cases hl

theorem bytes_beq (l m : List UInt8) : ((⟨l.toArray⟩ : ByteArray).toList == (⟨m.toArray⟩ : ByteArray).toList) = decide (l = m) := by
  rw [ByteArray.toList_eq, ByteArray.toList_eq]
  simp only [Bool.beq_eq_decide_eq]

theorem comes_eqStr {d : Nat} {neg : Bool} {t : TypeId} {l m : List UInt8} (hl : lookW ops i T = some (some d, .eq neg t (.string ⟨l.toArray⟩) (.string ⟨m.toArray⟩))) :
    Comes P ops i T d (.bool (decide (l = m) != neg)) w := by
  unfold lookW at hl
  split at hl
  · cases hl
  · rename_i o ho
    split at hl
    · rename_i hw
      simp only [Option.some.injEq, Prod.mk.injEq] at hl
      refine ⟨o, ho, hl.1, hw, ?_⟩
      have hx := hl.2
      unfold execOp
      split at hx
      all_goals first | (cases hx; done) | skip
      all_goals (rename_i hop; simp only [OpW.eq.injEq] at hx; obtain ⟨rfl, rfl, h1, h2⟩ := hx)
      all_goals simp only [hop, h1, h2, Sem.run_bind, eqGuard, binOp, Op.stringOp, bytes_beq]
      all_goals simp
    · cases hl

/-- string(b) -/
theorem comes_str {d s t e n c lo hi : Nat} {A : Option Addr} {l : List UInt8} (hl : lookW ops i T = some (some d, .conv s t (.slice A n c))) (hs : P.underlying s = some (.slice e)) (he : P.underlying e = some (.int .u8)) (hd : P.underlying t = some .string)
    (hr : RdA tyU8 w lo hi A l) (hn : n = l.length) : Comes P ops i T d (.string ⟨l.toArray⟩) w := by
  subst hn
  unfold lookW at hl
  split at hl
  · cases hl
  · rename_i o ho
    split at hl
    · rename_i hw
      simp only [Option.some.injEq, Prod.mk.injEq] at hl
      refine ⟨o, ho, hl.1, hw, ?_⟩
      have hx := hl.2
      unfold execOp
      split at hx
      all_goals first | (cases hx; done) | skip
      rename_i hop
      simp only [OpW.conv.injEq] at hx; obtain ⟨rfl, rfl, h1⟩ := hx
      simp only [hop, h1, Sem.run_bind]
      by_cases h0 : 0 < l.length
      · obtain ⟨b, ob, rfl, _, _, hat⟩ := hr.2 h0
        have := run_convert_bytes_back (P := P) w _ _ e ⟨b, ob, none⟩ c l hs he hd (fun j hj => by
          rw [add_mk]
          refine hat.cell ?_
          have := Ty.cells_at (t := tyU8) l j hj 0 (.int .u8 (l[j].toNat : Int)) rfl
          simpa [tyU8] using this)
        simp [this]
      · have hl0 : l = [] := by cases l with | nil => rfl | cons => simp at h0
        subst hl0
        rw [run_convert_bytes_string w _ _ e A _ c hs he hd]
        cases A <;> (simp [Conv.bytesToString, loadCells]; rfl)
    · cases hl
end

/-! ### rounds -/
def LoopR (P : Program) (c : Code) (Q : Exit → Act → World → Prop) : Nat → Act → World → Prop
  | 0, _, _ => False
  | n + 1, a, w => c.wp P (Exit.then (LoopR P c Q n) Q) a w
theorem c_rounds {P : Program} {c : Code} {Q : Exit → Act → World → Prop} {a : Act} {w : World} (n : Nat) (h : LoopR P c Q n a w) : (Code.loop c).wp P Q a w := by
  refine c_loop (fun n a w => LoopR P c Q n a w) id n h ?_
  intro s a w hI
  cases s with
  | zero => exact hI.elim
  | succ s =>
    refine wp_mono hI ?_
    intro e a' w' hq
    cases e with
    | normal => exact ⟨s, hq, Nat.lt_succ_self s⟩
    | _ => exact hq
theorem c_round {P : Program} {c : Code} {Q : Exit → Act → World → Prop} {a : Act} {w : World} {n : Nat} (h : c.wp P (Exit.then (LoopR P c Q n) Q) a w) : LoopR P c Q (n + 1) a w := h
end Go.Vx
