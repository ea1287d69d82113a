/-
  A statement's arguments, opened: slices of elements of one kind, as RdA reads them. My own text.
-/
import Derived.Test.YtjkapifbinmjhaaVxG
import Derived.WalkKit
import Derived.ProofKit
import Derived.OpenShut
import Derived.ShutString
import Derived.ChangeOld
import Derived.Below
import Derived.SizedLaws
import Derived.Deep.Slices
namespace Go.Vx
open Go.ChangeShapes Go.WideShapes Go.ChangeAt Go.RowKit

theorem mapM_get {α β : Type} {f : α → Option β} : ∀ {l : List α} {cs : List β}, l.mapM f = some cs → cs.length = l.length ∧ ∀ (i : Nat) (x : α), l[i]? = some x → f x = cs[i]? := by
  intro l
  induction l with
  | nil => intro cs h; simp only [List.mapM_nil, Option.pure_def, Option.some.injEq] at h; subst h; simp
  | cons a l ih =>
    intro cs h
    rw [List.mapM_cons] at h
    simp only [Option.bind_eq_bind, Option.bind_eq_some_iff, Option.pure_def, Option.some.injEq] at h
    obtain ⟨b, hb, r, hr, rfl⟩ := h
    obtain ⟨h1, h2⟩ := ih hr
    refine ⟨by simp [h1], ?_⟩
    intro i x hx
    cases i with
    | zero => simp only [List.getElem?_cons_zero, Option.some.injEq] at hx; subst hx; simpa using hb
    | succ i => simpa using h2 i x (by simpa using hx)
theorem cells_get {w : World} {base : Nat} {a : Addr} {n : Nat} {cs : List Value} (h : w.cells? base a n = some cs) : cs.length = n ∧ ∀ j, j < n → w.cell? (a.add j) = cs[j]? := by
  unfold World.cells? at h
  split at h
  · obtain ⟨h1, h2⟩ := mapM_get h
    refine ⟨by simpa using h1, fun j hj => h2 j j (by simp [hj])⟩
  · cases h

section
variable {H : Type} {enc : TypeId × Value → H} {P : Program} {w : World} {base : Nat} {spare : Nat → Bool} {held : Bool} {α : Type} [Inhabited α] {t : Ty α}
/-- A slice whose elements are of the kind t. -/
theorem open_rows {T e len cap : Nat} {A : Option Addr} {d : DataW H} {ps : List MemPlace} (ht : P.underlying T = some (.slice e)) (hc : P.cellsOf e = t.sz)
    (hfrom : ∀ n cs y, DataW.trod enc P w base spare held n e cs = some y → ∃ x, cs = t.enc x) (h : DataW.Trod enc P w base spare held T (.slice A len cap) d ps)
    (hsz : len ≤ 140737488355328) : ∃ l : List α, l.length = len ∧ (A = none → cap = 0) ∧ len ≤ cap ∧ RdA t w 0 w.heap.size A l := by
  obtain ⟨fuel, hf⟩ := h
  rcases Go.Deep.open_slice ht hf with ⟨hcs, _⟩ | ⟨a, len', cap', m, n, D, Pl, hcs, hb, hl, hm, hmm, _, hel⟩
  · simp [Value.cells] at hcs
    obtain ⟨rfl, rfl, rfl⟩ := hcs
    exact ⟨[], rfl, fun _ => rfl, Nat.le_refl _, RdA.nil⟩
  · simp [Value.cells] at hcs
    obtain ⟨rfl, rfl, rfl⟩ := hcs
    have hlm : len ≤ m := by rw [hmm]; split <;> omega
    have hx : ∀ i, i < len → ∃ x : α, w.cells? base (a.add (i * t.sz)) t.sz = some (t.enc x) := by
      intro i hi
      obtain ⟨cs', h1, h2⟩ := hel i (by omega)
      rw [hc] at h1
      obtain ⟨x, rfl⟩ := hfrom _ _ _ h2
      exact ⟨x, h1⟩
    obtain ⟨f, hf⟩ := Go.Deep.choose_lt hx
    refine ⟨(List.range len).map f, by simp, (fun h => by cases h), hl, by simpa using hsz, fun hpos => ?_⟩
    simp only [List.length_map, List.length_range] at hpos
    have hpz := t.pos
    have key : ∀ i, i < len → ∀ j u, (t.enc (f i))[j]? = some u → w.cell? (a.add (i * t.sz + j)) = some u := by
      intro i hi j u hu
      obtain ⟨h1, h2⟩ := cells_get (hf i hi)
      have hj : j < t.sz := by rw [← t.len (f i)]; exact (List.getElem?_eq_some_iff.1 hu).1
      have := h2 j hj
      rw [Go.Deep.add_add] at this
      rw [this, hu]
    obtain ⟨u0, hu0⟩ : ∃ u, (t.enc (f 0))[0]? = some u := by
      have : 0 < (t.enc (f 0)).length := by rw [t.len]; exact hpz
      exact ⟨_, List.getElem?_eq_getElem this⟩
    have h0 := key 0 hpos 0 u0 hu0
    obtain ⟨b, off, spot⟩ := a
    have hspot : spot = none := by simpa [Addr.add] using World.cell?_spot h0
    subst hspot
    have hblk : ∃ C e' fr, w.heap[b]? = some (.cells C e' fr) := by
      unfold World.cell? at h0
      have hbb : (Addr.add ⟨b, off, none⟩ (0 * t.sz + 0)).block = b := by simp [Addr.add]
      rw [hbb] at h0
      split at h0
      · rename_i C e' fr hh; exact ⟨C, e', fr, hh⟩
      · cases h0
    obtain ⟨C, e', fr, hblk⟩ := hblk
    refine ⟨b, off, rfl, Nat.zero_le _, (Array.getElem?_eq_some_iff.1 hblk).1, C, e', fr, hblk, ?_⟩
    intro j u hu
    have hj : j < (t.cells ((List.range len).map f)).length := (List.getElem?_eq_some_iff.1 hu).1
    rw [Ty.cells_len, List.length_map, List.length_range] at hj
    have hi : j / t.sz < len := Nat.div_lt_of_lt_mul (by rw [Nat.mul_comm]; exact hj)
    have hjm : j % t.sz < t.sz := Nat.mod_lt _ hpz
    have hjj : j = j / t.sz * t.sz + j % t.sz := by rw [Nat.mul_comm]; exact (Nat.div_add_mod j t.sz).symm
    have hg : ((List.range len).map f)[j / t.sz]'(by simpa using hi) = f (j / t.sz) := by simp
    have hjl : j % t.sz < (t.enc (f (j / t.sz))).length := by rw [t.len]; exact hjm
    have hat := Ty.cells_at (t := t) ((List.range len).map f) (j / t.sz) (by simpa using hi) (j % t.sz) _ (by rw [hg]; exact List.getElem?_eq_getElem hjl)
    rw [← hjj, hu] at hat
    simp only [Option.some.injEq] at hat
    have hk := key (j / t.sz) hi (j % t.sz) u (by rw [hat]; exact List.getElem?_eq_getElem hjl)
    rw [← hjj, add_mk] at hk
    unfold World.cell? at hk
    simp only [hblk, Option.isSome_none, Bool.false_eq_true, if_false] at hk
    exact hk
/-- How many there may be. -/
theorem sized_rows {T e len cap j : Nat} {A : Option Addr} {d : DataW H} {ps : List MemPlace} {ts : List TypeId} {ds : List (DataW H)} {B : Nat} (hsz : (DataW.weightsEach P ts ds).all (· ≤ reachBytes) = true) (ht : ts[j]? = some T) (hd : ds[j]? = some d) (hu : P.underlying T = some (.slice e))
    (hB : P.bytesOf e = B) (hp : 0 < B) (h : DataW.Trod enc P w base spare held T (.slice A len cap) d ps) : len ≤ 140737488351232 := by
  obtain ⟨fuel, hf⟩ := h
  rcases Go.Deep.open_slice hu hf with ⟨hcs, _⟩ | ⟨a, len', cap', m, n, D, Pl, hcs, hb, hl, hm, hmm, hx, hel⟩
  · simp [Value.cells] at hcs
    obtain ⟨rfl, rfl, rfl⟩ := hcs
    simp
  · simp [Value.cells] at hcs
    obtain ⟨rfl, rfl, rfl⟩ := hcs
    obtain ⟨hx, _⟩ := Prod.mk.inj hx
    subst hx
    have z := sized_slice hsz ht hd hu
    rw [hB] at z
    simp only [List.length_map, List.length_range] at z
    have h1 : len * 1 ≤ (len + (m - len)) * B := Nat.mul_le_mul (by omega) hp
    unfold reachBytes at z
    omega
end
theorem open_u8 {H : Type} {enc : TypeId × Value → H} {P : Program} {w : World} {base : Nat} {spare : Nat → Bool} {held : Bool} {e : Nat} (he : P.underlying e = some (.int .u8)) (n : Nat) (cs : List Value) (y : DataW H × List MemPlace)
    (h : DataW.trod enc P w base spare held n e cs = some y) : ∃ x : UInt8, cs = tyU8.enc x := by
  obtain ⟨z, rfl, _, hw⟩ := DataW.trod_int he h
  have hb := bounds_u8 hw
  refine ⟨u8 z, ?_⟩
  simp only [tyU8]
  rw [u8_val hb.1 hb.2]
end Go.Vx
