/-
  More small words for the written proofs: Bools that are decided, frames cut short. My own text.
-/
import Derived.Test.YtjkapifbinmjhaaVxF
namespace Go.Vx
open Go.RowKit
section
variable {P : Program} {ops : Array Oper} {i : Nat} {T : Array Value} {w : World}
theorem comes_b {d : Nat} {b b' : Bool} (e : b = b') (h : Comes P ops i T d (.bool b) w) : Comes P ops i T d (.bool b') w := e ▸ h
end
section
variable {K : Act → World → Prop} {Q : Exit → Act → World → Prop} {w : World}
theorem cut_fr {X : Array Value} (n : Nat) (L : List (Nat × Value)) (hn : X.size = n) (h : L.map (fun p => X[p.1]?) = L.map (fun p => some p.2)) (k : ∀ Tf, K ⟨puts (mkT n Tf) L, []⟩ w) : Exit.then K Q .normal ⟨X, []⟩ w := by
  obtain ⟨Tf, rfl⟩ := frame_eq n X L hn h
  exact k Tf
end
/-- A part of a function's code. -/
def subC : Code → List Nat → Code
  | c, [] => c
  | .seq a b, i :: p => match i with | 0 => subC a p | _ => subC b p
  | .cond _ a b, i :: p => match i with | 0 => subC a p | _ => subC b p
  | .block _ c, _ :: p => subC c p
  | .loop c, _ :: p => subC c p
  | c, _ => c
def bodyC (f : Func) (p : List Nat) : Code := subC (f.body.getD .skip) p
section
variable {P : Program} {Q : Exit → Act → World → Prop} {w : World}
theorem wp_fr {c : Code} {X : Array Value} (n : Nat) (L : List (Nat × Value)) (hn : X.size = n) (h : L.map (fun p => X[p.1]?) = L.map (fun p => some p.2)) (k : ∀ Tf, c.wp P Q ⟨puts (mkT n Tf) L, []⟩ w) : c.wp P Q ⟨X, []⟩ w := by
  obtain ⟨Tf, rfl⟩ := frame_eq n X L hn h
  exact k Tf
theorem c_blk {c : Code} (c' : Code) {a : Act} (e : c' = c) (h : c'.wp P Q a w) : c.wp P Q a w := e ▸ h
end
end Go.Vx
