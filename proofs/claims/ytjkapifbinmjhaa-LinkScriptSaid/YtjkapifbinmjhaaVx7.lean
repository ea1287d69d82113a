/-
  Bytes, and other kinds of elements. My own text.
-/
import Derived.Test.YtjkapifbinmjhaaVx6
namespace Go.Vx
open Go.RowKit
def tyU8 : Ty UInt8 where
  sz := 1
  enc x := [.int .u8 (x.toNat : Int)]
  len _ := rfl
  one _ u hu := by simp at hu; subst hu; rfl
  pos := by decide
def u8 (e : Int) : UInt8 := UInt8.ofNat e.toNat
theorem u8_val {e : Int} (h0 : 0 ≤ e) (h1 : e ≤ 255) : ((u8 e).toNat : Int) = e := by
  unfold u8
  rw [UInt8.toNat_ofNat']
  omega
end Go.Vx
