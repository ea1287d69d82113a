/-
  Kinds of structs, written by my own program (py/kinds.py).
-/
import Derived.Test.YtjkapifbinmjhaaVxE
namespace Go.Vx
structure Msg where
  kind : Int64
  time : Int64
  cls : Int64
  high : UInt8
  bank : Int64
  place : Int64
  value : UInt8
def tyMsg : Ty Msg where
  sz := 7
  enc x := [.int .i64 x.kind.toInt, .int .i64 x.time.toInt, .int .i64 x.cls.toInt, .int .u8 (x.high.toNat : Int), .int .i64 x.bank.toInt, .int .i64 x.place.toInt, .int .u8 (x.value.toNat : Int)]
  len _ := rfl
  one x u hu := by
    simp only [List.mem_cons, List.not_mem_nil, or_false] at hu
    rcases hu with rfl | rfl | rfl | rfl | rfl | rfl | rfl <;> rfl
  pos := by decide
theorem Msg.eq_iff (x y : Msg) : (x.kind.toInt = y.kind.toInt ∧ x.time.toInt = y.time.toInt ∧ x.cls.toInt = y.cls.toInt ∧ (x.high.toNat : Int) = (y.high.toNat : Int) ∧ x.bank.toInt = y.bank.toInt ∧ x.place.toInt = y.place.toInt ∧ (x.value.toNat : Int) = (y.value.toNat : Int)) ↔ x = y := by
  constructor
  · intro h
    obtain ⟨h0, h1, h2, h3, h4, h5, h6⟩ := h
    replace h0 := Int64.toInt_inj.1 h0
    replace h1 := Int64.toInt_inj.1 h1
    replace h2 := Int64.toInt_inj.1 h2
    replace h3 := UInt8.toNat_inj.1 (Int.ofNat_inj.1 h3)
    replace h4 := Int64.toInt_inj.1 h4
    replace h5 := Int64.toInt_inj.1 h5
    replace h6 := UInt8.toNat_inj.1 (Int.ofNat_inj.1 h6)
    cases x; cases y
    simp_all
  · rintro rfl; simp
instance : DecidableEq Msg := fun x y => decidable_of_iff _ (Msg.eq_iff x y)
def Msg.zero : Msg := ⟨0, 0, 0, 0, 0, 0, 0⟩
instance : Inhabited Msg := ⟨Msg.zero⟩
def Msg.of (a0 : Int) (a1 : Int) (a2 : Int) (a3 : Int) (a4 : Int) (a5 : Int) (a6 : Int) : Msg := ⟨Int64.ofInt a0, Int64.ofInt a1, Int64.ofInt a2, u8 a3, Int64.ofInt a4, Int64.ofInt a5, u8 a6⟩
structure LAct where
  take : Bool
  m : Msg
def tyLAct : Ty LAct where
  sz := 8
  enc x := [.bool x.take, .int .i64 x.m.kind.toInt, .int .i64 x.m.time.toInt, .int .i64 x.m.cls.toInt, .int .u8 (x.m.high.toNat : Int), .int .i64 x.m.bank.toInt, .int .i64 x.m.place.toInt, .int .u8 (x.m.value.toNat : Int)]
  len _ := rfl
  one x u hu := by
    simp only [List.mem_cons, List.not_mem_nil, or_false] at hu
    rcases hu with rfl | rfl | rfl | rfl | rfl | rfl | rfl | rfl <;> rfl
  pos := by decide
theorem LAct.eq_iff (x y : LAct) : (x.take = y.take ∧ x.m.kind.toInt = y.m.kind.toInt ∧ x.m.time.toInt = y.m.time.toInt ∧ x.m.cls.toInt = y.m.cls.toInt ∧ (x.m.high.toNat : Int) = (y.m.high.toNat : Int) ∧ x.m.bank.toInt = y.m.bank.toInt ∧ x.m.place.toInt = y.m.place.toInt ∧ (x.m.value.toNat : Int) = (y.m.value.toNat : Int)) ↔ x = y := by
  constructor
  · intro h
    obtain ⟨h0, h1, h2, h3, h4, h5, h6, h7⟩ := h
    replace h1 := Int64.toInt_inj.1 h1
    replace h2 := Int64.toInt_inj.1 h2
    replace h3 := Int64.toInt_inj.1 h3
    replace h4 := UInt8.toNat_inj.1 (Int.ofNat_inj.1 h4)
    replace h5 := Int64.toInt_inj.1 h5
    replace h6 := Int64.toInt_inj.1 h6
    replace h7 := UInt8.toNat_inj.1 (Int.ofNat_inj.1 h7)
    obtain ⟨x_take, x_m⟩ := x; obtain ⟨y_take, y_m⟩ := y
    cases x_m; cases y_m
    simp_all
  · rintro rfl; simp
instance : DecidableEq LAct := fun x y => decidable_of_iff _ (LAct.eq_iff x y)
def LAct.zero : LAct := ⟨false, ⟨0, 0, 0, 0, 0, 0, 0⟩⟩
instance : Inhabited LAct := ⟨LAct.zero⟩
def LAct.of (a0 : Bool) (a1 : Int) (a2 : Int) (a3 : Int) (a4 : Int) (a5 : Int) (a6 : Int) (a7 : Int) : LAct := ⟨a0, ⟨Int64.ofInt a1, Int64.ofInt a2, Int64.ofInt a3, u8 a4, Int64.ofInt a5, Int64.ofInt a6, u8 a7⟩⟩
end Go.Vx
