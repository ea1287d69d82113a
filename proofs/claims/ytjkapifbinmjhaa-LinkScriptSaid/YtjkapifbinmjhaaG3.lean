import Derived.Test.YtjkapifbinmjhaaG2
namespace Go.Proofs.Ytjkapifbinmjhaa
open Go.Vx Go.RowKit
set_option linter.unusedVariables false
set_option linter.unusedSimpArgs false
set_option maxRecDepth 100000
def fit_none (m : Msg) : Bool :=
 ((m.kind.toInt == m.kind.toInt) && ((m.time.toInt == m.time.toInt) && ((m.cls.toInt == 0) && (((m.high.toNat : Int) == 0) && ((m.bank.toInt == 0) && ((m.place.toInt == 0) && (((m.value.toNat : Int) == 0) && true))))))) != false

theorem fit_none_ok {w : World} {m : Msg} :
  Ret Try.prog 158 #[.agg #[.int .i64 m.kind.toInt, .int .i64 m.time.toInt, .int .i64 m.cls.toInt, .int .u8 (m.high.toNat : Int), .int .i64 m.bank.toInt, .int .i64 m.place.toInt, .int .u8 (m.value.toNat : Int)]] w fun v w' => ∃ d : Bool, fit_none m = d ∧ v = .bool d ∧ Mod (Nil) w w' := by
 have hrm_0 := i64_lo m.kind
 have hrm_1 := i64_lo m.time
 have hrm_2 := i64_lo m.cls
 have hrm_4 := i64_lo m.bank
 have hrm_5 := i64_lo m.place
 have hsm_0 := i64_hi m.kind
 have hsm_1 := i64_hi m.time
 have hsm_2 := i64_hi m.cls
 have hsm_3 := u8_hi m.high
 have hsm_4 := i64_hi m.bank
 have hsm_5 := i64_hi m.place
 have hsm_6 := u8_hi m.value
 have HM : Mod (Nil) w w := Mod.refl _ w
 refine ret_of Try.func158 rfl rfl ?_
 refine wp_seq ?_
 refine c_region (L := [0, 1]) (by kernel_rfl) ?_
 refine st_new (d := 1) (e := 35) (C := [.int .i64 m.kind.toInt, .int .i64 m.time.toInt, .int .i64 m.cls.toInt, .int .u8 (m.high.toNat : Int), .int .i64 m.bank.toInt, .int .i64 m.place.toInt, .int .u8 (m.value.toNat : Int)]) (V := fun r => .pointer (some ⟨r, 0, none⟩)) (by kernel_rfl) ?_
 intro b1 w2 m3 lb1 ub1 hB4
 replace HM := HM.tr0 m3
 have hszw2 := m3.size
 refine st_pure (l := [1]) (rest := []) (L := [(2, .bool false)]) rfl (by kernel_rfl) ?_
 refine st_end ?_
 refine then_n ?_
 refine wp_seq ?_
 refine c_region (L := [0, 1, 2, 3, 4, 5, 6, 7]) (by kernel_rfl) ?_
 refine st_load (d := 3) (t := 35) (cs := _) (v := .agg #[.int .i64 m.kind.toInt, .int .i64 m.time.toInt, .int .i64 m.cls.toInt, .int .u8 (m.high.toNat : Int), .int .i64 m.bank.toInt, .int .i64 m.place.toInt, .int .u8 (m.value.toNat : Int)]) (by kernel_rfl) (hB4.sub 0) (by kernel_rfl) ?_
 refine st_pure (l := [1]) (rest := [2, 3, 4, 5, 6, 7]) (L := [(4, .pointer (some ⟨b1, 0, none⟩))]) rfl (by kernel_rfl) ?_
 refine st_load (d := 5) (t := 3) (cs := _) (v := .int .i64 m.kind.toInt) (by kernel_rfl) (hB4.sub 0) (by kernel_rfl) ?_
 refine st_pure (l := [3]) (rest := [4, 5, 6, 7]) (L := [(6, .pointer (some ⟨b1, 1, none⟩))]) rfl (by kernel_rfl) ?_
 refine st_load (d := 7) (t := 2) (cs := _) (v := .int .i64 m.time.toInt) (by kernel_rfl) (hB4.sub 1) (by kernel_rfl) ?_
 refine st_pure (l := [5]) (rest := [6, 7]) (L := [(8, .agg #[.int .i64 m.kind.toInt, .int .i64 m.time.toInt, .int .i64 0, .int .u8 0, .int .i64 0, .int .i64 0, .int .u8 0])]) rfl (by kernel_rfl) ?_
 refine st_comes (d := 9) (v := .bool (((m.kind.toInt == m.kind.toInt) && ((m.time.toInt == m.time.toInt) && ((m.cls.toInt == 0) && (((m.high.toNat : Int) == 0) && ((m.bank.toInt == 0) && ((m.place.toInt == 0) && (((m.value.toNat : Int) == 0) && true))))))) != false)) (comes_eq (t := 35) (neg := false) (xs := #[.int .i64 m.kind.toInt, .int .i64 m.time.toInt, .int .i64 m.cls.toInt, .int .u8 (m.high.toNat : Int), .int .i64 m.bank.toInt, .int .i64 m.place.toInt, .int .u8 (m.value.toNat : Int)]) (ys := #[.int .i64 m.kind.toInt, .int .i64 m.time.toInt, .int .i64 0, .int .u8 0, .int .i64 0, .int .i64 0, .int .u8 0]) (b := ((m.kind.toInt == m.kind.toInt) && ((m.time.toInt == m.time.toInt) && ((m.cls.toInt == 0) && (((m.high.toNat : Int) == 0) && ((m.bank.toInt == 0) && ((m.place.toInt == 0) && (((m.value.toNat : Int) == 0) && true)))))))) (by kernel_rfl) (by kernel_rfl) (by kernel_rfl)) ?_
 refine st_pure (l := [7]) (rest := []) (L := [(2, .bool (((m.kind.toInt == m.kind.toInt) && ((m.time.toInt == m.time.toInt) && ((m.cls.toInt == 0) && (((m.high.toNat : Int) == 0) && ((m.bank.toInt == 0) && ((m.place.toInt == 0) && (((m.value.toNat : Int) == 0) && true))))))) != false))]) rfl (by kernel_rfl) ?_
 refine st_end ?_
 refine then_n ?_
 refine wp_ret ?_
 refine post_ret (v := .bool (((m.kind.toInt == m.kind.toInt) && ((m.time.toInt == m.time.toInt) && ((m.cls.toInt == 0) && (((m.high.toNat : Int) == 0) && ((m.bank.toInt == 0) && ((m.place.toInt == 0) && (((m.value.toNat : Int) == 0) && true))))))) != false)) (by kernel_rfl) ?_
 refine ⟨((m.kind.toInt == m.kind.toInt) && ((m.time.toInt == m.time.toInt) && ((m.cls.toInt == 0) && (((m.high.toNat : Int) == 0) && ((m.bank.toInt == 0) && ((m.place.toInt == 0) && (((m.value.toNat : Int) == 0) && true))))))) != false, ?_, rfl, HM⟩
 ·rfl

def fit_out (m : Msg) : Bool :=
 if m.cls.toInt ≥ 1 then
  if m.cls.toInt ≤ 7 then
   ((m.kind.toInt == m.kind.toInt) && ((m.time.toInt == m.time.toInt) && ((m.cls.toInt == m.cls.toInt) && (((m.high.toNat : Int) == 0) && ((m.bank.toInt == 0) && ((m.place.toInt == 0) && (((m.value.toNat : Int) == (m.value.toNat : Int)) && true))))))) != false
  else
   false
 else
  false

theorem fit_out_ok {w : World} {m : Msg} :
  Ret Try.prog 159 #[.agg #[.int .i64 m.kind.toInt, .int .i64 m.time.toInt, .int .i64 m.cls.toInt, .int .u8 (m.high.toNat : Int), .int .i64 m.bank.toInt, .int .i64 m.place.toInt, .int .u8 (m.value.toNat : Int)]] w fun v w' => ∃ d : Bool, fit_out m = d ∧ v = .bool d ∧ Mod (Nil) w w' := by
 have hrm_0 := i64_lo m.kind
 have hrm_1 := i64_lo m.time
 have hrm_2 := i64_lo m.cls
 have hrm_4 := i64_lo m.bank
 have hrm_5 := i64_lo m.place
 have hsm_0 := i64_hi m.kind
 have hsm_1 := i64_hi m.time
 have hsm_2 := i64_hi m.cls
 have hsm_3 := u8_hi m.high
 have hsm_4 := i64_hi m.bank
 have hsm_5 := i64_hi m.place
 have hsm_6 := u8_hi m.value
 have HM : Mod (Nil) w w := Mod.refl _ w
 refine ret_of Try.func159 rfl rfl ?_
 refine wp_seq ?_
 refine c_region (L := [0, 1]) (by kernel_rfl) ?_
 refine st_new (d := 1) (e := 35) (C := [.int .i64 m.kind.toInt, .int .i64 m.time.toInt, .int .i64 m.cls.toInt, .int .u8 (m.high.toNat : Int), .int .i64 m.bank.toInt, .int .i64 m.place.toInt, .int .u8 (m.value.toNat : Int)]) (V := fun r => .pointer (some ⟨r, 0, none⟩)) (by kernel_rfl) ?_
 intro b1 w2 m3 lb1 ub1 hB4
 replace HM := HM.tr0 m3
 have hszw2 := m3.size
 refine st_pure (l := [1]) (rest := []) (L := [(2, .bool false)]) rfl (by kernel_rfl) ?_
 refine st_end ?_
 refine then_n ?_
 refine wp_seq ?_
 refine c_region (L := [0, 1, 2, 3, 4, 5, 6, 7, 8, 9, 10, 11, 12, 13, 14, 15, 16, 17, 18, 19, 20, 21]) (by kernel_rfl) ?_
 refine st_pure (l := [0]) (rest := [1, 2, 3, 4, 5, 6, 7, 8, 9, 10, 11, 12, 13, 14, 15, 16, 17, 18, 19, 20, 21]) (L := [(3, .pointer (some ⟨b1, 2, none⟩))]) rfl (by kernel_rfl) ?_
 refine st_load (d := 4) (t := 3) (cs := _) (v := .int .i64 m.cls.toInt) (by kernel_rfl) (hB4.sub 2) (by kernel_rfl) ?_
 by_cases h5 : m.cls.toInt ≥ 1
 ·skip
  have hb6 : (decide (m.cls.toInt ≥ 1)) = true := decide_eq_true h5
  refine st_pure (l := [2, 3]) (rest := [4, 5, 6, 7, 8, 9, 10, 11, 12, 13, 14, 15, 16, 17, 18, 19, 20, 21]) (L := [(5, .bool (decide (m.cls.toInt ≥ 1))), (6, .bool true)]) rfl (Eq.trans (b := some [(5, .bool (decide (m.cls.toInt ≥ 1))), (6, .bool (decide (m.cls.toInt ≥ 1)))]) (by kernel_rfl) (by simp only [hb6])) ?_
  refine st_pure (l := [4]) (rest := [5, 6, 7, 8, 9, 10, 11, 12, 13, 14, 15, 16, 17, 18, 19, 20, 21]) (L := [(7, .pointer (some ⟨b1, 2, none⟩))]) rfl (by kernel_rfl) ?_
  refine st_load (d := 8) (t := 3) (cs := _) (v := .int .i64 m.cls.toInt) (by kernel_rfl) (hB4.sub 2) (by kernel_rfl) ?_
  by_cases h7 : m.cls.toInt ≤ 7
  ·skip
   have hb8 : (decide (m.cls.toInt ≤ 7)) = true := decide_eq_true h7
   refine st_pure (l := [6, 7, 8]) (rest := [9, 10, 11, 12, 13, 14, 15, 16, 17, 18, 19, 20, 21]) (L := [(9, .bool (decide (m.cls.toInt ≤ 7))), (10, .bool (decide (m.cls.toInt ≤ 7))), (11, .bool true)]) rfl (Eq.trans (b := some [(9, .bool (decide (m.cls.toInt ≤ 7))), (10, .bool (decide (m.cls.toInt ≤ 7))), (11, .bool (decide (m.cls.toInt ≤ 7)))]) (by kernel_rfl) (by simp only [hb8])) ?_
   refine st_load (d := 12) (t := 35) (cs := _) (v := .agg #[.int .i64 m.kind.toInt, .int .i64 m.time.toInt, .int .i64 m.cls.toInt, .int .u8 (m.high.toNat : Int), .int .i64 m.bank.toInt, .int .i64 m.place.toInt, .int .u8 (m.value.toNat : Int)]) (by kernel_rfl) (hB4.sub 0) (by kernel_rfl) ?_
   refine st_pure (l := [10]) (rest := [11, 12, 13, 14, 15, 16, 17, 18, 19, 20, 21]) (L := [(13, .pointer (some ⟨b1, 0, none⟩))]) rfl (by kernel_rfl) ?_
   refine st_load (d := 14) (t := 3) (cs := _) (v := .int .i64 m.kind.toInt) (by kernel_rfl) (hB4.sub 0) (by kernel_rfl) ?_
   refine st_pure (l := [12]) (rest := [13, 14, 15, 16, 17, 18, 19, 20, 21]) (L := [(15, .pointer (some ⟨b1, 1, none⟩))]) rfl (by kernel_rfl) ?_
   refine st_load (d := 16) (t := 2) (cs := _) (v := .int .i64 m.time.toInt) (by kernel_rfl) (hB4.sub 1) (by kernel_rfl) ?_
   refine st_pure (l := [14]) (rest := [15, 16, 17, 18, 19, 20, 21]) (L := [(17, .pointer (some ⟨b1, 2, none⟩))]) rfl (by kernel_rfl) ?_
   refine st_load (d := 18) (t := 3) (cs := _) (v := .int .i64 m.cls.toInt) (by kernel_rfl) (hB4.sub 2) (by kernel_rfl) ?_
   refine st_pure (l := [16]) (rest := [17, 18, 19, 20, 21]) (L := [(19, .pointer (some ⟨b1, 6, none⟩))]) rfl (by kernel_rfl) ?_
   refine st_load (d := 20) (t := 5) (cs := _) (v := .int .u8 (m.value.toNat : Int)) (by kernel_rfl) (hB4.sub 6) (by kernel_rfl) ?_
   refine st_pure (l := [18]) (rest := [19, 20, 21]) (L := [(21, .agg #[.int .i64 m.kind.toInt, .int .i64 m.time.toInt, .int .i64 m.cls.toInt, .int .u8 0, .int .i64 0, .int .i64 0, .int .u8 (m.value.toNat : Int)])]) rfl (by kernel_rfl) ?_
   refine st_comes (d := 22) (v := .bool (((m.kind.toInt == m.kind.toInt) && ((m.time.toInt == m.time.toInt) && ((m.cls.toInt == m.cls.toInt) && (((m.high.toNat : Int) == 0) && ((m.bank.toInt == 0) && ((m.place.toInt == 0) && (((m.value.toNat : Int) == (m.value.toNat : Int)) && true))))))) != false)) (comes_eq (t := 35) (neg := false) (xs := #[.int .i64 m.kind.toInt, .int .i64 m.time.toInt, .int .i64 m.cls.toInt, .int .u8 (m.high.toNat : Int), .int .i64 m.bank.toInt, .int .i64 m.place.toInt, .int .u8 (m.value.toNat : Int)]) (ys := #[.int .i64 m.kind.toInt, .int .i64 m.time.toInt, .int .i64 m.cls.toInt, .int .u8 0, .int .i64 0, .int .i64 0, .int .u8 (m.value.toNat : Int)]) (b := ((m.kind.toInt == m.kind.toInt) && ((m.time.toInt == m.time.toInt) && ((m.cls.toInt == m.cls.toInt) && (((m.high.toNat : Int) == 0) && ((m.bank.toInt == 0) && ((m.place.toInt == 0) && (((m.value.toNat : Int) == (m.value.toNat : Int)) && true)))))))) (by kernel_rfl) (by kernel_rfl) (by kernel_rfl)) ?_
   refine st_pure (l := [20, 21]) (rest := []) (L := [(23, .bool (((m.kind.toInt == m.kind.toInt) && ((m.time.toInt == m.time.toInt) && ((m.cls.toInt == m.cls.toInt) && (((m.high.toNat : Int) == 0) && ((m.bank.toInt == 0) && ((m.place.toInt == 0) && (((m.value.toNat : Int) == (m.value.toNat : Int)) && true))))))) != false)), (2, .bool (((m.kind.toInt == m.kind.toInt) && ((m.time.toInt == m.time.toInt) && ((m.cls.toInt == m.cls.toInt) && (((m.high.toNat : Int) == 0) && ((m.bank.toInt == 0) && ((m.place.toInt == 0) && (((m.value.toNat : Int) == (m.value.toNat : Int)) && true))))))) != false))]) rfl (by kernel_rfl) ?_
   refine st_end ?_
   refine then_n ?_
   refine wp_ret ?_
   refine post_ret (v := .bool (((m.kind.toInt == m.kind.toInt) && ((m.time.toInt == m.time.toInt) && ((m.cls.toInt == m.cls.toInt) && (((m.high.toNat : Int) == 0) && ((m.bank.toInt == 0) && ((m.place.toInt == 0) && (((m.value.toNat : Int) == (m.value.toNat : Int)) && true))))))) != false)) (by kernel_rfl) ?_
   refine ⟨((m.kind.toInt == m.kind.toInt) && ((m.time.toInt == m.time.toInt) && ((m.cls.toInt == m.cls.toInt) && (((m.high.toNat : Int) == 0) && ((m.bank.toInt == 0) && ((m.place.toInt == 0) && (((m.value.toNat : Int) == (m.value.toNat : Int)) && true))))))) != false, ?_, rfl, HM⟩
   ·rw [fit_out, if_pos h5, if_pos h7]
    all_goals (try rfl)
  ·skip
   have hb9 : (decide (m.cls.toInt ≤ 7)) = false := decide_eq_false h7
   refine st_pure (l := [6, 7, 8]) (rest := [9, 10, 11, 12, 13, 14, 15, 16, 17, 18, 19, 20, 21]) (L := [(9, .bool (decide (m.cls.toInt ≤ 7))), (10, .bool (decide (m.cls.toInt ≤ 7))), (11, .bool false)]) rfl (Eq.trans (b := some [(9, .bool (decide (m.cls.toInt ≤ 7))), (10, .bool (decide (m.cls.toInt ≤ 7))), (11, .bool (decide (m.cls.toInt ≤ 7)))]) (by kernel_rfl) (by simp only [hb9])) ?_
   refine st_pure (l := [9, 10, 11, 12, 13, 14, 15, 16, 17, 18, 19, 20, 21]) (rest := []) (L := [(12, undef), (13, undef), (14, undef), (15, undef), (16, undef), (17, undef), (18, undef), (19, undef), (20, undef), (21, undef), (22, undef), (23, .bool false), (2, .bool false)]) rfl (by kernel_rfl) ?_
   refine st_end ?_
   refine then_n ?_
   refine wp_ret ?_
   refine post_ret (v := .bool false) (by kernel_rfl) ?_
   refine ⟨false, ?_, rfl, HM⟩
   ·rw [fit_out, if_pos h5, if_neg h7]
    all_goals (try rfl)
 ·skip
  have hb10 : (decide (m.cls.toInt ≥ 1)) = false := decide_eq_false h5
  refine st_pure (l := [2, 3]) (rest := [4, 5, 6, 7, 8, 9, 10, 11, 12, 13, 14, 15, 16, 17, 18, 19, 20, 21]) (L := [(5, .bool (decide (m.cls.toInt ≥ 1))), (6, .bool false)]) rfl (Eq.trans (b := some [(5, .bool (decide (m.cls.toInt ≥ 1))), (6, .bool (decide (m.cls.toInt ≥ 1)))]) (by kernel_rfl) (by simp only [hb10])) ?_
  refine st_pure (l := [4, 5, 6, 7, 8, 9, 10, 11, 12, 13, 14, 15, 16, 17, 18, 19, 20, 21]) (rest := []) (L := [(7, undef), (8, undef), (9, undef), (10, .bool false), (11, .bool false), (12, undef), (13, undef), (14, undef), (15, undef), (16, undef), (17, undef), (18, undef), (19, undef), (20, undef), (21, undef), (22, undef), (23, .bool false), (2, .bool false)]) rfl (by kernel_rfl) ?_
  refine st_end ?_
  refine then_n ?_
  refine wp_ret ?_
  refine post_ret (v := .bool false) (by kernel_rfl) ?_
  refine ⟨false, ?_, rfl, HM⟩
  ·rw [fit_out, if_neg h5]
   all_goals (try rfl)

def fit_in (m : Msg) : Bool :=
 if m.cls.toInt ≥ 1 then
  if m.cls.toInt ≤ 8 then
   ((m.kind.toInt == m.kind.toInt) && ((m.time.toInt == m.time.toInt) && ((m.cls.toInt == m.cls.toInt) && (((m.high.toNat : Int) == (m.high.toNat : Int)) && ((m.bank.toInt == 0) && ((m.place.toInt == 0) && (((m.value.toNat : Int) == 0) && true))))))) != false
  else
   false
 else
  false

theorem fit_in_ok {w : World} {m : Msg} :
  Ret Try.prog 160 #[.agg #[.int .i64 m.kind.toInt, .int .i64 m.time.toInt, .int .i64 m.cls.toInt, .int .u8 (m.high.toNat : Int), .int .i64 m.bank.toInt, .int .i64 m.place.toInt, .int .u8 (m.value.toNat : Int)]] w fun v w' => ∃ d : Bool, fit_in m = d ∧ v = .bool d ∧ Mod (Nil) w w' := by
 have hrm_0 := i64_lo m.kind
 have hrm_1 := i64_lo m.time
 have hrm_2 := i64_lo m.cls
 have hrm_4 := i64_lo m.bank
 have hrm_5 := i64_lo m.place
 have hsm_0 := i64_hi m.kind
 have hsm_1 := i64_hi m.time
 have hsm_2 := i64_hi m.cls
 have hsm_3 := u8_hi m.high
 have hsm_4 := i64_hi m.bank
 have hsm_5 := i64_hi m.place
 have hsm_6 := u8_hi m.value
 have HM : Mod (Nil) w w := Mod.refl _ w
 refine ret_of Try.func160 rfl rfl ?_
 refine wp_seq ?_
 refine c_region (L := [0, 1]) (by kernel_rfl) ?_
 refine st_new (d := 1) (e := 35) (C := [.int .i64 m.kind.toInt, .int .i64 m.time.toInt, .int .i64 m.cls.toInt, .int .u8 (m.high.toNat : Int), .int .i64 m.bank.toInt, .int .i64 m.place.toInt, .int .u8 (m.value.toNat : Int)]) (V := fun r => .pointer (some ⟨r, 0, none⟩)) (by kernel_rfl) ?_
 intro b1 w2 m3 lb1 ub1 hB4
 replace HM := HM.tr0 m3
 have hszw2 := m3.size
 refine st_pure (l := [1]) (rest := []) (L := [(2, .bool false)]) rfl (by kernel_rfl) ?_
 refine st_end ?_
 refine then_n ?_
 refine wp_seq ?_
 refine c_region (L := [0, 1, 2, 3, 4, 5, 6, 7, 8, 9, 10, 11, 12, 13, 14, 15, 16, 17, 18, 19, 20, 21]) (by kernel_rfl) ?_
 refine st_pure (l := [0]) (rest := [1, 2, 3, 4, 5, 6, 7, 8, 9, 10, 11, 12, 13, 14, 15, 16, 17, 18, 19, 20, 21]) (L := [(3, .pointer (some ⟨b1, 2, none⟩))]) rfl (by kernel_rfl) ?_
 refine st_load (d := 4) (t := 3) (cs := _) (v := .int .i64 m.cls.toInt) (by kernel_rfl) (hB4.sub 2) (by kernel_rfl) ?_
 by_cases h5 : m.cls.toInt ≥ 1
 ·skip
  have hb6 : (decide (m.cls.toInt ≥ 1)) = true := decide_eq_true h5
  refine st_pure (l := [2, 3]) (rest := [4, 5, 6, 7, 8, 9, 10, 11, 12, 13, 14, 15, 16, 17, 18, 19, 20, 21]) (L := [(5, .bool (decide (m.cls.toInt ≥ 1))), (6, .bool true)]) rfl (Eq.trans (b := some [(5, .bool (decide (m.cls.toInt ≥ 1))), (6, .bool (decide (m.cls.toInt ≥ 1)))]) (by kernel_rfl) (by simp only [hb6])) ?_
  refine st_pure (l := [4]) (rest := [5, 6, 7, 8, 9, 10, 11, 12, 13, 14, 15, 16, 17, 18, 19, 20, 21]) (L := [(7, .pointer (some ⟨b1, 2, none⟩))]) rfl (by kernel_rfl) ?_
  refine st_load (d := 8) (t := 3) (cs := _) (v := .int .i64 m.cls.toInt) (by kernel_rfl) (hB4.sub 2) (by kernel_rfl) ?_
  by_cases h7 : m.cls.toInt ≤ 8
  ·skip
   have hb8 : (decide (m.cls.toInt ≤ 8)) = true := decide_eq_true h7
   refine st_pure (l := [6, 7, 8]) (rest := [9, 10, 11, 12, 13, 14, 15, 16, 17, 18, 19, 20, 21]) (L := [(9, .bool (decide (m.cls.toInt ≤ 8))), (10, .bool (decide (m.cls.toInt ≤ 8))), (11, .bool true)]) rfl (Eq.trans (b := some [(9, .bool (decide (m.cls.toInt ≤ 8))), (10, .bool (decide (m.cls.toInt ≤ 8))), (11, .bool (decide (m.cls.toInt ≤ 8)))]) (by kernel_rfl) (by simp only [hb8])) ?_
   refine st_load (d := 12) (t := 35) (cs := _) (v := .agg #[.int .i64 m.kind.toInt, .int .i64 m.time.toInt, .int .i64 m.cls.toInt, .int .u8 (m.high.toNat : Int), .int .i64 m.bank.toInt, .int .i64 m.place.toInt, .int .u8 (m.value.toNat : Int)]) (by kernel_rfl) (hB4.sub 0) (by kernel_rfl) ?_
   refine st_pure (l := [10]) (rest := [11, 12, 13, 14, 15, 16, 17, 18, 19, 20, 21]) (L := [(13, .pointer (some ⟨b1, 0, none⟩))]) rfl (by kernel_rfl) ?_
   refine st_load (d := 14) (t := 3) (cs := _) (v := .int .i64 m.kind.toInt) (by kernel_rfl) (hB4.sub 0) (by kernel_rfl) ?_
   refine st_pure (l := [12]) (rest := [13, 14, 15, 16, 17, 18, 19, 20, 21]) (L := [(15, .pointer (some ⟨b1, 1, none⟩))]) rfl (by kernel_rfl) ?_
   refine st_load (d := 16) (t := 2) (cs := _) (v := .int .i64 m.time.toInt) (by kernel_rfl) (hB4.sub 1) (by kernel_rfl) ?_
   refine st_pure (l := [14]) (rest := [15, 16, 17, 18, 19, 20, 21]) (L := [(17, .pointer (some ⟨b1, 2, none⟩))]) rfl (by kernel_rfl) ?_
   refine st_load (d := 18) (t := 3) (cs := _) (v := .int .i64 m.cls.toInt) (by kernel_rfl) (hB4.sub 2) (by kernel_rfl) ?_
   refine st_pure (l := [16]) (rest := [17, 18, 19, 20, 21]) (L := [(19, .pointer (some ⟨b1, 3, none⟩))]) rfl (by kernel_rfl) ?_
   refine st_load (d := 20) (t := 5) (cs := _) (v := .int .u8 (m.high.toNat : Int)) (by kernel_rfl) (hB4.sub 3) (by kernel_rfl) ?_
   refine st_pure (l := [18]) (rest := [19, 20, 21]) (L := [(21, .agg #[.int .i64 m.kind.toInt, .int .i64 m.time.toInt, .int .i64 m.cls.toInt, .int .u8 (m.high.toNat : Int), .int .i64 0, .int .i64 0, .int .u8 0])]) rfl (by kernel_rfl) ?_
   refine st_comes (d := 22) (v := .bool (((m.kind.toInt == m.kind.toInt) && ((m.time.toInt == m.time.toInt) && ((m.cls.toInt == m.cls.toInt) && (((m.high.toNat : Int) == (m.high.toNat : Int)) && ((m.bank.toInt == 0) && ((m.place.toInt == 0) && (((m.value.toNat : Int) == 0) && true))))))) != false)) (comes_eq (t := 35) (neg := false) (xs := #[.int .i64 m.kind.toInt, .int .i64 m.time.toInt, .int .i64 m.cls.toInt, .int .u8 (m.high.toNat : Int), .int .i64 m.bank.toInt, .int .i64 m.place.toInt, .int .u8 (m.value.toNat : Int)]) (ys := #[.int .i64 m.kind.toInt, .int .i64 m.time.toInt, .int .i64 m.cls.toInt, .int .u8 (m.high.toNat : Int), .int .i64 0, .int .i64 0, .int .u8 0]) (b := ((m.kind.toInt == m.kind.toInt) && ((m.time.toInt == m.time.toInt) && ((m.cls.toInt == m.cls.toInt) && (((m.high.toNat : Int) == (m.high.toNat : Int)) && ((m.bank.toInt == 0) && ((m.place.toInt == 0) && (((m.value.toNat : Int) == 0) && true)))))))) (by kernel_rfl) (by kernel_rfl) (by kernel_rfl)) ?_
   refine st_pure (l := [20, 21]) (rest := []) (L := [(23, .bool (((m.kind.toInt == m.kind.toInt) && ((m.time.toInt == m.time.toInt) && ((m.cls.toInt == m.cls.toInt) && (((m.high.toNat : Int) == (m.high.toNat : Int)) && ((m.bank.toInt == 0) && ((m.place.toInt == 0) && (((m.value.toNat : Int) == 0) && true))))))) != false)), (2, .bool (((m.kind.toInt == m.kind.toInt) && ((m.time.toInt == m.time.toInt) && ((m.cls.toInt == m.cls.toInt) && (((m.high.toNat : Int) == (m.high.toNat : Int)) && ((m.bank.toInt == 0) && ((m.place.toInt == 0) && (((m.value.toNat : Int) == 0) && true))))))) != false))]) rfl (by kernel_rfl) ?_
   refine st_end ?_
   refine then_n ?_
   refine wp_ret ?_
   refine post_ret (v := .bool (((m.kind.toInt == m.kind.toInt) && ((m.time.toInt == m.time.toInt) && ((m.cls.toInt == m.cls.toInt) && (((m.high.toNat : Int) == (m.high.toNat : Int)) && ((m.bank.toInt == 0) && ((m.place.toInt == 0) && (((m.value.toNat : Int) == 0) && true))))))) != false)) (by kernel_rfl) ?_
   refine ⟨((m.kind.toInt == m.kind.toInt) && ((m.time.toInt == m.time.toInt) && ((m.cls.toInt == m.cls.toInt) && (((m.high.toNat : Int) == (m.high.toNat : Int)) && ((m.bank.toInt == 0) && ((m.place.toInt == 0) && (((m.value.toNat : Int) == 0) && true))))))) != false, ?_, rfl, HM⟩
   ·rw [fit_in, if_pos h5, if_pos h7]
    all_goals (try rfl)
  ·skip
   have hb9 : (decide (m.cls.toInt ≤ 8)) = false := decide_eq_false h7
   refine st_pure (l := [6, 7, 8]) (rest := [9, 10, 11, 12, 13, 14, 15, 16, 17, 18, 19, 20, 21]) (L := [(9, .bool (decide (m.cls.toInt ≤ 8))), (10, .bool (decide (m.cls.toInt ≤ 8))), (11, .bool false)]) rfl (Eq.trans (b := some [(9, .bool (decide (m.cls.toInt ≤ 8))), (10, .bool (decide (m.cls.toInt ≤ 8))), (11, .bool (decide (m.cls.toInt ≤ 8)))]) (by kernel_rfl) (by simp only [hb9])) ?_
   refine st_pure (l := [9, 10, 11, 12, 13, 14, 15, 16, 17, 18, 19, 20, 21]) (rest := []) (L := [(12, undef), (13, undef), (14, undef), (15, undef), (16, undef), (17, undef), (18, undef), (19, undef), (20, undef), (21, undef), (22, undef), (23, .bool false), (2, .bool false)]) rfl (by kernel_rfl) ?_
   refine st_end ?_
   refine then_n ?_
   refine wp_ret ?_
   refine post_ret (v := .bool false) (by kernel_rfl) ?_
   refine ⟨false, ?_, rfl, HM⟩
   ·rw [fit_in, if_pos h5, if_neg h7]
    all_goals (try rfl)
 ·skip
  have hb10 : (decide (m.cls.toInt ≥ 1)) = false := decide_eq_false h5
  refine st_pure (l := [2, 3]) (rest := [4, 5, 6, 7, 8, 9, 10, 11, 12, 13, 14, 15, 16, 17, 18, 19, 20, 21]) (L := [(5, .bool (decide (m.cls.toInt ≥ 1))), (6, .bool false)]) rfl (Eq.trans (b := some [(5, .bool (decide (m.cls.toInt ≥ 1))), (6, .bool (decide (m.cls.toInt ≥ 1)))]) (by kernel_rfl) (by simp only [hb10])) ?_
  refine st_pure (l := [4, 5, 6, 7, 8, 9, 10, 11, 12, 13, 14, 15, 16, 17, 18, 19, 20, 21]) (rest := []) (L := [(7, undef), (8, undef), (9, undef), (10, .bool false), (11, .bool false), (12, undef), (13, undef), (14, undef), (15, undef), (16, undef), (17, undef), (18, undef), (19, undef), (20, undef), (21, undef), (22, undef), (23, .bool false), (2, .bool false)]) rfl (by kernel_rfl) ?_
  refine st_end ?_
  refine then_n ?_
  refine wp_ret ?_
  refine post_ret (v := .bool false) (by kernel_rfl) ?_
  refine ⟨false, ?_, rfl, HM⟩
  ·rw [fit_in, if_neg h5]
   all_goals (try rfl)

def fit_screen (m : Msg) : Bool :=
 if m.bank.toInt = 5 then
  if m.place.toInt ≥ 0 then
   if m.place.toInt < 16384 then
    ((m.kind.toInt == m.kind.toInt) && ((m.time.toInt == m.time.toInt) && ((m.cls.toInt == 0) && (((m.high.toNat : Int) == 0) && ((m.bank.toInt == m.bank.toInt) && ((m.place.toInt == m.place.toInt) && (((m.value.toNat : Int) == (m.value.toNat : Int)) && true))))))) != false
   else
    false
  else
   false
 else
  if m.bank.toInt = 7 then
   if m.place.toInt ≥ 0 then
    if m.place.toInt < 16384 then
     ((m.kind.toInt == m.kind.toInt) && ((m.time.toInt == m.time.toInt) && ((m.cls.toInt == 0) && (((m.high.toNat : Int) == 0) && ((m.bank.toInt == m.bank.toInt) && ((m.place.toInt == m.place.toInt) && (((m.value.toNat : Int) == (m.value.toNat : Int)) && true))))))) != false
    else
     false
   else
    false
  else
   false

theorem fit_screen_ok {w : World} {m : Msg} :
  Ret Try.prog 161 #[.agg #[.int .i64 m.kind.toInt, .int .i64 m.time.toInt, .int .i64 m.cls.toInt, .int .u8 (m.high.toNat : Int), .int .i64 m.bank.toInt, .int .i64 m.place.toInt, .int .u8 (m.value.toNat : Int)]] w fun v w' => ∃ d : Bool, fit_screen m = d ∧ v = .bool d ∧ Mod (Nil) w w' := by
 have hrm_0 := i64_lo m.kind
 have hrm_1 := i64_lo m.time
 have hrm_2 := i64_lo m.cls
 have hrm_4 := i64_lo m.bank
 have hrm_5 := i64_lo m.place
 have hsm_0 := i64_hi m.kind
 have hsm_1 := i64_hi m.time
 have hsm_2 := i64_hi m.cls
 have hsm_3 := u8_hi m.high
 have hsm_4 := i64_hi m.bank
 have hsm_5 := i64_hi m.place
 have hsm_6 := u8_hi m.value
 have HM : Mod (Nil) w w := Mod.refl _ w
 refine ret_of Try.func161 rfl rfl ?_
 refine wp_seq ?_
 refine c_region (L := [0, 1]) (by kernel_rfl) ?_
 refine st_new (d := 1) (e := 35) (C := [.int .i64 m.kind.toInt, .int .i64 m.time.toInt, .int .i64 m.cls.toInt, .int .u8 (m.high.toNat : Int), .int .i64 m.bank.toInt, .int .i64 m.place.toInt, .int .u8 (m.value.toNat : Int)]) (V := fun r => .pointer (some ⟨r, 0, none⟩)) (by kernel_rfl) ?_
 intro b1 w2 m3 lb1 ub1 hB4
 replace HM := HM.tr0 m3
 have hszw2 := m3.size
 refine st_pure (l := [1]) (rest := []) (L := [(2, .bool false)]) rfl (by kernel_rfl) ?_
 refine st_end ?_
 refine then_n ?_
 refine wp_seq ?_
 refine c_region (L := [0, 1, 2, 3, 4, 5, 6, 7, 8, 9, 10, 11, 12, 13, 14, 15, 16, 17, 18, 19, 20, 21, 22, 23, 24, 25, 26, 27, 28, 29, 30, 31, 32, 33]) (by kernel_rfl) ?_
 refine st_pure (l := [0]) (rest := [1, 2, 3, 4, 5, 6, 7, 8, 9, 10, 11, 12, 13, 14, 15, 16, 17, 18, 19, 20, 21, 22, 23, 24, 25, 26, 27, 28, 29, 30, 31, 32, 33]) (L := [(3, .pointer (some ⟨b1, 4, none⟩))]) rfl (by kernel_rfl) ?_
 refine st_load (d := 4) (t := 3) (cs := _) (v := .int .i64 m.bank.toInt) (by kernel_rfl) (hB4.sub 4) (by kernel_rfl) ?_
 by_cases h5 : m.bank.toInt = 5
 ·skip
  have hb6 : (m.bank.toInt == 5) = true := beq_iff_eq.2 h5
  refine st_pure (l := [2, 3]) (rest := [4, 5, 6, 7, 8, 9, 10, 11, 12, 13, 14, 15, 16, 17, 18, 19, 20, 21, 22, 23, 24, 25, 26, 27, 28, 29, 30, 31, 32, 33]) (L := [(5, .bool (m.bank.toInt == 5)), (6, .bool true)]) rfl (Eq.trans (b := some [(5, .bool (m.bank.toInt == 5)), (6, .bool (m.bank.toInt == 5))]) (by kernel_rfl) (by simp only [hb6])) ?_
  refine st_pure (l := [4, 5, 6, 7, 8, 9]) (rest := [10, 11, 12, 13, 14, 15, 16, 17, 18, 19, 20, 21, 22, 23, 24, 25, 26, 27, 28, 29, 30, 31, 32, 33]) (L := [(7, undef), (8, undef), (9, undef), (10, .bool true), (11, .bool true), (12, .pointer (some ⟨b1, 5, none⟩))]) rfl (by kernel_rfl) ?_
  refine st_load (d := 13) (t := 3) (cs := _) (v := .int .i64 m.place.toInt) (by kernel_rfl) (hB4.sub 5) (by kernel_rfl) ?_
  by_cases h7 : m.place.toInt ≥ 0
  ·skip
   have hb8 : (decide (m.place.toInt ≥ 0)) = true := decide_eq_true h7
   refine st_pure (l := [11, 12, 13]) (rest := [14, 15, 16, 17, 18, 19, 20, 21, 22, 23, 24, 25, 26, 27, 28, 29, 30, 31, 32, 33]) (L := [(14, .bool (decide (m.place.toInt ≥ 0))), (15, .bool (decide (m.place.toInt ≥ 0))), (16, .bool true)]) rfl (Eq.trans (b := some [(14, .bool (decide (m.place.toInt ≥ 0))), (15, .bool (decide (m.place.toInt ≥ 0))), (16, .bool (decide (m.place.toInt ≥ 0)))]) (by kernel_rfl) (by simp only [hb8])) ?_
   refine st_pure (l := [14]) (rest := [15, 16, 17, 18, 19, 20, 21, 22, 23, 24, 25, 26, 27, 28, 29, 30, 31, 32, 33]) (L := [(17, .pointer (some ⟨b1, 5, none⟩))]) rfl (by kernel_rfl) ?_
   refine st_load (d := 18) (t := 3) (cs := _) (v := .int .i64 m.place.toInt) (by kernel_rfl) (hB4.sub 5) (by kernel_rfl) ?_
   by_cases h9 : m.place.toInt < 16384
   ·skip
    have hb10 : (decide (m.place.toInt < 16384)) = true := decide_eq_true h9
    refine st_pure (l := [16, 17, 18]) (rest := [19, 20, 21, 22, 23, 24, 25, 26, 27, 28, 29, 30, 31, 32, 33]) (L := [(19, .bool (decide (m.place.toInt < 16384))), (20, .bool (decide (m.place.toInt < 16384))), (21, .bool true)]) rfl (Eq.trans (b := some [(19, .bool (decide (m.place.toInt < 16384))), (20, .bool (decide (m.place.toInt < 16384))), (21, .bool (decide (m.place.toInt < 16384)))]) (by kernel_rfl) (by simp only [hb10])) ?_
    refine st_load (d := 22) (t := 35) (cs := _) (v := .agg #[.int .i64 m.kind.toInt, .int .i64 m.time.toInt, .int .i64 m.cls.toInt, .int .u8 (m.high.toNat : Int), .int .i64 m.bank.toInt, .int .i64 m.place.toInt, .int .u8 (m.value.toNat : Int)]) (by kernel_rfl) (hB4.sub 0) (by kernel_rfl) ?_
    refine st_pure (l := [20]) (rest := [21, 22, 23, 24, 25, 26, 27, 28, 29, 30, 31, 32, 33]) (L := [(23, .pointer (some ⟨b1, 0, none⟩))]) rfl (by kernel_rfl) ?_
    refine st_load (d := 24) (t := 3) (cs := _) (v := .int .i64 m.kind.toInt) (by kernel_rfl) (hB4.sub 0) (by kernel_rfl) ?_
    refine st_pure (l := [22]) (rest := [23, 24, 25, 26, 27, 28, 29, 30, 31, 32, 33]) (L := [(25, .pointer (some ⟨b1, 1, none⟩))]) rfl (by kernel_rfl) ?_
    refine st_load (d := 26) (t := 2) (cs := _) (v := .int .i64 m.time.toInt) (by kernel_rfl) (hB4.sub 1) (by kernel_rfl) ?_
    refine st_pure (l := [24]) (rest := [25, 26, 27, 28, 29, 30, 31, 32, 33]) (L := [(27, .pointer (some ⟨b1, 4, none⟩))]) rfl (by kernel_rfl) ?_
    refine st_load (d := 28) (t := 3) (cs := _) (v := .int .i64 m.bank.toInt) (by kernel_rfl) (hB4.sub 4) (by kernel_rfl) ?_
    refine st_pure (l := [26]) (rest := [27, 28, 29, 30, 31, 32, 33]) (L := [(29, .pointer (some ⟨b1, 5, none⟩))]) rfl (by kernel_rfl) ?_
    refine st_load (d := 30) (t := 3) (cs := _) (v := .int .i64 m.place.toInt) (by kernel_rfl) (hB4.sub 5) (by kernel_rfl) ?_
    refine st_pure (l := [28]) (rest := [29, 30, 31, 32, 33]) (L := [(31, .pointer (some ⟨b1, 6, none⟩))]) rfl (by kernel_rfl) ?_
    refine st_load (d := 32) (t := 5) (cs := _) (v := .int .u8 (m.value.toNat : Int)) (by kernel_rfl) (hB4.sub 6) (by kernel_rfl) ?_
    refine st_pure (l := [30]) (rest := [31, 32, 33]) (L := [(33, .agg #[.int .i64 m.kind.toInt, .int .i64 m.time.toInt, .int .i64 0, .int .u8 0, .int .i64 m.bank.toInt, .int .i64 m.place.toInt, .int .u8 (m.value.toNat : Int)])]) rfl (by kernel_rfl) ?_
    refine st_comes (d := 34) (v := .bool (((m.kind.toInt == m.kind.toInt) && ((m.time.toInt == m.time.toInt) && ((m.cls.toInt == 0) && (((m.high.toNat : Int) == 0) && ((m.bank.toInt == m.bank.toInt) && ((m.place.toInt == m.place.toInt) && (((m.value.toNat : Int) == (m.value.toNat : Int)) && true))))))) != false)) (comes_eq (t := 35) (neg := false) (xs := #[.int .i64 m.kind.toInt, .int .i64 m.time.toInt, .int .i64 m.cls.toInt, .int .u8 (m.high.toNat : Int), .int .i64 m.bank.toInt, .int .i64 m.place.toInt, .int .u8 (m.value.toNat : Int)]) (ys := #[.int .i64 m.kind.toInt, .int .i64 m.time.toInt, .int .i64 0, .int .u8 0, .int .i64 m.bank.toInt, .int .i64 m.place.toInt, .int .u8 (m.value.toNat : Int)]) (b := ((m.kind.toInt == m.kind.toInt) && ((m.time.toInt == m.time.toInt) && ((m.cls.toInt == 0) && (((m.high.toNat : Int) == 0) && ((m.bank.toInt == m.bank.toInt) && ((m.place.toInt == m.place.toInt) && (((m.value.toNat : Int) == (m.value.toNat : Int)) && true)))))))) (by kernel_rfl) (by kernel_rfl) (by kernel_rfl)) ?_
    refine st_pure (l := [32, 33]) (rest := []) (L := [(35, .bool (((m.kind.toInt == m.kind.toInt) && ((m.time.toInt == m.time.toInt) && ((m.cls.toInt == 0) && (((m.high.toNat : Int) == 0) && ((m.bank.toInt == m.bank.toInt) && ((m.place.toInt == m.place.toInt) && (((m.value.toNat : Int) == (m.value.toNat : Int)) && true))))))) != false)), (2, .bool (((m.kind.toInt == m.kind.toInt) && ((m.time.toInt == m.time.toInt) && ((m.cls.toInt == 0) && (((m.high.toNat : Int) == 0) && ((m.bank.toInt == m.bank.toInt) && ((m.place.toInt == m.place.toInt) && (((m.value.toNat : Int) == (m.value.toNat : Int)) && true))))))) != false))]) rfl (by kernel_rfl) ?_
    refine st_end ?_
    refine then_n ?_
    refine wp_ret ?_
    refine post_ret (v := .bool (((m.kind.toInt == m.kind.toInt) && ((m.time.toInt == m.time.toInt) && ((m.cls.toInt == 0) && (((m.high.toNat : Int) == 0) && ((m.bank.toInt == m.bank.toInt) && ((m.place.toInt == m.place.toInt) && (((m.value.toNat : Int) == (m.value.toNat : Int)) && true))))))) != false)) (by kernel_rfl) ?_
    refine ⟨((m.kind.toInt == m.kind.toInt) && ((m.time.toInt == m.time.toInt) && ((m.cls.toInt == 0) && (((m.high.toNat : Int) == 0) && ((m.bank.toInt == m.bank.toInt) && ((m.place.toInt == m.place.toInt) && (((m.value.toNat : Int) == (m.value.toNat : Int)) && true))))))) != false, ?_, rfl, HM⟩
    ·rw [fit_screen, if_pos h5, if_pos h7, if_pos h9]
     all_goals (try rfl)
   ·skip
    have hb11 : (decide (m.place.toInt < 16384)) = false := decide_eq_false h9
    refine st_pure (l := [16, 17, 18]) (rest := [19, 20, 21, 22, 23, 24, 25, 26, 27, 28, 29, 30, 31, 32, 33]) (L := [(19, .bool (decide (m.place.toInt < 16384))), (20, .bool (decide (m.place.toInt < 16384))), (21, .bool false)]) rfl (Eq.trans (b := some [(19, .bool (decide (m.place.toInt < 16384))), (20, .bool (decide (m.place.toInt < 16384))), (21, .bool (decide (m.place.toInt < 16384)))]) (by kernel_rfl) (by simp only [hb11])) ?_
    refine st_pure (l := [19, 20, 21, 22, 23, 24, 25, 26, 27, 28, 29, 30, 31, 32, 33]) (rest := []) (L := [(22, undef), (23, undef), (24, undef), (25, undef), (26, undef), (27, undef), (28, undef), (29, undef), (30, undef), (31, undef), (32, undef), (33, undef), (34, undef), (35, .bool false), (2, .bool false)]) rfl (by kernel_rfl) ?_
    refine st_end ?_
    refine then_n ?_
    refine wp_ret ?_
    refine post_ret (v := .bool false) (by kernel_rfl) ?_
    refine ⟨false, ?_, rfl, HM⟩
    ·rw [fit_screen, if_pos h5, if_pos h7, if_neg h9]
     all_goals (try rfl)
  ·skip
   have hb12 : (decide (m.place.toInt ≥ 0)) = false := decide_eq_false h7
   refine st_pure (l := [11, 12, 13]) (rest := [14, 15, 16, 17, 18, 19, 20, 21, 22, 23, 24, 25, 26, 27, 28, 29, 30, 31, 32, 33]) (L := [(14, .bool (decide (m.place.toInt ≥ 0))), (15, .bool (decide (m.place.toInt ≥ 0))), (16, .bool false)]) rfl (Eq.trans (b := some [(14, .bool (decide (m.place.toInt ≥ 0))), (15, .bool (decide (m.place.toInt ≥ 0))), (16, .bool (decide (m.place.toInt ≥ 0)))]) (by kernel_rfl) (by simp only [hb12])) ?_
   refine st_pure (l := [14, 15, 16, 17, 18, 19, 20, 21, 22, 23, 24, 25, 26, 27, 28, 29, 30, 31, 32, 33]) (rest := []) (L := [(17, undef), (18, undef), (19, undef), (20, .bool false), (21, .bool false), (22, undef), (23, undef), (24, undef), (25, undef), (26, undef), (27, undef), (28, undef), (29, undef), (30, undef), (31, undef), (32, undef), (33, undef), (34, undef), (35, .bool false), (2, .bool false)]) rfl (by kernel_rfl) ?_
   refine st_end ?_
   refine then_n ?_
   refine wp_ret ?_
   refine post_ret (v := .bool false) (by kernel_rfl) ?_
   refine ⟨false, ?_, rfl, HM⟩
   ·rw [fit_screen, if_pos h5, if_neg h7]
    all_goals (try rfl)
 ·skip
  have hb13 : (m.bank.toInt == 5) = false := beq_eq_false_iff_ne.2 h5
  refine st_pure (l := [2, 3]) (rest := [4, 5, 6, 7, 8, 9, 10, 11, 12, 13, 14, 15, 16, 17, 18, 19, 20, 21, 22, 23, 24, 25, 26, 27, 28, 29, 30, 31, 32, 33]) (L := [(5, .bool (m.bank.toInt == 5)), (6, .bool false)]) rfl (Eq.trans (b := some [(5, .bool (m.bank.toInt == 5)), (6, .bool (m.bank.toInt == 5))]) (by kernel_rfl) (by simp only [hb13])) ?_
  refine st_pure (l := [4]) (rest := [5, 6, 7, 8, 9, 10, 11, 12, 13, 14, 15, 16, 17, 18, 19, 20, 21, 22, 23, 24, 25, 26, 27, 28, 29, 30, 31, 32, 33]) (L := [(7, .pointer (some ⟨b1, 4, none⟩))]) rfl (by kernel_rfl) ?_
  refine st_load (d := 8) (t := 3) (cs := _) (v := .int .i64 m.bank.toInt) (by kernel_rfl) (hB4.sub 4) (by kernel_rfl) ?_
  by_cases h14 : m.bank.toInt = 7
  ·skip
   have hb15 : (m.bank.toInt == 7) = true := beq_iff_eq.2 h14
   refine st_pure (l := [6, 7, 8]) (rest := [9, 10, 11, 12, 13, 14, 15, 16, 17, 18, 19, 20, 21, 22, 23, 24, 25, 26, 27, 28, 29, 30, 31, 32, 33]) (L := [(9, .bool (m.bank.toInt == 7)), (10, .bool (m.bank.toInt == 7)), (11, .bool true)]) rfl (Eq.trans (b := some [(9, .bool (m.bank.toInt == 7)), (10, .bool (m.bank.toInt == 7)), (11, .bool (m.bank.toInt == 7))]) (by kernel_rfl) (by simp only [hb15])) ?_
   refine st_pure (l := [9]) (rest := [10, 11, 12, 13, 14, 15, 16, 17, 18, 19, 20, 21, 22, 23, 24, 25, 26, 27, 28, 29, 30, 31, 32, 33]) (L := [(12, .pointer (some ⟨b1, 5, none⟩))]) rfl (by kernel_rfl) ?_
   refine st_load (d := 13) (t := 3) (cs := _) (v := .int .i64 m.place.toInt) (by kernel_rfl) (hB4.sub 5) (by kernel_rfl) ?_
   by_cases h16 : m.place.toInt ≥ 0
   ·skip
    have hb17 : (decide (m.place.toInt ≥ 0)) = true := decide_eq_true h16
    refine st_pure (l := [11, 12, 13]) (rest := [14, 15, 16, 17, 18, 19, 20, 21, 22, 23, 24, 25, 26, 27, 28, 29, 30, 31, 32, 33]) (L := [(14, .bool (decide (m.place.toInt ≥ 0))), (15, .bool (decide (m.place.toInt ≥ 0))), (16, .bool true)]) rfl (Eq.trans (b := some [(14, .bool (decide (m.place.toInt ≥ 0))), (15, .bool (decide (m.place.toInt ≥ 0))), (16, .bool (decide (m.place.toInt ≥ 0)))]) (by kernel_rfl) (by simp only [hb17])) ?_
    refine st_pure (l := [14]) (rest := [15, 16, 17, 18, 19, 20, 21, 22, 23, 24, 25, 26, 27, 28, 29, 30, 31, 32, 33]) (L := [(17, .pointer (some ⟨b1, 5, none⟩))]) rfl (by kernel_rfl) ?_
    refine st_load (d := 18) (t := 3) (cs := _) (v := .int .i64 m.place.toInt) (by kernel_rfl) (hB4.sub 5) (by kernel_rfl) ?_
    by_cases h18 : m.place.toInt < 16384
    ·skip
     have hb19 : (decide (m.place.toInt < 16384)) = true := decide_eq_true h18
     refine st_pure (l := [16, 17, 18]) (rest := [19, 20, 21, 22, 23, 24, 25, 26, 27, 28, 29, 30, 31, 32, 33]) (L := [(19, .bool (decide (m.place.toInt < 16384))), (20, .bool (decide (m.place.toInt < 16384))), (21, .bool true)]) rfl (Eq.trans (b := some [(19, .bool (decide (m.place.toInt < 16384))), (20, .bool (decide (m.place.toInt < 16384))), (21, .bool (decide (m.place.toInt < 16384)))]) (by kernel_rfl) (by simp only [hb19])) ?_
     refine st_load (d := 22) (t := 35) (cs := _) (v := .agg #[.int .i64 m.kind.toInt, .int .i64 m.time.toInt, .int .i64 m.cls.toInt, .int .u8 (m.high.toNat : Int), .int .i64 m.bank.toInt, .int .i64 m.place.toInt, .int .u8 (m.value.toNat : Int)]) (by kernel_rfl) (hB4.sub 0) (by kernel_rfl) ?_
     refine st_pure (l := [20]) (rest := [21, 22, 23, 24, 25, 26, 27, 28, 29, 30, 31, 32, 33]) (L := [(23, .pointer (some ⟨b1, 0, none⟩))]) rfl (by kernel_rfl) ?_
     refine st_load (d := 24) (t := 3) (cs := _) (v := .int .i64 m.kind.toInt) (by kernel_rfl) (hB4.sub 0) (by kernel_rfl) ?_
     refine st_pure (l := [22]) (rest := [23, 24, 25, 26, 27, 28, 29, 30, 31, 32, 33]) (L := [(25, .pointer (some ⟨b1, 1, none⟩))]) rfl (by kernel_rfl) ?_
     refine st_load (d := 26) (t := 2) (cs := _) (v := .int .i64 m.time.toInt) (by kernel_rfl) (hB4.sub 1) (by kernel_rfl) ?_
     refine st_pure (l := [24]) (rest := [25, 26, 27, 28, 29, 30, 31, 32, 33]) (L := [(27, .pointer (some ⟨b1, 4, none⟩))]) rfl (by kernel_rfl) ?_
     refine st_load (d := 28) (t := 3) (cs := _) (v := .int .i64 m.bank.toInt) (by kernel_rfl) (hB4.sub 4) (by kernel_rfl) ?_
     refine st_pure (l := [26]) (rest := [27, 28, 29, 30, 31, 32, 33]) (L := [(29, .pointer (some ⟨b1, 5, none⟩))]) rfl (by kernel_rfl) ?_
     refine st_load (d := 30) (t := 3) (cs := _) (v := .int .i64 m.place.toInt) (by kernel_rfl) (hB4.sub 5) (by kernel_rfl) ?_
     refine st_pure (l := [28]) (rest := [29, 30, 31, 32, 33]) (L := [(31, .pointer (some ⟨b1, 6, none⟩))]) rfl (by kernel_rfl) ?_
     refine st_load (d := 32) (t := 5) (cs := _) (v := .int .u8 (m.value.toNat : Int)) (by kernel_rfl) (hB4.sub 6) (by kernel_rfl) ?_
     refine st_pure (l := [30]) (rest := [31, 32, 33]) (L := [(33, .agg #[.int .i64 m.kind.toInt, .int .i64 m.time.toInt, .int .i64 0, .int .u8 0, .int .i64 m.bank.toInt, .int .i64 m.place.toInt, .int .u8 (m.value.toNat : Int)])]) rfl (by kernel_rfl) ?_
     refine st_comes (d := 34) (v := .bool (((m.kind.toInt == m.kind.toInt) && ((m.time.toInt == m.time.toInt) && ((m.cls.toInt == 0) && (((m.high.toNat : Int) == 0) && ((m.bank.toInt == m.bank.toInt) && ((m.place.toInt == m.place.toInt) && (((m.value.toNat : Int) == (m.value.toNat : Int)) && true))))))) != false)) (comes_eq (t := 35) (neg := false) (xs := #[.int .i64 m.kind.toInt, .int .i64 m.time.toInt, .int .i64 m.cls.toInt, .int .u8 (m.high.toNat : Int), .int .i64 m.bank.toInt, .int .i64 m.place.toInt, .int .u8 (m.value.toNat : Int)]) (ys := #[.int .i64 m.kind.toInt, .int .i64 m.time.toInt, .int .i64 0, .int .u8 0, .int .i64 m.bank.toInt, .int .i64 m.place.toInt, .int .u8 (m.value.toNat : Int)]) (b := ((m.kind.toInt == m.kind.toInt) && ((m.time.toInt == m.time.toInt) && ((m.cls.toInt == 0) && (((m.high.toNat : Int) == 0) && ((m.bank.toInt == m.bank.toInt) && ((m.place.toInt == m.place.toInt) && (((m.value.toNat : Int) == (m.value.toNat : Int)) && true)))))))) (by kernel_rfl) (by kernel_rfl) (by kernel_rfl)) ?_
     refine st_pure (l := [32, 33]) (rest := []) (L := [(35, .bool (((m.kind.toInt == m.kind.toInt) && ((m.time.toInt == m.time.toInt) && ((m.cls.toInt == 0) && (((m.high.toNat : Int) == 0) && ((m.bank.toInt == m.bank.toInt) && ((m.place.toInt == m.place.toInt) && (((m.value.toNat : Int) == (m.value.toNat : Int)) && true))))))) != false)), (2, .bool (((m.kind.toInt == m.kind.toInt) && ((m.time.toInt == m.time.toInt) && ((m.cls.toInt == 0) && (((m.high.toNat : Int) == 0) && ((m.bank.toInt == m.bank.toInt) && ((m.place.toInt == m.place.toInt) && (((m.value.toNat : Int) == (m.value.toNat : Int)) && true))))))) != false))]) rfl (by kernel_rfl) ?_
     refine st_end ?_
     refine then_n ?_
     refine wp_ret ?_
     refine post_ret (v := .bool (((m.kind.toInt == m.kind.toInt) && ((m.time.toInt == m.time.toInt) && ((m.cls.toInt == 0) && (((m.high.toNat : Int) == 0) && ((m.bank.toInt == m.bank.toInt) && ((m.place.toInt == m.place.toInt) && (((m.value.toNat : Int) == (m.value.toNat : Int)) && true))))))) != false)) (by kernel_rfl) ?_
     refine ⟨((m.kind.toInt == m.kind.toInt) && ((m.time.toInt == m.time.toInt) && ((m.cls.toInt == 0) && (((m.high.toNat : Int) == 0) && ((m.bank.toInt == m.bank.toInt) && ((m.place.toInt == m.place.toInt) && (((m.value.toNat : Int) == (m.value.toNat : Int)) && true))))))) != false, ?_, rfl, HM⟩
     ·rw [fit_screen, if_neg h5, if_pos h14, if_pos h16, if_pos h18]
      all_goals (try rfl)
    ·skip
     have hb20 : (decide (m.place.toInt < 16384)) = false := decide_eq_false h18
     refine st_pure (l := [16, 17, 18]) (rest := [19, 20, 21, 22, 23, 24, 25, 26, 27, 28, 29, 30, 31, 32, 33]) (L := [(19, .bool (decide (m.place.toInt < 16384))), (20, .bool (decide (m.place.toInt < 16384))), (21, .bool false)]) rfl (Eq.trans (b := some [(19, .bool (decide (m.place.toInt < 16384))), (20, .bool (decide (m.place.toInt < 16384))), (21, .bool (decide (m.place.toInt < 16384)))]) (by kernel_rfl) (by simp only [hb20])) ?_
     refine st_pure (l := [19, 20, 21, 22, 23, 24, 25, 26, 27, 28, 29, 30, 31, 32, 33]) (rest := []) (L := [(22, undef), (23, undef), (24, undef), (25, undef), (26, undef), (27, undef), (28, undef), (29, undef), (30, undef), (31, undef), (32, undef), (33, undef), (34, undef), (35, .bool false), (2, .bool false)]) rfl (by kernel_rfl) ?_
     refine st_end ?_
     refine then_n ?_
     refine wp_ret ?_
     refine post_ret (v := .bool false) (by kernel_rfl) ?_
     refine ⟨false, ?_, rfl, HM⟩
     ·rw [fit_screen, if_neg h5, if_pos h14, if_pos h16, if_neg h18]
      all_goals (try rfl)
   ·skip
    have hb21 : (decide (m.place.toInt ≥ 0)) = false := decide_eq_false h16
    refine st_pure (l := [11, 12, 13]) (rest := [14, 15, 16, 17, 18, 19, 20, 21, 22, 23, 24, 25, 26, 27, 28, 29, 30, 31, 32, 33]) (L := [(14, .bool (decide (m.place.toInt ≥ 0))), (15, .bool (decide (m.place.toInt ≥ 0))), (16, .bool false)]) rfl (Eq.trans (b := some [(14, .bool (decide (m.place.toInt ≥ 0))), (15, .bool (decide (m.place.toInt ≥ 0))), (16, .bool (decide (m.place.toInt ≥ 0)))]) (by kernel_rfl) (by simp only [hb21])) ?_
    refine st_pure (l := [14, 15, 16, 17, 18, 19, 20, 21, 22, 23, 24, 25, 26, 27, 28, 29, 30, 31, 32, 33]) (rest := []) (L := [(17, undef), (18, undef), (19, undef), (20, .bool false), (21, .bool false), (22, undef), (23, undef), (24, undef), (25, undef), (26, undef), (27, undef), (28, undef), (29, undef), (30, undef), (31, undef), (32, undef), (33, undef), (34, undef), (35, .bool false), (2, .bool false)]) rfl (by kernel_rfl) ?_
    refine st_end ?_
    refine then_n ?_
    refine wp_ret ?_
    refine post_ret (v := .bool false) (by kernel_rfl) ?_
    refine ⟨false, ?_, rfl, HM⟩
    ·rw [fit_screen, if_neg h5, if_pos h14, if_neg h16]
     all_goals (try rfl)
  ·skip
   have hb22 : (m.bank.toInt == 7) = false := beq_eq_false_iff_ne.2 h14
   refine st_pure (l := [6, 7, 8]) (rest := [9, 10, 11, 12, 13, 14, 15, 16, 17, 18, 19, 20, 21, 22, 23, 24, 25, 26, 27, 28, 29, 30, 31, 32, 33]) (L := [(9, .bool (m.bank.toInt == 7)), (10, .bool (m.bank.toInt == 7)), (11, .bool false)]) rfl (Eq.trans (b := some [(9, .bool (m.bank.toInt == 7)), (10, .bool (m.bank.toInt == 7)), (11, .bool (m.bank.toInt == 7))]) (by kernel_rfl) (by simp only [hb22])) ?_
   refine st_pure (l := [9, 10, 11, 12, 13, 14, 15, 16, 17, 18, 19, 20, 21, 22, 23, 24, 25, 26, 27, 28, 29, 30, 31, 32, 33]) (rest := []) (L := [(12, undef), (13, undef), (14, undef), (15, .bool false), (16, .bool false), (17, undef), (18, undef), (19, undef), (20, .bool false), (21, .bool false), (22, undef), (23, undef), (24, undef), (25, undef), (26, undef), (27, undef), (28, undef), (29, undef), (30, undef), (31, undef), (32, undef), (33, undef), (34, undef), (35, .bool false), (2, .bool false)]) rfl (by kernel_rfl) ?_
   refine st_end ?_
   refine then_n ?_
   refine wp_ret ?_
   refine post_ret (v := .bool false) (by kernel_rfl) ?_
   refine ⟨false, ?_, rfl, HM⟩
   ·rw [fit_screen, if_neg h5, if_neg h14]
    all_goals (try rfl)

def fit_reply (m : Msg) : Bool :=
 ((m.kind.toInt == m.kind.toInt) && ((m.time.toInt == m.time.toInt) && ((m.cls.toInt == 0) && (((m.high.toNat : Int) == 0) && ((m.bank.toInt == 0) && ((m.place.toInt == 0) && (((m.value.toNat : Int) == (m.value.toNat : Int)) && true))))))) != false

theorem fit_reply_ok {w : World} {m : Msg} :
  Ret Try.prog 162 #[.agg #[.int .i64 m.kind.toInt, .int .i64 m.time.toInt, .int .i64 m.cls.toInt, .int .u8 (m.high.toNat : Int), .int .i64 m.bank.toInt, .int .i64 m.place.toInt, .int .u8 (m.value.toNat : Int)]] w fun v w' => ∃ d : Bool, fit_reply m = d ∧ v = .bool d ∧ Mod (Nil) w w' := by
 have hrm_0 := i64_lo m.kind
 have hrm_1 := i64_lo m.time
 have hrm_2 := i64_lo m.cls
 have hrm_4 := i64_lo m.bank
 have hrm_5 := i64_lo m.place
 have hsm_0 := i64_hi m.kind
 have hsm_1 := i64_hi m.time
 have hsm_2 := i64_hi m.cls
 have hsm_3 := u8_hi m.high
 have hsm_4 := i64_hi m.bank
 have hsm_5 := i64_hi m.place
 have hsm_6 := u8_hi m.value
 have HM : Mod (Nil) w w := Mod.refl _ w
 refine ret_of Try.func162 rfl rfl ?_
 refine wp_seq ?_
 refine c_region (L := [0, 1]) (by kernel_rfl) ?_
 refine st_new (d := 1) (e := 35) (C := [.int .i64 m.kind.toInt, .int .i64 m.time.toInt, .int .i64 m.cls.toInt, .int .u8 (m.high.toNat : Int), .int .i64 m.bank.toInt, .int .i64 m.place.toInt, .int .u8 (m.value.toNat : Int)]) (V := fun r => .pointer (some ⟨r, 0, none⟩)) (by kernel_rfl) ?_
 intro b1 w2 m3 lb1 ub1 hB4
 replace HM := HM.tr0 m3
 have hszw2 := m3.size
 refine st_pure (l := [1]) (rest := []) (L := [(2, .bool false)]) rfl (by kernel_rfl) ?_
 refine st_end ?_
 refine then_n ?_
 refine wp_seq ?_
 refine c_region (L := [0, 1, 2, 3, 4, 5, 6, 7, 8, 9]) (by kernel_rfl) ?_
 refine st_load (d := 3) (t := 35) (cs := _) (v := .agg #[.int .i64 m.kind.toInt, .int .i64 m.time.toInt, .int .i64 m.cls.toInt, .int .u8 (m.high.toNat : Int), .int .i64 m.bank.toInt, .int .i64 m.place.toInt, .int .u8 (m.value.toNat : Int)]) (by kernel_rfl) (hB4.sub 0) (by kernel_rfl) ?_
 refine st_pure (l := [1]) (rest := [2, 3, 4, 5, 6, 7, 8, 9]) (L := [(4, .pointer (some ⟨b1, 0, none⟩))]) rfl (by kernel_rfl) ?_
 refine st_load (d := 5) (t := 3) (cs := _) (v := .int .i64 m.kind.toInt) (by kernel_rfl) (hB4.sub 0) (by kernel_rfl) ?_
 refine st_pure (l := [3]) (rest := [4, 5, 6, 7, 8, 9]) (L := [(6, .pointer (some ⟨b1, 1, none⟩))]) rfl (by kernel_rfl) ?_
 refine st_load (d := 7) (t := 2) (cs := _) (v := .int .i64 m.time.toInt) (by kernel_rfl) (hB4.sub 1) (by kernel_rfl) ?_
 refine st_pure (l := [5]) (rest := [6, 7, 8, 9]) (L := [(8, .pointer (some ⟨b1, 6, none⟩))]) rfl (by kernel_rfl) ?_
 refine st_load (d := 9) (t := 5) (cs := _) (v := .int .u8 (m.value.toNat : Int)) (by kernel_rfl) (hB4.sub 6) (by kernel_rfl) ?_
 refine st_pure (l := [7]) (rest := [8, 9]) (L := [(10, .agg #[.int .i64 m.kind.toInt, .int .i64 m.time.toInt, .int .i64 0, .int .u8 0, .int .i64 0, .int .i64 0, .int .u8 (m.value.toNat : Int)])]) rfl (by kernel_rfl) ?_
 refine st_comes (d := 11) (v := .bool (((m.kind.toInt == m.kind.toInt) && ((m.time.toInt == m.time.toInt) && ((m.cls.toInt == 0) && (((m.high.toNat : Int) == 0) && ((m.bank.toInt == 0) && ((m.place.toInt == 0) && (((m.value.toNat : Int) == (m.value.toNat : Int)) && true))))))) != false)) (comes_eq (t := 35) (neg := false) (xs := #[.int .i64 m.kind.toInt, .int .i64 m.time.toInt, .int .i64 m.cls.toInt, .int .u8 (m.high.toNat : Int), .int .i64 m.bank.toInt, .int .i64 m.place.toInt, .int .u8 (m.value.toNat : Int)]) (ys := #[.int .i64 m.kind.toInt, .int .i64 m.time.toInt, .int .i64 0, .int .u8 0, .int .i64 0, .int .i64 0, .int .u8 (m.value.toNat : Int)]) (b := ((m.kind.toInt == m.kind.toInt) && ((m.time.toInt == m.time.toInt) && ((m.cls.toInt == 0) && (((m.high.toNat : Int) == 0) && ((m.bank.toInt == 0) && ((m.place.toInt == 0) && (((m.value.toNat : Int) == (m.value.toNat : Int)) && true)))))))) (by kernel_rfl) (by kernel_rfl) (by kernel_rfl)) ?_
 refine st_pure (l := [9]) (rest := []) (L := [(2, .bool (((m.kind.toInt == m.kind.toInt) && ((m.time.toInt == m.time.toInt) && ((m.cls.toInt == 0) && (((m.high.toNat : Int) == 0) && ((m.bank.toInt == 0) && ((m.place.toInt == 0) && (((m.value.toNat : Int) == (m.value.toNat : Int)) && true))))))) != false))]) rfl (by kernel_rfl) ?_
 refine st_end ?_
 refine then_n ?_
 refine wp_ret ?_
 refine post_ret (v := .bool (((m.kind.toInt == m.kind.toInt) && ((m.time.toInt == m.time.toInt) && ((m.cls.toInt == 0) && (((m.high.toNat : Int) == 0) && ((m.bank.toInt == 0) && ((m.place.toInt == 0) && (((m.value.toNat : Int) == (m.value.toNat : Int)) && true))))))) != false)) (by kernel_rfl) ?_
 refine ⟨((m.kind.toInt == m.kind.toInt) && ((m.time.toInt == m.time.toInt) && ((m.cls.toInt == 0) && (((m.high.toNat : Int) == 0) && ((m.bank.toInt == 0) && ((m.place.toInt == 0) && (((m.value.toNat : Int) == (m.value.toNat : Int)) && true))))))) != false, ?_, rfl, HM⟩
 ·rfl

theorem fits_ok {w : World}  :
  Ret Try.prog 105 #[] w fun v w' => v = .agg #[.nilFunc, .func (.func 159) #[] #[], .func (.func 160) #[] #[], .func (.func 161) #[] #[], .func (.func 158) #[] #[], .func (.func 158) #[] #[], .func (.func 162) #[] #[]] ∧ Mod (Nil) w w' := by
 have HM : Mod (Nil) w w := Mod.refl _ w
 refine ret_of Try.func105 rfl rfl ?_
 refine wp_seq ?_
 refine c_region (L := [0]) (by kernel_rfl) ?_
 refine st_new (d := 0) (e := 153) (C := [.nilFunc, .nilFunc, .nilFunc, .nilFunc, .nilFunc, .nilFunc, .nilFunc]) (V := fun r => .pointer (some ⟨r, 0, none⟩)) (by kernel_rfl) ?_
 intro b1 w2 m3 lb1 ub1 hB4
 replace HM := HM.tr0 m3
 have hszw2 := m3.size
 refine st_end ?_
 refine then_n ?_
 refine wp_seq ?_
 refine c_region (L := [0]) (by kernel_rfl) ?_
 refine st_pure (l := [0]) (rest := []) (L := [(1, .func (.func 158) #[] #[])]) rfl (by kernel_rfl) ?_
 refine st_end ?_
 refine then_n ?_
 refine wp_seq ?_
 refine c_region (L := [0, 1, 2, 3]) (by kernel_rfl) ?_
 refine st_pure (l := [0, 1, 2]) (rest := [3]) (L := [(2, .func (.func 158) #[] #[]), (3, .func (.func 158) #[] #[]), (4, .agg #[.nilFunc, .func (.func 159) #[] #[], .func (.func 160) #[] #[], .func (.func 161) #[] #[], .func (.func 158) #[] #[], .func (.func 158) #[] #[], .func (.func 162) #[] #[]])]) rfl (by kernel_rfl) ?_
 refine st_store (t := 153) (v := .agg #[.nilFunc, .func (.func 159) #[] #[], .func (.func 160) #[] #[], .func (.func 161) #[] #[], .func (.func 158) #[] #[], .func (.func 158) #[] #[], .func (.func 162) #[] #[]]) (o := 0) (C' := [.nilFunc, .func (.func 159) #[] #[], .func (.func 160) #[] #[], .func (.func 161) #[] #[], .func (.func 158) #[] #[], .func (.func 158) #[] #[], .func (.func 162) #[] #[]]) (by kernel_rfl) hB4 (by kernel_rfl) ?_
 intro w5 m6 zm6 NhB4
 clear hB4; have hB4 := NhB4; clear NhB4
 replace HM := HM.trans m6 (by intro k h1 h3; (try simp only [Iv] at h3 ⊢); omega)
 have hszw5 := m6.size
 refine st_end ?_
 refine then_n ?_
 refine wp_ret ?_
 refine post_run (v := .agg #[.nilFunc, .func (.func 159) #[] #[], .func (.func 160) #[] #[], .func (.func 161) #[] #[], .func (.func 158) #[] #[], .func (.func 158) #[] #[], .func (.func 162) #[] #[]]) (res_cell1 (p := 0) (t := 153) (b := b1) (e := 153) (k := 0) (v := .agg #[.nilFunc, .func (.func 159) #[] #[], .func (.func 160) #[] #[], .func (.func 161) #[] #[], .func (.func 158) #[] #[], .func (.func 158) #[] #[], .func (.func 162) #[] #[]]) (by kernel_rfl) (by kernel_rfl) hB4 (by kernel_rfl)) ?_
 refine ⟨rfl, HM⟩

def chk (m : Msg) : Int :=
 if m.kind.toInt < 1 then
  2
 else
  if m.kind.toInt > 6 then
   2
  else
   if m.time.toInt < 0 then
    2
   else
    if m.time.toInt > 1099511627776 then
     2
    else
     if m.kind.toInt = 1 then
      match fit_out m with
      | d24 =>
       if d24 = true then
        0
       else
        2
     else
      if m.kind.toInt = 2 then
       match fit_in m with
       | d34 =>
        if d34 = true then
         0
        else
         2
      else
       if m.kind.toInt = 3 then
        match fit_screen m with
        | d44 =>
         if d44 = true then
          0
         else
          2
       else
        if m.kind.toInt = 4 then
         match fit_none m with
         | d54 =>
          if d54 = true then
           0
          else
           2
        else
         if m.kind.toInt = 5 then
          match fit_none m with
          | d64 =>
           if d64 = true then
            0
           else
            2
         else
          match fit_reply m with
          | d74 =>
           if d74 = true then
            0
           else
            2

theorem Check_ok {w : World} {m : Msg} :
  Ret Try.prog 18 #[.agg #[.int .i64 m.kind.toInt, .int .i64 m.time.toInt, .int .i64 m.cls.toInt, .int .u8 (m.high.toNat : Int), .int .i64 m.bank.toInt, .int .i64 m.place.toInt, .int .u8 (m.value.toNat : Int)]] w fun v w' => ∃ e2 : Int, chk m = e2 ∧ v = .int .i64 e2 ∧ (-9223372036854775808 ≤ e2 ∧ e2 ≤ 9223372036854775807) ∧ Mod (Nil) w w' := by
 have hrm_0 := i64_lo m.kind
 have hrm_1 := i64_lo m.time
 have hrm_2 := i64_lo m.cls
 have hrm_4 := i64_lo m.bank
 have hrm_5 := i64_lo m.place
 have hsm_0 := i64_hi m.kind
 have hsm_1 := i64_hi m.time
 have hsm_2 := i64_hi m.cls
 have hsm_3 := u8_hi m.high
 have hsm_4 := i64_hi m.bank
 have hsm_5 := i64_hi m.place
 have hsm_6 := u8_hi m.value
 have HM : Mod (Nil) w w := Mod.refl _ w
 refine ret_of Try.func18 rfl rfl ?_
 refine wp_seq ?_
 refine c_region (L := [0, 1]) (by kernel_rfl) ?_
 refine st_new (d := 1) (e := 35) (C := [.int .i64 m.kind.toInt, .int .i64 m.time.toInt, .int .i64 m.cls.toInt, .int .u8 (m.high.toNat : Int), .int .i64 m.bank.toInt, .int .i64 m.place.toInt, .int .u8 (m.value.toNat : Int)]) (V := fun r => .pointer (some ⟨r, 0, none⟩)) (by kernel_rfl) ?_
 intro b1 w2 m3 lb1 ub1 hB4
 replace HM := HM.tr0 m3
 have hszw2 := m3.size
 refine st_pure (l := [1]) (rest := []) (L := [(2, .int .i64 0)]) rfl (by kernel_rfl) ?_
 refine st_end ?_
 refine then_n ?_
 refine wp_seq ?_
 refine wp_seq ?_
 refine c_drawS (Nil) (Nil) [0, 1, 2, 3, 4, 5, 6, 7, 8, 9, 10, 11, 12, 13, 14, 15, 16, 17, 18, 20, 21, 22, 23, 25, 26] [] 0 (fun _ q => q) (by kernel_rfl) (n := 27) (by kernel_rfl) (by kernel_rfl) ?_
 intro w5 HGw5
 have hB4_w5 := hB4
 have HC6 : Mod (Nil) w2 w5 := Mod.weaken HGw5 fun _ _ q => q.elim
 replace hB4 := hB4.mod HGw5 (fun q => q)
 replace HM := HM.tr0 HGw5
 have hszw5 := HGw5.size
 refine m_p (k := 0) (n := 1) (fuel := 26) (L := [(3, .pointer (some ⟨b1, 0, none⟩))]) (by kernel_rfl) (by kernel_rfl) rfl ?_
 refine m_load (d := 4) (t := 3) (b := b1) (o := 0) (v := .int .i64 m.kind.toInt) (by kernel_rfl) (by kernel_rfl) (fun wQ (mQ : Mod (Nil) w2 wQ) => (hB4_w5.mod mQ (fun q => q)).sub 0) (by kernel_rfl) ?_
 by_cases h7 : m.kind.toInt < 1
 ·skip
  have hb8 : (decide (m.kind.toInt < 1)) = true := decide_eq_true h7
  refine m_p (k := 2) (n := 2) (fuel := 23) (L := [(5, .bool (decide (m.kind.toInt < 1))), (6, .bool true)]) (by kernel_rfl) (Eq.trans (b := some [(5, .bool (decide (m.kind.toInt < 1))), (6, .bool (decide (m.kind.toInt < 1)))]) (by kernel_rfl) (by simp only [hb8])) rfl ?_
  refine m_p (k := 4) (n := 15) (fuel := 8) (L := [(7, undef), (8, undef), (9, undef), (10, .bool true), (11, .bool true), (12, undef), (13, undef), (14, undef), (15, .bool true), (16, .bool true), (17, undef), (18, undef), (19, undef), (20, .bool true), (21, .bool true)]) (by kernel_rfl) (by kernel_rfl) rfl ?_
  refine m_Q (by kernel_rfl) ?_
  refine st_unwanted (some 22) (by kernel_rfl) ?_
  refine st_end (m_after HC6 ?_)
  refine m_p (k := 20) (n := 4) (fuel := 3) (L := [(23, undef), (24, undef), (25, undef), (26, undef)]) (by kernel_rfl) (by kernel_rfl) rfl ?_
  refine m_Q (by kernel_rfl) ?_
  refine st_unwanted (some 27) (by kernel_rfl) ?_
  refine st_end (m_after HC6 ?_)
  refine m_p (k := 25) (n := 2) (fuel := 0) (L := [(28, undef), (29, .bool true)]) (by kernel_rfl) (by kernel_rfl) rfl ?_
  refine m_end ?_
  refine then_n ?_
  refine c_true (by kernel_rfl) ?_
  refine wp_seq ?_
  refine c_region (L := [0]) (by kernel_rfl) ?_
  refine st_pure (l := [0]) (rest := []) (L := [(2, .int .i64 2)]) rfl (by kernel_rfl) ?_
  refine st_end ?_
  refine then_n ?_
  refine wp_ret ?_
  refine then_r ?_
  refine post_ret (v := .int .i64 2) (by kernel_rfl) ?_
  refine ⟨2, ?_, rfl, ?_, HM⟩
  ·rw [chk, if_pos h7]
   all_goals (try rfl)
  ·omega
 ·skip
  have hb9 : (decide (m.kind.toInt < 1)) = false := decide_eq_false h7
  refine m_p (k := 2) (n := 2) (fuel := 23) (L := [(5, .bool (decide (m.kind.toInt < 1))), (6, .bool false)]) (by kernel_rfl) (Eq.trans (b := some [(5, .bool (decide (m.kind.toInt < 1))), (6, .bool (decide (m.kind.toInt < 1)))]) (by kernel_rfl) (by simp only [hb9])) rfl ?_
  refine m_p (k := 4) (n := 1) (fuel := 22) (L := [(7, .pointer (some ⟨b1, 0, none⟩))]) (by kernel_rfl) (by kernel_rfl) rfl ?_
  refine m_load (d := 8) (t := 3) (b := b1) (o := 0) (v := .int .i64 m.kind.toInt) (by kernel_rfl) (by kernel_rfl) (fun wQ (mQ : Mod (Nil) w2 wQ) => (hB4_w5.mod mQ (fun q => q)).sub 0) (by kernel_rfl) ?_
  by_cases h10 : m.kind.toInt > 6
  ·skip
   have hb11 : (decide (m.kind.toInt > 6)) = true := decide_eq_true h10
   refine m_p (k := 6) (n := 3) (fuel := 18) (L := [(9, .bool (decide (m.kind.toInt > 6))), (10, .bool (decide (m.kind.toInt > 6))), (11, .bool true)]) (by kernel_rfl) (Eq.trans (b := some [(9, .bool (decide (m.kind.toInt > 6))), (10, .bool (decide (m.kind.toInt > 6))), (11, .bool (decide (m.kind.toInt > 6)))]) (by kernel_rfl) (by simp only [hb11])) rfl ?_
   refine m_p (k := 9) (n := 10) (fuel := 8) (L := [(12, undef), (13, undef), (14, undef), (15, .bool true), (16, .bool true), (17, undef), (18, undef), (19, undef), (20, .bool true), (21, .bool true)]) (by kernel_rfl) (by kernel_rfl) rfl ?_
   refine m_Q (by kernel_rfl) ?_
   refine st_unwanted (some 22) (by kernel_rfl) ?_
   refine st_end (m_after HC6 ?_)
   refine m_p (k := 20) (n := 4) (fuel := 3) (L := [(23, undef), (24, undef), (25, undef), (26, undef)]) (by kernel_rfl) (by kernel_rfl) rfl ?_
   refine m_Q (by kernel_rfl) ?_
   refine st_unwanted (some 27) (by kernel_rfl) ?_
   refine st_end (m_after HC6 ?_)
   refine m_p (k := 25) (n := 2) (fuel := 0) (L := [(28, undef), (29, .bool true)]) (by kernel_rfl) (by kernel_rfl) rfl ?_
   refine m_end ?_
   refine then_n ?_
   refine c_true (by kernel_rfl) ?_
   refine wp_seq ?_
   refine c_region (L := [0]) (by kernel_rfl) ?_
   refine st_pure (l := [0]) (rest := []) (L := [(2, .int .i64 2)]) rfl (by kernel_rfl) ?_
   refine st_end ?_
   refine then_n ?_
   refine wp_ret ?_
   refine then_r ?_
   refine post_ret (v := .int .i64 2) (by kernel_rfl) ?_
   refine ⟨2, ?_, rfl, ?_, HM⟩
   ·rw [chk, if_neg h7, if_pos h10]
    all_goals (try rfl)
   ·omega
  ·skip
   have hb12 : (decide (m.kind.toInt > 6)) = false := decide_eq_false h10
   refine m_p (k := 6) (n := 3) (fuel := 18) (L := [(9, .bool (decide (m.kind.toInt > 6))), (10, .bool (decide (m.kind.toInt > 6))), (11, .bool false)]) (by kernel_rfl) (Eq.trans (b := some [(9, .bool (decide (m.kind.toInt > 6))), (10, .bool (decide (m.kind.toInt > 6))), (11, .bool (decide (m.kind.toInt > 6)))]) (by kernel_rfl) (by simp only [hb12])) rfl ?_
   refine m_p (k := 9) (n := 1) (fuel := 17) (L := [(12, .pointer (some ⟨b1, 1, none⟩))]) (by kernel_rfl) (by kernel_rfl) rfl ?_
   refine m_load (d := 13) (t := 2) (b := b1) (o := 1) (v := .int .i64 m.time.toInt) (by kernel_rfl) (by kernel_rfl) (fun wQ (mQ : Mod (Nil) w2 wQ) => (hB4_w5.mod mQ (fun q => q)).sub 1) (by kernel_rfl) ?_
   by_cases h13 : m.time.toInt < 0
   ·skip
    have hb14 : (decide (m.time.toInt < 0)) = true := decide_eq_true h13
    refine m_p (k := 11) (n := 3) (fuel := 13) (L := [(14, .bool (decide (m.time.toInt < 0))), (15, .bool (decide (m.time.toInt < 0))), (16, .bool true)]) (by kernel_rfl) (Eq.trans (b := some [(14, .bool (decide (m.time.toInt < 0))), (15, .bool (decide (m.time.toInt < 0))), (16, .bool (decide (m.time.toInt < 0)))]) (by kernel_rfl) (by simp only [hb14])) rfl ?_
    refine m_p (k := 14) (n := 5) (fuel := 8) (L := [(17, undef), (18, undef), (19, undef), (20, .bool true), (21, .bool true)]) (by kernel_rfl) (by kernel_rfl) rfl ?_
    refine m_Q (by kernel_rfl) ?_
    refine st_unwanted (some 22) (by kernel_rfl) ?_
    refine st_end (m_after HC6 ?_)
    refine m_p (k := 20) (n := 4) (fuel := 3) (L := [(23, undef), (24, undef), (25, undef), (26, undef)]) (by kernel_rfl) (by kernel_rfl) rfl ?_
    refine m_Q (by kernel_rfl) ?_
    refine st_unwanted (some 27) (by kernel_rfl) ?_
    refine st_end (m_after HC6 ?_)
    refine m_p (k := 25) (n := 2) (fuel := 0) (L := [(28, undef), (29, .bool true)]) (by kernel_rfl) (by kernel_rfl) rfl ?_
    refine m_end ?_
    refine then_n ?_
    refine c_true (by kernel_rfl) ?_
    refine wp_seq ?_
    refine c_region (L := [0]) (by kernel_rfl) ?_
    refine st_pure (l := [0]) (rest := []) (L := [(2, .int .i64 2)]) rfl (by kernel_rfl) ?_
    refine st_end ?_
    refine then_n ?_
    refine wp_ret ?_
    refine then_r ?_
    refine post_ret (v := .int .i64 2) (by kernel_rfl) ?_
    refine ⟨2, ?_, rfl, ?_, HM⟩
    ·rw [chk, if_neg h7, if_neg h10, if_pos h13]
     all_goals (try rfl)
    ·omega
   ·skip
    have hb15 : (decide (m.time.toInt < 0)) = false := decide_eq_false h13
    refine m_p (k := 11) (n := 3) (fuel := 13) (L := [(14, .bool (decide (m.time.toInt < 0))), (15, .bool (decide (m.time.toInt < 0))), (16, .bool false)]) (by kernel_rfl) (Eq.trans (b := some [(14, .bool (decide (m.time.toInt < 0))), (15, .bool (decide (m.time.toInt < 0))), (16, .bool (decide (m.time.toInt < 0)))]) (by kernel_rfl) (by simp only [hb15])) rfl ?_
    refine m_p (k := 14) (n := 1) (fuel := 12) (L := [(17, .pointer (some ⟨b1, 1, none⟩))]) (by kernel_rfl) (by kernel_rfl) rfl ?_
    refine m_load (d := 18) (t := 2) (b := b1) (o := 1) (v := .int .i64 m.time.toInt) (by kernel_rfl) (by kernel_rfl) (fun wQ (mQ : Mod (Nil) w2 wQ) => (hB4_w5.mod mQ (fun q => q)).sub 1) (by kernel_rfl) ?_
    by_cases h16 : m.time.toInt > 1099511627776
    ·skip
     have hb17 : (decide (m.time.toInt > 1099511627776)) = true := decide_eq_true h16
     refine m_p (k := 16) (n := 3) (fuel := 8) (L := [(19, .bool (decide (m.time.toInt > 1099511627776))), (20, .bool (decide (m.time.toInt > 1099511627776))), (21, .bool true)]) (by kernel_rfl) (Eq.trans (b := some [(19, .bool (decide (m.time.toInt > 1099511627776))), (20, .bool (decide (m.time.toInt > 1099511627776))), (21, .bool (decide (m.time.toInt > 1099511627776)))]) (by kernel_rfl) (by simp only [hb17])) rfl ?_
     refine m_Q (by kernel_rfl) ?_
     refine st_unwanted (some 22) (by kernel_rfl) ?_
     refine st_end (m_after HC6 ?_)
     refine m_p (k := 20) (n := 4) (fuel := 3) (L := [(23, undef), (24, undef), (25, undef), (26, undef)]) (by kernel_rfl) (by kernel_rfl) rfl ?_
     refine m_Q (by kernel_rfl) ?_
     refine st_unwanted (some 27) (by kernel_rfl) ?_
     refine st_end (m_after HC6 ?_)
     refine m_p (k := 25) (n := 2) (fuel := 0) (L := [(28, undef), (29, .bool true)]) (by kernel_rfl) (by kernel_rfl) rfl ?_
     refine m_end ?_
     refine then_n ?_
     refine c_true (by kernel_rfl) ?_
     refine wp_seq ?_
     refine c_region (L := [0]) (by kernel_rfl) ?_
     refine st_pure (l := [0]) (rest := []) (L := [(2, .int .i64 2)]) rfl (by kernel_rfl) ?_
     refine st_end ?_
     refine then_n ?_
     refine wp_ret ?_
     refine then_r ?_
     refine post_ret (v := .int .i64 2) (by kernel_rfl) ?_
     refine ⟨2, ?_, rfl, ?_, HM⟩
     ·rw [chk, if_neg h7, if_neg h10, if_neg h13, if_pos h16]
      all_goals (try rfl)
     ·omega
    ·skip
     have hb18 : (decide (m.time.toInt > 1099511627776)) = false := decide_eq_false h16
     refine m_p (k := 16) (n := 3) (fuel := 8) (L := [(19, .bool (decide (m.time.toInt > 1099511627776))), (20, .bool (decide (m.time.toInt > 1099511627776))), (21, .bool false)]) (by kernel_rfl) (Eq.trans (b := some [(19, .bool (decide (m.time.toInt > 1099511627776))), (20, .bool (decide (m.time.toInt > 1099511627776))), (21, .bool (decide (m.time.toInt > 1099511627776)))]) (by kernel_rfl) (by simp only [hb18])) rfl ?_
     refine m_Q (by kernel_rfl) ?_
     refine st_fn (d := 22) (f := 105) (xs := #[]) (R := _) (by kernel_rfl) (fits_ok (w := w5)  ) ?_
     rintro vw19 w19 ⟨rfl, m21⟩
     replace hB4 := hB4.mod m21 (fun q => q)
     replace HM := HM.tr0 m21
     have hszw19 := m21.size
     have HC22 := HC6.tr0 m21
     refine st_end (m_after HC22 ?_)
     refine m_p (k := 20) (n := 1) (fuel := 6) (L := [(23, .pointer (some ⟨b1, 0, none⟩))]) (by kernel_rfl) (by kernel_rfl) rfl ?_
     refine m_load (d := 24) (t := 3) (b := b1) (o := 0) (v := .int .i64 m.kind.toInt) (by kernel_rfl) (by kernel_rfl) (fun wQ (mQ : Mod (Nil) w2 wQ) => (hB4_w5.mod mQ (fun q => q)).sub 0) (by kernel_rfl) ?_
     by_cases hi23 : m.kind.toInt = 1
     ·skip
      refine m_comes (d := 25) (v := .func (.func 159) #[] #[]) (by kernel_rfl) (fun wQ (mQ : Mod (Nil) w2 wQ) => (comes_index (t := 153) (x := .agg #[.nilFunc, .func (.func 159) #[] #[], .func (.func 160) #[] #[], .func (.func 161) #[] #[], .func (.func 158) #[] #[], .func (.func 158) #[] #[], .func (.func 162) #[] #[]]) (v := .func (.func 159) #[] #[]) (k := .i64) (ix := m.kind.toInt) 1 (by kernel_rfl) hi23 (by kernel_rfl))) HC22 ?_
      refine m_load (d := 26) (t := 35) (b := b1) (o := 0) (v := .agg #[.int .i64 m.kind.toInt, .int .i64 m.time.toInt, .int .i64 m.cls.toInt, .int .u8 (m.high.toNat : Int), .int .i64 m.bank.toInt, .int .i64 m.place.toInt, .int .u8 (m.value.toNat : Int)]) (by kernel_rfl) (by kernel_rfl) (fun wQ (mQ : Mod (Nil) w2 wQ) => (hB4_w5.mod mQ (fun q => q)).sub 0) (by kernel_rfl) ?_
      refine m_Q (by kernel_rfl) ?_
      refine st_fn (d := 27) (f := 159) (xs := #[.agg #[.int .i64 m.kind.toInt, .int .i64 m.time.toInt, .int .i64 m.cls.toInt, .int .u8 (m.high.toNat : Int), .int .i64 m.bank.toInt, .int .i64 m.place.toInt, .int .u8 (m.value.toNat : Int)]]) (R := _) (by kernel_rfl) (fit_out_ok (w := w19) (m := m) ) ?_
      rintro vw25 w25 ⟨d24, hsp26, hv27, m28⟩
      replace hB4 := hB4.mod m28 (fun q => q)
      replace HM := HM.tr0 m28
      have hszw25 := m28.size
      have HC29 := HC22.tr0 m28
      refine st_end (m_after HC29 ?_)
      by_cases h30 : d24 = true
      ·skip
       have hb31 : (d24) = true := by simpa using h30
       rw [hb31] at hv27; subst hv27
       refine m_p (k := 25) (n := 2) (fuel := 0) (L := [(28, .bool false), (29, .bool false)]) (by kernel_rfl) (by kernel_rfl) rfl ?_
       refine m_end ?_
       refine then_n ?_
       refine c_false (by kernel_rfl) ?_
       refine wp_skip ?_
       refine then_n ?_
       refine wp_seq ?_
       refine c_region (L := [0]) (by kernel_rfl) ?_
       refine st_pure (l := [0]) (rest := []) (L := [(2, .int .i64 0)]) rfl (by kernel_rfl) ?_
       refine st_end ?_
       refine then_n ?_
       refine wp_ret ?_
       refine post_ret (v := .int .i64 0) (by kernel_rfl) ?_
       refine ⟨0, ?_, rfl, ?_, HM⟩
       ·rw [chk, if_neg h7, if_neg h10, if_neg h13, if_neg h16, if_pos hi23]
        try simp only [hsp26]
        rw [if_pos h30]
        all_goals (try rfl)
       ·omega
      ·skip
       have hb32 : (d24) = false := by simpa using h30
       rw [hb32] at hv27; subst hv27
       refine m_p (k := 25) (n := 2) (fuel := 0) (L := [(28, .bool true), (29, .bool true)]) (by kernel_rfl) (by kernel_rfl) rfl ?_
       refine m_end ?_
       refine then_n ?_
       refine c_true (by kernel_rfl) ?_
       refine wp_seq ?_
       refine c_region (L := [0]) (by kernel_rfl) ?_
       refine st_pure (l := [0]) (rest := []) (L := [(2, .int .i64 2)]) rfl (by kernel_rfl) ?_
       refine st_end ?_
       refine then_n ?_
       refine wp_ret ?_
       refine then_r ?_
       refine post_ret (v := .int .i64 2) (by kernel_rfl) ?_
       refine ⟨2, ?_, rfl, ?_, HM⟩
       ·rw [chk, if_neg h7, if_neg h10, if_neg h13, if_neg h16, if_pos hi23]
        try simp only [hsp26]
        rw [if_neg h30]
        all_goals (try rfl)
       ·omega
     ·skip
      by_cases hi33 : m.kind.toInt = 2
      ·skip
       refine m_comes (d := 25) (v := .func (.func 160) #[] #[]) (by kernel_rfl) (fun wQ (mQ : Mod (Nil) w2 wQ) => (comes_index (t := 153) (x := .agg #[.nilFunc, .func (.func 159) #[] #[], .func (.func 160) #[] #[], .func (.func 161) #[] #[], .func (.func 158) #[] #[], .func (.func 158) #[] #[], .func (.func 162) #[] #[]]) (v := .func (.func 160) #[] #[]) (k := .i64) (ix := m.kind.toInt) 2 (by kernel_rfl) hi33 (by kernel_rfl))) HC22 ?_
       refine m_load (d := 26) (t := 35) (b := b1) (o := 0) (v := .agg #[.int .i64 m.kind.toInt, .int .i64 m.time.toInt, .int .i64 m.cls.toInt, .int .u8 (m.high.toNat : Int), .int .i64 m.bank.toInt, .int .i64 m.place.toInt, .int .u8 (m.value.toNat : Int)]) (by kernel_rfl) (by kernel_rfl) (fun wQ (mQ : Mod (Nil) w2 wQ) => (hB4_w5.mod mQ (fun q => q)).sub 0) (by kernel_rfl) ?_
       refine m_Q (by kernel_rfl) ?_
       refine st_fn (d := 27) (f := 160) (xs := #[.agg #[.int .i64 m.kind.toInt, .int .i64 m.time.toInt, .int .i64 m.cls.toInt, .int .u8 (m.high.toNat : Int), .int .i64 m.bank.toInt, .int .i64 m.place.toInt, .int .u8 (m.value.toNat : Int)]]) (R := _) (by kernel_rfl) (fit_in_ok (w := w19) (m := m) ) ?_
       rintro vw35 w35 ⟨d34, hsp36, hv37, m38⟩
       replace hB4 := hB4.mod m38 (fun q => q)
       replace HM := HM.tr0 m38
       have hszw35 := m38.size
       have HC39 := HC22.tr0 m38
       refine st_end (m_after HC39 ?_)
       by_cases h40 : d34 = true
       ·skip
        have hb41 : (d34) = true := by simpa using h40
        rw [hb41] at hv37; subst hv37
        refine m_p (k := 25) (n := 2) (fuel := 0) (L := [(28, .bool false), (29, .bool false)]) (by kernel_rfl) (by kernel_rfl) rfl ?_
        refine m_end ?_
        refine then_n ?_
        refine c_false (by kernel_rfl) ?_
        refine wp_skip ?_
        refine then_n ?_
        refine wp_seq ?_
        refine c_region (L := [0]) (by kernel_rfl) ?_
        refine st_pure (l := [0]) (rest := []) (L := [(2, .int .i64 0)]) rfl (by kernel_rfl) ?_
        refine st_end ?_
        refine then_n ?_
        refine wp_ret ?_
        refine post_ret (v := .int .i64 0) (by kernel_rfl) ?_
        refine ⟨0, ?_, rfl, ?_, HM⟩
        ·rw [chk, if_neg h7, if_neg h10, if_neg h13, if_neg h16, if_neg hi23, if_pos hi33]
         try simp only [hsp36]
         rw [if_pos h40]
         all_goals (try rfl)
        ·omega
       ·skip
        have hb42 : (d34) = false := by simpa using h40
        rw [hb42] at hv37; subst hv37
        refine m_p (k := 25) (n := 2) (fuel := 0) (L := [(28, .bool true), (29, .bool true)]) (by kernel_rfl) (by kernel_rfl) rfl ?_
        refine m_end ?_
        refine then_n ?_
        refine c_true (by kernel_rfl) ?_
        refine wp_seq ?_
        refine c_region (L := [0]) (by kernel_rfl) ?_
        refine st_pure (l := [0]) (rest := []) (L := [(2, .int .i64 2)]) rfl (by kernel_rfl) ?_
        refine st_end ?_
        refine then_n ?_
        refine wp_ret ?_
        refine then_r ?_
        refine post_ret (v := .int .i64 2) (by kernel_rfl) ?_
        refine ⟨2, ?_, rfl, ?_, HM⟩
        ·rw [chk, if_neg h7, if_neg h10, if_neg h13, if_neg h16, if_neg hi23, if_pos hi33]
         try simp only [hsp36]
         rw [if_neg h40]
         all_goals (try rfl)
        ·omega
      ·skip
       by_cases hi43 : m.kind.toInt = 3
       ·skip
        refine m_comes (d := 25) (v := .func (.func 161) #[] #[]) (by kernel_rfl) (fun wQ (mQ : Mod (Nil) w2 wQ) => (comes_index (t := 153) (x := .agg #[.nilFunc, .func (.func 159) #[] #[], .func (.func 160) #[] #[], .func (.func 161) #[] #[], .func (.func 158) #[] #[], .func (.func 158) #[] #[], .func (.func 162) #[] #[]]) (v := .func (.func 161) #[] #[]) (k := .i64) (ix := m.kind.toInt) 3 (by kernel_rfl) hi43 (by kernel_rfl))) HC22 ?_
        refine m_load (d := 26) (t := 35) (b := b1) (o := 0) (v := .agg #[.int .i64 m.kind.toInt, .int .i64 m.time.toInt, .int .i64 m.cls.toInt, .int .u8 (m.high.toNat : Int), .int .i64 m.bank.toInt, .int .i64 m.place.toInt, .int .u8 (m.value.toNat : Int)]) (by kernel_rfl) (by kernel_rfl) (fun wQ (mQ : Mod (Nil) w2 wQ) => (hB4_w5.mod mQ (fun q => q)).sub 0) (by kernel_rfl) ?_
        refine m_Q (by kernel_rfl) ?_
        refine st_fn (d := 27) (f := 161) (xs := #[.agg #[.int .i64 m.kind.toInt, .int .i64 m.time.toInt, .int .i64 m.cls.toInt, .int .u8 (m.high.toNat : Int), .int .i64 m.bank.toInt, .int .i64 m.place.toInt, .int .u8 (m.value.toNat : Int)]]) (R := _) (by kernel_rfl) (fit_screen_ok (w := w19) (m := m) ) ?_
        rintro vw45 w45 ⟨d44, hsp46, hv47, m48⟩
        replace hB4 := hB4.mod m48 (fun q => q)
        replace HM := HM.tr0 m48
        have hszw45 := m48.size
        have HC49 := HC22.tr0 m48
        refine st_end (m_after HC49 ?_)
        by_cases h50 : d44 = true
        ·skip
         have hb51 : (d44) = true := by simpa using h50
         rw [hb51] at hv47; subst hv47
         refine m_p (k := 25) (n := 2) (fuel := 0) (L := [(28, .bool false), (29, .bool false)]) (by kernel_rfl) (by kernel_rfl) rfl ?_
         refine m_end ?_
         refine then_n ?_
         refine c_false (by kernel_rfl) ?_
         refine wp_skip ?_
         refine then_n ?_
         refine wp_seq ?_
         refine c_region (L := [0]) (by kernel_rfl) ?_
         refine st_pure (l := [0]) (rest := []) (L := [(2, .int .i64 0)]) rfl (by kernel_rfl) ?_
         refine st_end ?_
         refine then_n ?_
         refine wp_ret ?_
         refine post_ret (v := .int .i64 0) (by kernel_rfl) ?_
         refine ⟨0, ?_, rfl, ?_, HM⟩
         ·rw [chk, if_neg h7, if_neg h10, if_neg h13, if_neg h16, if_neg hi23, if_neg hi33, if_pos hi43]
          try simp only [hsp46]
          rw [if_pos h50]
          all_goals (try rfl)
         ·omega
        ·skip
         have hb52 : (d44) = false := by simpa using h50
         rw [hb52] at hv47; subst hv47
         refine m_p (k := 25) (n := 2) (fuel := 0) (L := [(28, .bool true), (29, .bool true)]) (by kernel_rfl) (by kernel_rfl) rfl ?_
         refine m_end ?_
         refine then_n ?_
         refine c_true (by kernel_rfl) ?_
         refine wp_seq ?_
         refine c_region (L := [0]) (by kernel_rfl) ?_
         refine st_pure (l := [0]) (rest := []) (L := [(2, .int .i64 2)]) rfl (by kernel_rfl) ?_
         refine st_end ?_
         refine then_n ?_
         refine wp_ret ?_
         refine then_r ?_
         refine post_ret (v := .int .i64 2) (by kernel_rfl) ?_
         refine ⟨2, ?_, rfl, ?_, HM⟩
         ·rw [chk, if_neg h7, if_neg h10, if_neg h13, if_neg h16, if_neg hi23, if_neg hi33, if_pos hi43]
          try simp only [hsp46]
          rw [if_neg h50]
          all_goals (try rfl)
         ·omega
       ·skip
        by_cases hi53 : m.kind.toInt = 4
        ·skip
         refine m_comes (d := 25) (v := .func (.func 158) #[] #[]) (by kernel_rfl) (fun wQ (mQ : Mod (Nil) w2 wQ) => (comes_index (t := 153) (x := .agg #[.nilFunc, .func (.func 159) #[] #[], .func (.func 160) #[] #[], .func (.func 161) #[] #[], .func (.func 158) #[] #[], .func (.func 158) #[] #[], .func (.func 162) #[] #[]]) (v := .func (.func 158) #[] #[]) (k := .i64) (ix := m.kind.toInt) 4 (by kernel_rfl) hi53 (by kernel_rfl))) HC22 ?_
         refine m_load (d := 26) (t := 35) (b := b1) (o := 0) (v := .agg #[.int .i64 m.kind.toInt, .int .i64 m.time.toInt, .int .i64 m.cls.toInt, .int .u8 (m.high.toNat : Int), .int .i64 m.bank.toInt, .int .i64 m.place.toInt, .int .u8 (m.value.toNat : Int)]) (by kernel_rfl) (by kernel_rfl) (fun wQ (mQ : Mod (Nil) w2 wQ) => (hB4_w5.mod mQ (fun q => q)).sub 0) (by kernel_rfl) ?_
         refine m_Q (by kernel_rfl) ?_
         refine st_fn (d := 27) (f := 158) (xs := #[.agg #[.int .i64 m.kind.toInt, .int .i64 m.time.toInt, .int .i64 m.cls.toInt, .int .u8 (m.high.toNat : Int), .int .i64 m.bank.toInt, .int .i64 m.place.toInt, .int .u8 (m.value.toNat : Int)]]) (R := _) (by kernel_rfl) (fit_none_ok (w := w19) (m := m) ) ?_
         rintro vw55 w55 ⟨d54, hsp56, hv57, m58⟩
         replace hB4 := hB4.mod m58 (fun q => q)
         replace HM := HM.tr0 m58
         have hszw55 := m58.size
         have HC59 := HC22.tr0 m58
         refine st_end (m_after HC59 ?_)
         by_cases h60 : d54 = true
         ·skip
          have hb61 : (d54) = true := by simpa using h60
          rw [hb61] at hv57; subst hv57
          refine m_p (k := 25) (n := 2) (fuel := 0) (L := [(28, .bool false), (29, .bool false)]) (by kernel_rfl) (by kernel_rfl) rfl ?_
          refine m_end ?_
          refine then_n ?_
          refine c_false (by kernel_rfl) ?_
          refine wp_skip ?_
          refine then_n ?_
          refine wp_seq ?_
          refine c_region (L := [0]) (by kernel_rfl) ?_
          refine st_pure (l := [0]) (rest := []) (L := [(2, .int .i64 0)]) rfl (by kernel_rfl) ?_
          refine st_end ?_
          refine then_n ?_
          refine wp_ret ?_
          refine post_ret (v := .int .i64 0) (by kernel_rfl) ?_
          refine ⟨0, ?_, rfl, ?_, HM⟩
          ·rw [chk, if_neg h7, if_neg h10, if_neg h13, if_neg h16, if_neg hi23, if_neg hi33, if_neg hi43, if_pos hi53]
           try simp only [hsp56]
           rw [if_pos h60]
           all_goals (try rfl)
          ·omega
         ·skip
          have hb62 : (d54) = false := by simpa using h60
          rw [hb62] at hv57; subst hv57
          refine m_p (k := 25) (n := 2) (fuel := 0) (L := [(28, .bool true), (29, .bool true)]) (by kernel_rfl) (by kernel_rfl) rfl ?_
          refine m_end ?_
          refine then_n ?_
          refine c_true (by kernel_rfl) ?_
          refine wp_seq ?_
          refine c_region (L := [0]) (by kernel_rfl) ?_
          refine st_pure (l := [0]) (rest := []) (L := [(2, .int .i64 2)]) rfl (by kernel_rfl) ?_
          refine st_end ?_
          refine then_n ?_
          refine wp_ret ?_
          refine then_r ?_
          refine post_ret (v := .int .i64 2) (by kernel_rfl) ?_
          refine ⟨2, ?_, rfl, ?_, HM⟩
          ·rw [chk, if_neg h7, if_neg h10, if_neg h13, if_neg h16, if_neg hi23, if_neg hi33, if_neg hi43, if_pos hi53]
           try simp only [hsp56]
           rw [if_neg h60]
           all_goals (try rfl)
          ·omega
        ·skip
         by_cases hi63 : m.kind.toInt = 5
         ·skip
          refine m_comes (d := 25) (v := .func (.func 158) #[] #[]) (by kernel_rfl) (fun wQ (mQ : Mod (Nil) w2 wQ) => (comes_index (t := 153) (x := .agg #[.nilFunc, .func (.func 159) #[] #[], .func (.func 160) #[] #[], .func (.func 161) #[] #[], .func (.func 158) #[] #[], .func (.func 158) #[] #[], .func (.func 162) #[] #[]]) (v := .func (.func 158) #[] #[]) (k := .i64) (ix := m.kind.toInt) 5 (by kernel_rfl) hi63 (by kernel_rfl))) HC22 ?_
          refine m_load (d := 26) (t := 35) (b := b1) (o := 0) (v := .agg #[.int .i64 m.kind.toInt, .int .i64 m.time.toInt, .int .i64 m.cls.toInt, .int .u8 (m.high.toNat : Int), .int .i64 m.bank.toInt, .int .i64 m.place.toInt, .int .u8 (m.value.toNat : Int)]) (by kernel_rfl) (by kernel_rfl) (fun wQ (mQ : Mod (Nil) w2 wQ) => (hB4_w5.mod mQ (fun q => q)).sub 0) (by kernel_rfl) ?_
          refine m_Q (by kernel_rfl) ?_
          refine st_fn (d := 27) (f := 158) (xs := #[.agg #[.int .i64 m.kind.toInt, .int .i64 m.time.toInt, .int .i64 m.cls.toInt, .int .u8 (m.high.toNat : Int), .int .i64 m.bank.toInt, .int .i64 m.place.toInt, .int .u8 (m.value.toNat : Int)]]) (R := _) (by kernel_rfl) (fit_none_ok (w := w19) (m := m) ) ?_
          rintro vw65 w65 ⟨d64, hsp66, hv67, m68⟩
          replace hB4 := hB4.mod m68 (fun q => q)
          replace HM := HM.tr0 m68
          have hszw65 := m68.size
          have HC69 := HC22.tr0 m68
          refine st_end (m_after HC69 ?_)
          by_cases h70 : d64 = true
          ·skip
           have hb71 : (d64) = true := by simpa using h70
           rw [hb71] at hv67; subst hv67
           refine m_p (k := 25) (n := 2) (fuel := 0) (L := [(28, .bool false), (29, .bool false)]) (by kernel_rfl) (by kernel_rfl) rfl ?_
           refine m_end ?_
           refine then_n ?_
           refine c_false (by kernel_rfl) ?_
           refine wp_skip ?_
           refine then_n ?_
           refine wp_seq ?_
           refine c_region (L := [0]) (by kernel_rfl) ?_
           refine st_pure (l := [0]) (rest := []) (L := [(2, .int .i64 0)]) rfl (by kernel_rfl) ?_
           refine st_end ?_
           refine then_n ?_
           refine wp_ret ?_
           refine post_ret (v := .int .i64 0) (by kernel_rfl) ?_
           refine ⟨0, ?_, rfl, ?_, HM⟩
           ·rw [chk, if_neg h7, if_neg h10, if_neg h13, if_neg h16, if_neg hi23, if_neg hi33, if_neg hi43, if_neg hi53, if_pos hi63]
            try simp only [hsp66]
            rw [if_pos h70]
            all_goals (try rfl)
           ·omega
          ·skip
           have hb72 : (d64) = false := by simpa using h70
           rw [hb72] at hv67; subst hv67
           refine m_p (k := 25) (n := 2) (fuel := 0) (L := [(28, .bool true), (29, .bool true)]) (by kernel_rfl) (by kernel_rfl) rfl ?_
           refine m_end ?_
           refine then_n ?_
           refine c_true (by kernel_rfl) ?_
           refine wp_seq ?_
           refine c_region (L := [0]) (by kernel_rfl) ?_
           refine st_pure (l := [0]) (rest := []) (L := [(2, .int .i64 2)]) rfl (by kernel_rfl) ?_
           refine st_end ?_
           refine then_n ?_
           refine wp_ret ?_
           refine then_r ?_
           refine post_ret (v := .int .i64 2) (by kernel_rfl) ?_
           refine ⟨2, ?_, rfl, ?_, HM⟩
           ·rw [chk, if_neg h7, if_neg h10, if_neg h13, if_neg h16, if_neg hi23, if_neg hi33, if_neg hi43, if_neg hi53, if_pos hi63]
            try simp only [hsp66]
            rw [if_neg h70]
            all_goals (try rfl)
           ·omega
         ·skip
          have hi73 : m.kind.toInt = 6 := by omega
          refine m_comes (d := 25) (v := .func (.func 162) #[] #[]) (by kernel_rfl) (fun wQ (mQ : Mod (Nil) w2 wQ) => (comes_index (t := 153) (x := .agg #[.nilFunc, .func (.func 159) #[] #[], .func (.func 160) #[] #[], .func (.func 161) #[] #[], .func (.func 158) #[] #[], .func (.func 158) #[] #[], .func (.func 162) #[] #[]]) (v := .func (.func 162) #[] #[]) (k := .i64) (ix := m.kind.toInt) 6 (by kernel_rfl) hi73 (by kernel_rfl))) HC22 ?_
          refine m_load (d := 26) (t := 35) (b := b1) (o := 0) (v := .agg #[.int .i64 m.kind.toInt, .int .i64 m.time.toInt, .int .i64 m.cls.toInt, .int .u8 (m.high.toNat : Int), .int .i64 m.bank.toInt, .int .i64 m.place.toInt, .int .u8 (m.value.toNat : Int)]) (by kernel_rfl) (by kernel_rfl) (fun wQ (mQ : Mod (Nil) w2 wQ) => (hB4_w5.mod mQ (fun q => q)).sub 0) (by kernel_rfl) ?_
          refine m_Q (by kernel_rfl) ?_
          refine st_fn (d := 27) (f := 162) (xs := #[.agg #[.int .i64 m.kind.toInt, .int .i64 m.time.toInt, .int .i64 m.cls.toInt, .int .u8 (m.high.toNat : Int), .int .i64 m.bank.toInt, .int .i64 m.place.toInt, .int .u8 (m.value.toNat : Int)]]) (R := _) (by kernel_rfl) (fit_reply_ok (w := w19) (m := m) ) ?_
          rintro vw75 w75 ⟨d74, hsp76, hv77, m78⟩
          replace hB4 := hB4.mod m78 (fun q => q)
          replace HM := HM.tr0 m78
          have hszw75 := m78.size
          have HC79 := HC22.tr0 m78
          refine st_end (m_after HC79 ?_)
          by_cases h80 : d74 = true
          ·skip
           have hb81 : (d74) = true := by simpa using h80
           rw [hb81] at hv77; subst hv77
           refine m_p (k := 25) (n := 2) (fuel := 0) (L := [(28, .bool false), (29, .bool false)]) (by kernel_rfl) (by kernel_rfl) rfl ?_
           refine m_end ?_
           refine then_n ?_
           refine c_false (by kernel_rfl) ?_
           refine wp_skip ?_
           refine then_n ?_
           refine wp_seq ?_
           refine c_region (L := [0]) (by kernel_rfl) ?_
           refine st_pure (l := [0]) (rest := []) (L := [(2, .int .i64 0)]) rfl (by kernel_rfl) ?_
           refine st_end ?_
           refine then_n ?_
           refine wp_ret ?_
           refine post_ret (v := .int .i64 0) (by kernel_rfl) ?_
           refine ⟨0, ?_, rfl, ?_, HM⟩
           ·rw [chk, if_neg h7, if_neg h10, if_neg h13, if_neg h16, if_neg hi23, if_neg hi33, if_neg hi43, if_neg hi53, if_neg hi63]
            try simp only [hsp76]
            rw [if_pos h80]
            all_goals (try rfl)
           ·omega
          ·skip
           have hb82 : (d74) = false := by simpa using h80
           rw [hb82] at hv77; subst hv77
           refine m_p (k := 25) (n := 2) (fuel := 0) (L := [(28, .bool true), (29, .bool true)]) (by kernel_rfl) (by kernel_rfl) rfl ?_
           refine m_end ?_
           refine then_n ?_
           refine c_true (by kernel_rfl) ?_
           refine wp_seq ?_
           refine c_region (L := [0]) (by kernel_rfl) ?_
           refine st_pure (l := [0]) (rest := []) (L := [(2, .int .i64 2)]) rfl (by kernel_rfl) ?_
           refine st_end ?_
           refine then_n ?_
           refine wp_ret ?_
           refine then_r ?_
           refine post_ret (v := .int .i64 2) (by kernel_rfl) ?_
           refine ⟨2, ?_, rfl, ?_, HM⟩
           ·rw [chk, if_neg h7, if_neg h10, if_neg h13, if_neg h16, if_neg hi23, if_neg hi33, if_neg hi43, if_neg hi53, if_neg hi63]
            try simp only [hsp76]
            rw [if_neg h80]
            all_goals (try rfl)
           ·omega

theorem New_ok {w : World} {room : Int} (room_r : -9223372036854775808 ≤ room ∧ room ≤ 9223372036854775807) (hroom : 1 ≤ room ∧ room ≤ 4096) :
  Ret Try.prog 13 #[.int .i64 room] w fun v w' => ∃ r : Nat, ∃ A2 : Option Addr, ∃ c2 : Nat, ∃ lo2 : Nat, ∃ hi2 : Nat, ∃ ring2 : List Msg, v = .tuple #[.pointer (some ⟨r, 0, none⟩), .int .i64 0] ∧ (A2 = none → c2 = 0) ∧ (ring2.length ≤ c2) ∧ (ring2 = List.replicate room.toNat Msg.zero) ∧ (w.heap.size ≤ lo2 ∧ lo2 ≤ hi2 ∧ hi2 ≤ r ∧ r < w'.heap.size) ∧ Blk w' r 147 [.slice A2 ring2.length c2, .int .i64 0, .int .i64 0, .int .i64 0, .bool false] ∧ Own tyMsg 35 w' lo2 hi2 (.slice A2 ring2.length c2) ring2 ∧ Mod (Nil) w w' := by
 have HM : Mod (Nil) w w := Mod.refl _ w
 refine ret_of Try.func13 rfl rfl ?_
 refine wp_seq ?_
 refine c_region (L := [0, 1]) (by kernel_rfl) ?_
 refine st_pure (l := [0, 1]) (rest := []) (L := [(2, .pointer none), (3, .int .i64 0)]) rfl (by kernel_rfl) ?_
 refine st_end ?_
 refine then_n ?_
 refine wp_seq ?_
 refine wp_seq ?_
 refine c_region (L := [0, 1, 2, 3, 4, 5]) (by kernel_rfl) ?_
 have hd1 : ¬ (room < 1) := by omega
 have hb2 : (decide (room < 1)) = false := decide_eq_false hd1
 refine st_pure (l := [0, 1]) (rest := [2, 3, 4, 5]) (L := [(4, .int .i64 room), (5, .bool false)]) rfl (Eq.trans (b := some [(4, .int .i64 room), (5, .bool (decide (room < 1)))]) (by kernel_rfl) (by simp only [hb2])) ?_
 have hd3 : ¬ (room > 4096) := by omega
 have hb4 : (decide (room > 4096)) = false := decide_eq_false hd3
 refine st_pure (l := [2, 3, 4]) (rest := [5]) (L := [(6, .bool false), (7, .int .i64 room), (8, .bool false)]) rfl (Eq.trans (b := some [(6, .bool false), (7, .int .i64 room), (8, .bool (decide (room > 4096)))]) (by kernel_rfl) (by simp only [hb4])) ?_
 refine st_pure (l := [5]) (rest := []) (L := [(9, .bool false)]) rfl (by kernel_rfl) ?_
 refine st_end ?_
 refine then_n ?_
 refine c_false (by kernel_rfl) ?_
 refine wp_skip ?_
 refine then_n ?_
 refine wp_seq ?_
 refine c_region (L := [0, 1, 2, 3, 4, 5]) (by kernel_rfl) ?_
 refine st_pure (l := [0]) (rest := [1, 2, 3, 4, 5]) (L := [(10, .int .i64 room)]) rfl (by kernel_rfl) ?_
 refine st_make2 (d := 11) (tn := 45) (e := 35) (t := tyMsg) (bytes := 56) (k := .i64) (k' := .i64) (n := room) (z := .agg #[.int .i64 0, .int .i64 0, .int .i64 0, .int .u8 0, .int .i64 0, .int .i64 0, .int .u8 0]) (x := Msg.zero) (by kernel_rfl) Try.underlying45 (by kernel_rfl) rfl (by omega) (by omega) (by decide) ?_
 intro A5 c6 l7 w8 m9 hl10 hn11 hO12
 replace HM := HM.tr0 m9
 have hszw8 := m9.size
 obtain ⟨-, A5_c, A5_n, hR13⟩ := hO12.rdSelf
 have hR13_l := hR13.len
 refine st_pure (l := [2]) (rest := [3, 4, 5]) (L := [(12, .agg #[.slice A5 l7.length c6, .int .i64 0, .int .i64 0, .int .i64 0, .bool false])]) rfl (by kernel_rfl) ?_
 refine st_new (d := 13) (e := 147) (C := [.slice A5 l7.length c6, .int .i64 0, .int .i64 0, .int .i64 0, .bool false]) (V := fun r => .pointer (some ⟨r, 0, none⟩)) (by kernel_rfl) ?_
 intro b14 w15 m16 lb14 ub14 hB17
 replace hO12 := hO12.mod0 m16
 replace hR13 := hR13.mod0 m16
 replace HM := HM.tr0 m16
 have hszw15 := m16.size
 refine st_pure (l := [4, 5]) (rest := []) (L := [(2, .pointer (some ⟨b14, 0, none⟩)), (3, .int .i64 0)]) rfl (by kernel_rfl) ?_
 refine st_end ?_
 refine then_n ?_
 refine wp_ret ?_
 refine post_ret (v := .tuple #[.pointer (some ⟨b14, 0, none⟩), .int .i64 0]) (by kernel_rfl) ?_
 refine ⟨b14, A5, c6, w.heap.size, w8.heap.size, l7, rfl, ?_, ?_, ?_, ?_, hB17, hO12, HM⟩
 ·exact A5_n
 ·first | exact A5_c | omega
 ·exact hl10.symm
 ·omega

theorem New_no {w : World} {room : Int} (room_r : -9223372036854775808 ≤ room ∧ room ≤ 9223372036854775807) (hroom : ¬ (1 ≤ room ∧ room ≤ 4096)) :
  Ret Try.prog 13 #[.int .i64 room] w fun v w' => v = .tuple #[.pointer none, .int .i64 2] ∧ Mod (Nil) w w' := by
 have HM : Mod (Nil) w w := Mod.refl _ w
 refine ret_of Try.func13 rfl rfl ?_
 refine wp_seq ?_
 refine c_region (L := [0, 1]) (by kernel_rfl) ?_
 refine st_pure (l := [0, 1]) (rest := []) (L := [(2, .pointer none), (3, .int .i64 0)]) rfl (by kernel_rfl) ?_
 refine st_end ?_
 refine then_n ?_
 refine wp_seq ?_
 refine wp_seq ?_
 refine c_region (L := [0, 1, 2, 3, 4, 5]) (by kernel_rfl) ?_
 by_cases h1 : room < 1
 ·skip
  have hb2 : (decide (room < 1)) = true := decide_eq_true h1
  refine st_pure (l := [0, 1, 2]) (rest := [3, 4, 5]) (L := [(4, .int .i64 room), (5, .bool (decide (room < 1))), (6, .bool true)]) rfl (Eq.trans (b := some [(4, .int .i64 room), (5, .bool (decide (room < 1))), (6, .bool (decide (room < 1)))]) (by kernel_rfl) (by simp only [hb2])) ?_
  refine st_pure (l := [3, 4, 5]) (rest := []) (L := [(7, undef), (8, undef), (9, .bool true)]) rfl (by kernel_rfl) ?_
  refine st_end ?_
  refine then_n ?_
  refine c_true (by kernel_rfl) ?_
  refine wp_seq ?_
  refine c_region (L := [0, 1]) (by kernel_rfl) ?_
  refine st_pure (l := [0, 1]) (rest := []) (L := [(2, .pointer none), (3, .int .i64 2)]) rfl (by kernel_rfl) ?_
  refine st_end ?_
  refine then_n ?_
  refine wp_ret ?_
  refine then_r ?_
  refine post_ret (v := .tuple #[.pointer none, .int .i64 2]) (by kernel_rfl) ?_
  refine ⟨rfl, HM⟩
 ·skip
  have hb3 : (decide (room < 1)) = false := decide_eq_false h1
  refine st_pure (l := [0, 1, 2]) (rest := [3, 4, 5]) (L := [(4, .int .i64 room), (5, .bool (decide (room < 1))), (6, .bool false)]) rfl (Eq.trans (b := some [(4, .int .i64 room), (5, .bool (decide (room < 1))), (6, .bool (decide (room < 1)))]) (by kernel_rfl) (by simp only [hb3])) ?_
  by_cases h4 : room > 4096
  ·skip
   have hb5 : (decide (room > 4096)) = true := decide_eq_true h4
   refine st_pure (l := [3, 4, 5]) (rest := []) (L := [(7, .int .i64 room), (8, .bool (decide (room > 4096))), (9, .bool true)]) rfl (Eq.trans (b := some [(7, .int .i64 room), (8, .bool (decide (room > 4096))), (9, .bool (decide (room > 4096)))]) (by kernel_rfl) (by simp only [hb5])) ?_
   refine st_end ?_
   refine then_n ?_
   refine c_true (by kernel_rfl) ?_
   refine wp_seq ?_
   refine c_region (L := [0, 1]) (by kernel_rfl) ?_
   refine st_pure (l := [0, 1]) (rest := []) (L := [(2, .pointer none), (3, .int .i64 2)]) rfl (by kernel_rfl) ?_
   refine st_end ?_
   refine then_n ?_
   refine wp_ret ?_
   refine then_r ?_
   refine post_ret (v := .tuple #[.pointer none, .int .i64 2]) (by kernel_rfl) ?_
   refine ⟨rfl, HM⟩
  ·skip
   have hb6 : (decide (room > 4096)) = false := decide_eq_false h4
   refine st_pure (l := [3, 4, 5]) (rest := []) (L := [(7, .int .i64 room), (8, .bool (decide (room > 4096))), (9, .bool false)]) rfl (Eq.trans (b := some [(7, .int .i64 room), (8, .bool (decide (room > 4096))), (9, .bool (decide (room > 4096)))]) (by kernel_rfl) (by simp only [hb6])) ?_
   refine st_end ?_
   refine then_n ?_
   refine c_false (by kernel_rfl) ?_
   refine wp_skip ?_
   refine then_n ?_
   refine wp_seq ?_
   refine c_region (L := [0, 1, 2, 3, 4, 5]) (by kernel_rfl) ?_
   refine st_pure (l := [0]) (rest := [1, 2, 3, 4, 5]) (L := [(10, .int .i64 room)]) rfl (by kernel_rfl) ?_
   refine st_make2 (d := 11) (tn := 45) (e := 35) (t := tyMsg) (bytes := 56) (k := .i64) (k' := .i64) (n := room) (z := .agg #[.int .i64 0, .int .i64 0, .int .i64 0, .int .u8 0, .int .i64 0, .int .i64 0, .int .u8 0]) (x := Msg.zero) (by kernel_rfl) Try.underlying45 (by kernel_rfl) rfl (by omega) (by omega) (by decide) ?_
   intro A7 c8 l9 w10 m11 hl12 hn13 hO14
   replace HM := HM.tr0 m11
   have hszw10 := m11.size
   obtain ⟨-, A7_c, A7_n, hR15⟩ := hO14.rdSelf
   have hR15_l := hR15.len
   refine st_pure (l := [2]) (rest := [3, 4, 5]) (L := [(12, .agg #[.slice A7 l9.length c8, .int .i64 0, .int .i64 0, .int .i64 0, .bool false])]) rfl (by kernel_rfl) ?_
   refine st_new (d := 13) (e := 147) (C := [.slice A7 l9.length c8, .int .i64 0, .int .i64 0, .int .i64 0, .bool false]) (V := fun r => .pointer (some ⟨r, 0, none⟩)) (by kernel_rfl) ?_
   intro b16 w17 m18 lb16 ub16 hB19
   replace hO14 := hO14.mod0 m18
   replace hR15 := hR15.mod0 m18
   replace HM := HM.tr0 m18
   have hszw17 := m18.size
   refine st_pure (l := [4, 5]) (rest := []) (L := [(2, .pointer (some ⟨b16, 0, none⟩)), (3, .int .i64 0)]) rfl (by kernel_rfl) ?_
   refine st_end ?_
   refine then_n ?_
   refine wp_ret ?_
   refine post_ret (v := .tuple #[.pointer (some ⟨b16, 0, none⟩), .int .i64 0]) (by kernel_rfl) ?_
   exfalso; omega

theorem made_ok {w : World} {r : Nat} {A : Option Addr} {cA : Nat} {ring : List Msg} {fr : Int} {ct : Int} {mk : Int} {en : Bool} (hr : Blk w r 147 [.slice A ring.length cA, .int .i64 fr, .int .i64 ct, .int .i64 mk, .bool en]) (A_n : A = none → cA = 0) (A_c : ring.length ≤ cA) (fr_r : 0 ≤ fr ∧ fr ≤ 4096) (ct_r : 0 ≤ ct ∧ ct ≤ 4096) (mk_r : -9223372036854775808 ≤ mk ∧ mk ≤ 9223372036854775807) (hlen : 0 < ring.length ∧ ring.length ≤ 4096 ∧ fr < ring.length ∧ ct ≤ ring.length) :
  Ret Try.prog 106 #[.pointer (some ⟨r, 0, none⟩)] w fun v w' => v = .bool true ∧ Mod (Nil) w w' := by
 have lt_hr := hr.lt
 have HM : Mod (Nil) w w := Mod.refl _ w
 refine ret_of Try.func106 rfl rfl ?_
 refine wp_seq ?_
 refine c_region (L := [0]) (by kernel_rfl) ?_
 refine st_pure (l := [0]) (rest := []) (L := [(2, .bool false)]) rfl (by kernel_rfl) ?_
 refine st_end ?_
 refine then_n ?_
 refine wp_seq ?_
 refine c_region (L := [0, 1, 2, 3, 4, 5, 6, 7, 8, 9, 10]) (by kernel_rfl) ?_
 refine st_pure (l := [0, 1, 2, 3, 4, 5]) (rest := [6, 7, 8, 9, 10]) (L := [(3, .pointer (some ⟨r, 0, none⟩)), (4, .bool true), (5, .bool true), (6, .pointer (some ⟨r, 0, none⟩)), (7, .pointer (some ⟨r, 0, none⟩)), (8, .pointer (some ⟨r, 0, none⟩))]) rfl (by kernel_rfl) ?_
 refine st_load (d := 9) (t := 45) (cs := _) (v := .slice A ring.length cA) (by kernel_rfl) (hr.sub 0) (by kernel_rfl) ?_
 have hd1 : (ring.length : Int) > 0 := by omega
 have hb2 : (decide ((ring.length : Int) > 0)) = true := decide_eq_true hd1
 refine st_pure (l := [7, 8]) (rest := [9, 10]) (L := [(10, .int .i64 (ring.length : Int)), (11, .bool true)]) rfl (Eq.trans (b := some [(10, .int .i64 (ring.length : Int)), (11, .bool (decide ((ring.length : Int) > 0)))]) (by kernel_rfl) (by simp only [hb2])) ?_
 refine st_pure (l := [9, 10]) (rest := []) (L := [(12, .bool true), (2, .bool true)]) rfl (by kernel_rfl) ?_
 refine st_end ?_
 refine then_n ?_
 refine wp_ret ?_
 refine post_ret (v := .bool true) (by kernel_rfl) ?_
 refine ⟨rfl, HM⟩

theorem Len_ok {w : World} {r : Nat} {A : Option Addr} {cA : Nat} {ring : List Msg} {fr : Int} {ct : Int} {mk : Int} {en : Bool} (hr : Blk w r 147 [.slice A ring.length cA, .int .i64 fr, .int .i64 ct, .int .i64 mk, .bool en]) (A_n : A = none → cA = 0) (A_c : ring.length ≤ cA) (fr_r : 0 ≤ fr ∧ fr ≤ 4096) (ct_r : 0 ≤ ct ∧ ct ≤ 4096) (mk_r : -9223372036854775808 ≤ mk ∧ mk ≤ 9223372036854775807) (hlen : 0 < ring.length ∧ ring.length ≤ 4096 ∧ fr < ring.length ∧ ct ≤ ring.length) :
  Ret Try.prog 26 #[.pointer (some ⟨r, 0, none⟩)] w fun v w' => v = .int .i64 ct ∧ Mod (Nil) w w' := by
 have lt_hr := hr.lt
 have HM : Mod (Nil) w w := Mod.refl _ w
 refine ret_of Try.func26 rfl rfl ?_
 refine wp_seq ?_
 refine c_region (L := [0]) (by kernel_rfl) ?_
 refine st_pure (l := [0]) (rest := []) (L := [(2, .int .i64 0)]) rfl (by kernel_rfl) ?_
 refine st_end ?_
 refine then_n ?_
 refine wp_seq ?_
 refine wp_seq ?_
 refine c_region (L := [0, 1, 2]) (by kernel_rfl) ?_
 refine st_pure (l := [0]) (rest := [1, 2]) (L := [(3, .pointer (some ⟨r, 0, none⟩))]) rfl (by kernel_rfl) ?_
 refine st_fn (d := 4) (f := 106) (xs := #[.pointer (some ⟨r, 0, none⟩)]) (R := _) (by kernel_rfl) (made_ok (w := w) (r := r) (A := A) (cA := cA) (ring := ring) (fr := fr) (ct := ct) (mk := mk) (en := en) (hr := hr) (A_n := A_n) (A_c := by first | exact A_c | omega) (fr_r := by omega) (ct_r := by omega) (mk_r := by omega) (hlen := by first | omega | (simp only [List.length_cons, List.length_nil, List.length_append, List.length_take, List.length_drop] at *; omega))) ?_
 rintro vw1 w1 ⟨rfl, m3⟩
 replace hr := hr.mod m3 (fun q => q)
 replace HM := HM.tr0 m3
 have hszw1 := m3.size
 refine st_pure (l := [2]) (rest := []) (L := [(5, .bool false)]) rfl (by kernel_rfl) ?_
 refine st_end ?_
 refine then_n ?_
 refine c_false (by kernel_rfl) ?_
 refine wp_skip ?_
 refine then_n ?_
 refine wp_seq ?_
 refine c_region (L := [0, 1, 2, 3, 4]) (by kernel_rfl) ?_
 refine st_pure (l := [0, 1, 2]) (rest := [3, 4]) (L := [(6, .pointer (some ⟨r, 0, none⟩)), (7, .pointer (some ⟨r, 0, none⟩)), (8, .pointer (some ⟨r, 2, none⟩))]) rfl (by kernel_rfl) ?_
 refine st_load (d := 9) (t := 3) (cs := _) (v := .int .i64 ct) (by kernel_rfl) (hr.sub 2) (by kernel_rfl) ?_
 refine st_pure (l := [4]) (rest := []) (L := [(2, .int .i64 ct)]) rfl (by kernel_rfl) ?_
 refine st_end ?_
 refine then_n ?_
 refine wp_ret ?_
 refine post_ret (v := .int .i64 ct) (by kernel_rfl) ?_
 refine ⟨rfl, HM⟩

theorem Room_ok {w : World} {r : Nat} {A : Option Addr} {cA : Nat} {ring : List Msg} {fr : Int} {ct : Int} {mk : Int} {en : Bool} (hr : Blk w r 147 [.slice A ring.length cA, .int .i64 fr, .int .i64 ct, .int .i64 mk, .bool en]) (A_n : A = none → cA = 0) (A_c : ring.length ≤ cA) (fr_r : 0 ≤ fr ∧ fr ≤ 4096) (ct_r : 0 ≤ ct ∧ ct ≤ 4096) (mk_r : -9223372036854775808 ≤ mk ∧ mk ≤ 9223372036854775807) (hlen : 0 < ring.length ∧ ring.length ≤ 4096 ∧ fr < ring.length ∧ ct ≤ ring.length) :
  Ret Try.prog 27 #[.pointer (some ⟨r, 0, none⟩)] w fun v w' => v = .int .i64 ((ring.length : Int) - ct) ∧ Mod (Nil) w w' := by
 have lt_hr := hr.lt
 have HM : Mod (Nil) w w := Mod.refl _ w
 refine ret_of Try.func27 rfl rfl ?_
 refine wp_seq ?_
 refine c_region (L := [0]) (by kernel_rfl) ?_
 refine st_pure (l := [0]) (rest := []) (L := [(2, .int .i64 0)]) rfl (by kernel_rfl) ?_
 refine st_end ?_
 refine then_n ?_
 refine wp_seq ?_
 refine wp_seq ?_
 refine c_region (L := [0, 1, 2]) (by kernel_rfl) ?_
 refine st_pure (l := [0]) (rest := [1, 2]) (L := [(3, .pointer (some ⟨r, 0, none⟩))]) rfl (by kernel_rfl) ?_
 refine st_fn (d := 4) (f := 106) (xs := #[.pointer (some ⟨r, 0, none⟩)]) (R := _) (by kernel_rfl) (made_ok (w := w) (r := r) (A := A) (cA := cA) (ring := ring) (fr := fr) (ct := ct) (mk := mk) (en := en) (hr := hr) (A_n := A_n) (A_c := by first | exact A_c | omega) (fr_r := by omega) (ct_r := by omega) (mk_r := by omega) (hlen := by first | omega | (simp only [List.length_cons, List.length_nil, List.length_append, List.length_take, List.length_drop] at *; omega))) ?_
 rintro vw1 w1 ⟨rfl, m3⟩
 replace hr := hr.mod m3 (fun q => q)
 replace HM := HM.tr0 m3
 have hszw1 := m3.size
 refine st_pure (l := [2]) (rest := []) (L := [(5, .bool false)]) rfl (by kernel_rfl) ?_
 refine st_end ?_
 refine then_n ?_
 refine c_false (by kernel_rfl) ?_
 refine wp_skip ?_
 refine then_n ?_
 refine wp_seq ?_
 refine c_drawS (Nil) (Nil) [0, 1, 2, 3, 4, 5, 6, 7, 8, 9, 10] [] 0 (fun _ q => q) (by kernel_rfl) (n := 11) (by kernel_rfl) (by kernel_rfl) ?_
 intro w4 HGw4
 have hr_w4 := hr
 have HC5 : Mod (Nil) w1 w4 := Mod.weaken HGw4 fun _ _ q => q.elim
 replace hr := hr.mod HGw4 (fun q => q)
 replace HM := HM.tr0 HGw4
 have hszw4 := HGw4.size
 refine m_p (k := 0) (n := 3) (fuel := 8) (L := [(6, .pointer (some ⟨r, 0, none⟩)), (7, .pointer (some ⟨r, 0, none⟩)), (8, .pointer (some ⟨r, 0, none⟩))]) (by kernel_rfl) (by kernel_rfl) rfl ?_
 refine m_load (d := 9) (t := 45) (b := r) (o := 0) (v := .slice A ring.length cA) (by kernel_rfl) (by kernel_rfl) (fun wQ (mQ : Mod (Nil) w1 wQ) => (hr_w4.mod mQ (fun q => q)).sub 0) (by kernel_rfl) ?_
 refine m_p (k := 4) (n := 4) (fuel := 3) (L := [(10, .int .i64 (ring.length : Int)), (11, .pointer (some ⟨r, 0, none⟩)), (12, .pointer (some ⟨r, 0, none⟩)), (13, .pointer (some ⟨r, 2, none⟩))]) (by kernel_rfl) (by kernel_rfl) rfl ?_
 refine m_load (d := 14) (t := 3) (b := r) (o := 2) (v := .int .i64 ct) (by kernel_rfl) (by kernel_rfl) (fun wQ (mQ : Mod (Nil) w1 wQ) => (hr_w4.mod mQ (fun q => q)).sub 2) (by kernel_rfl) ?_
 have hw6 : IntKind.wrap .i64 ((ring.length : Int) - ct) = (ring.length : Int) - ct := wi64 (by omega) (by omega)
 refine m_p (k := 9) (n := 1) (fuel := 1) (L := [(15, .int .i64 ((ring.length : Int) - ct))]) (by kernel_rfl) (Eq.trans (b := some [(15, .int .i64 (IntKind.wrap .i64 ((ring.length : Int) - ct)))]) (by kernel_rfl) (by simp only [hw6])) rfl ?_
 refine m_p (k := 10) (n := 1) (fuel := 0) (L := [(2, .int .i64 ((ring.length : Int) - ct))]) (by kernel_rfl) (by kernel_rfl) rfl ?_
 refine m_end ?_
 refine then_n ?_
 refine wp_ret ?_
 refine post_ret (v := .int .i64 ((ring.length : Int) - ct)) (by kernel_rfl) ?_
 refine ⟨rfl, HM⟩

theorem Mark_ok {w : World} {r : Nat} {A : Option Addr} {cA : Nat} {ring : List Msg} {fr : Int} {ct : Int} {mk : Int} {en : Bool} (hr : Blk w r 147 [.slice A ring.length cA, .int .i64 fr, .int .i64 ct, .int .i64 mk, .bool en]) (A_n : A = none → cA = 0) (A_c : ring.length ≤ cA) (fr_r : 0 ≤ fr ∧ fr ≤ 4096) (ct_r : 0 ≤ ct ∧ ct ≤ 4096) (mk_r : -9223372036854775808 ≤ mk ∧ mk ≤ 9223372036854775807) (hlen : 0 < ring.length ∧ ring.length ≤ 4096 ∧ fr < ring.length ∧ ct ≤ ring.length) :
  Ret Try.prog 29 #[.pointer (some ⟨r, 0, none⟩)] w fun v w' => v = .int .i64 mk ∧ Mod (Nil) w w' := by
 have lt_hr := hr.lt
 have HM : Mod (Nil) w w := Mod.refl _ w
 refine ret_of Try.func29 rfl rfl ?_
 refine wp_seq ?_
 refine c_region (L := [0]) (by kernel_rfl) ?_
 refine st_pure (l := [0]) (rest := []) (L := [(2, .int .i64 0)]) rfl (by kernel_rfl) ?_
 refine st_end ?_
 refine then_n ?_
 refine wp_seq ?_
 refine wp_seq ?_
 refine c_region (L := [0, 1, 2]) (by kernel_rfl) ?_
 refine st_pure (l := [0]) (rest := [1, 2]) (L := [(3, .pointer (some ⟨r, 0, none⟩))]) rfl (by kernel_rfl) ?_
 refine st_fn (d := 4) (f := 106) (xs := #[.pointer (some ⟨r, 0, none⟩)]) (R := _) (by kernel_rfl) (made_ok (w := w) (r := r) (A := A) (cA := cA) (ring := ring) (fr := fr) (ct := ct) (mk := mk) (en := en) (hr := hr) (A_n := A_n) (A_c := by first | exact A_c | omega) (fr_r := by omega) (ct_r := by omega) (mk_r := by omega) (hlen := by first | omega | (simp only [List.length_cons, List.length_nil, List.length_append, List.length_take, List.length_drop] at *; omega))) ?_
 rintro vw1 w1 ⟨rfl, m3⟩
 replace hr := hr.mod m3 (fun q => q)
 replace HM := HM.tr0 m3
 have hszw1 := m3.size
 refine st_pure (l := [2]) (rest := []) (L := [(5, .bool false)]) rfl (by kernel_rfl) ?_
 refine st_end ?_
 refine then_n ?_
 refine c_false (by kernel_rfl) ?_
 refine wp_skip ?_
 refine then_n ?_
 refine wp_seq ?_
 refine c_region (L := [0, 1, 2, 3, 4]) (by kernel_rfl) ?_
 refine st_pure (l := [0, 1, 2]) (rest := [3, 4]) (L := [(6, .pointer (some ⟨r, 0, none⟩)), (7, .pointer (some ⟨r, 0, none⟩)), (8, .pointer (some ⟨r, 3, none⟩))]) rfl (by kernel_rfl) ?_
 refine st_load (d := 9) (t := 2) (cs := _) (v := .int .i64 mk) (by kernel_rfl) (hr.sub 3) (by kernel_rfl) ?_
 refine st_pure (l := [4]) (rest := []) (L := [(2, .int .i64 mk)]) rfl (by kernel_rfl) ?_
 refine st_end ?_
 refine then_n ?_
 refine wp_ret ?_
 refine post_ret (v := .int .i64 mk) (by kernel_rfl) ?_
 refine ⟨rfl, HM⟩

theorem Ended_ok {w : World} {r : Nat} {A : Option Addr} {cA : Nat} {ring : List Msg} {fr : Int} {ct : Int} {mk : Int} {en : Bool} (hr : Blk w r 147 [.slice A ring.length cA, .int .i64 fr, .int .i64 ct, .int .i64 mk, .bool en]) (A_n : A = none → cA = 0) (A_c : ring.length ≤ cA) (fr_r : 0 ≤ fr ∧ fr ≤ 4096) (ct_r : 0 ≤ ct ∧ ct ≤ 4096) (mk_r : -9223372036854775808 ≤ mk ∧ mk ≤ 9223372036854775807) (hlen : 0 < ring.length ∧ ring.length ≤ 4096 ∧ fr < ring.length ∧ ct ≤ ring.length) :
  Ret Try.prog 30 #[.pointer (some ⟨r, 0, none⟩)] w fun v w' => v = .bool en ∧ Mod (Nil) w w' := by
 have lt_hr := hr.lt
 have HM : Mod (Nil) w w := Mod.refl _ w
 refine ret_of Try.func30 rfl rfl ?_
 refine wp_seq ?_
 refine c_region (L := [0]) (by kernel_rfl) ?_
 refine st_pure (l := [0]) (rest := []) (L := [(2, .bool false)]) rfl (by kernel_rfl) ?_
 refine st_end ?_
 refine then_n ?_
 refine wp_seq ?_
 refine c_region (L := [0, 1, 2, 3, 4, 5, 6, 7, 8]) (by kernel_rfl) ?_
 refine st_pure (l := [0]) (rest := [1, 2, 3, 4, 5, 6, 7, 8]) (L := [(3, .pointer (some ⟨r, 0, none⟩))]) rfl (by kernel_rfl) ?_
 refine st_fn (d := 4) (f := 106) (xs := #[.pointer (some ⟨r, 0, none⟩)]) (R := _) (by kernel_rfl) (made_ok (w := w) (r := r) (A := A) (cA := cA) (ring := ring) (fr := fr) (ct := ct) (mk := mk) (en := en) (hr := hr) (A_n := A_n) (A_c := by first | exact A_c | omega) (fr_r := by omega) (ct_r := by omega) (mk_r := by omega) (hlen := by first | omega | (simp only [List.length_cons, List.length_nil, List.length_append, List.length_take, List.length_drop] at *; omega))) ?_
 rintro vw1 w1 ⟨rfl, m3⟩
 replace hr := hr.mod m3 (fun q => q)
 replace HM := HM.tr0 m3
 have hszw1 := m3.size
 refine st_pure (l := [2, 3, 4, 5]) (rest := [6, 7, 8]) (L := [(5, .bool true), (6, .pointer (some ⟨r, 0, none⟩)), (7, .pointer (some ⟨r, 0, none⟩)), (8, .pointer (some ⟨r, 4, none⟩))]) rfl (by kernel_rfl) ?_
 refine st_load (d := 9) (t := 4) (cs := _) (v := .bool en) (by kernel_rfl) (hr.sub 4) (by kernel_rfl) ?_
 refine st_pure (l := [7, 8]) (rest := []) (L := [(10, .bool en), (2, .bool en)]) rfl (by kernel_rfl) ?_
 refine st_end ?_
 refine then_n ?_
 refine wp_ret ?_
 refine post_ret (v := .bool en) (by kernel_rfl) ?_
 refine ⟨rfl, HM⟩

def fst1 (ring : List Msg) (fr : Int) (ct : Int) : Msg :=
 if ct = 0 then
  Msg.zero
 else
  match ring.getD fr.toNat Msg.zero with
  | x20 =>
   x20

theorem First_ok {w : World} {r : Nat} {A : Option Addr} {cA : Nat} {ring : List Msg} {fr : Int} {ct : Int} {mk : Int} {en : Bool} {lo : Nat} {hi : Nat} (hr : Blk w r 147 [.slice A ring.length cA, .int .i64 fr, .int .i64 ct, .int .i64 mk, .bool en]) (hq : RdA tyMsg w lo hi A ring) (A_n : A = none → cA = 0) (A_c : ring.length ≤ cA) (fr_r : 0 ≤ fr ∧ fr ≤ 4096) (ct_r : 0 ≤ ct ∧ ct ≤ 4096) (mk_r : -9223372036854775808 ≤ mk ∧ mk ≤ 9223372036854775807) (hq_hi : hi ≤ w.heap.size) (hlen : 0 < ring.length ∧ ring.length ≤ 4096 ∧ fr < ring.length ∧ ct ≤ ring.length) :
  Ret Try.prog 24 #[.pointer (some ⟨r, 0, none⟩)] w fun v w' => ∃ m2 : Msg, fst1 ring fr ct = m2 ∧ v = .tuple #[.agg #[.int .i64 m2.kind.toInt, .int .i64 m2.time.toInt, .int .i64 m2.cls.toInt, .int .u8 (m2.high.toNat : Int), .int .i64 m2.bank.toInt, .int .i64 m2.place.toInt, .int .u8 (m2.value.toNat : Int)], .bool (decide (ct ≠ 0))] ∧ Mod (Nil) w w' := by
 have lt_hr := hr.lt
 have hq_l := hq.len
 have HM : Mod (Nil) w w := Mod.refl _ w
 refine ret_of Try.func24 rfl rfl ?_
 refine wp_seq ?_
 refine c_region (L := [0, 1]) (by kernel_rfl) ?_
 refine st_new (d := 2) (e := 35) (C := [.int .i64 0, .int .i64 0, .int .i64 0, .int .u8 0, .int .i64 0, .int .i64 0, .int .u8 0]) (V := fun r => .pointer (some ⟨r, 0, none⟩)) (by kernel_rfl) ?_
 intro b1 w2 m3 lb1 ub1 hB4
 replace hr := hr.mod m3 (fun q => q)
 replace hq := hq.mod0 m3
 replace HM := HM.tr0 m3
 have hszw2 := m3.size
 refine st_pure (l := [1]) (rest := []) (L := [(3, .bool false)]) rfl (by kernel_rfl) ?_
 refine st_end ?_
 refine then_n ?_
 refine wp_seq ?_
 refine wp_seq ?_
 refine c_region (L := [0, 1, 2, 3, 4, 5, 6, 7, 8, 9]) (by kernel_rfl) ?_
 refine st_pure (l := [0]) (rest := [1, 2, 3, 4, 5, 6, 7, 8, 9]) (L := [(4, .pointer (some ⟨r, 0, none⟩))]) rfl (by kernel_rfl) ?_
 refine st_fn (d := 5) (f := 106) (xs := #[.pointer (some ⟨r, 0, none⟩)]) (R := _) (by kernel_rfl) (made_ok (w := w2) (r := r) (A := A) (cA := cA) (ring := ring) (fr := fr) (ct := ct) (mk := mk) (en := en) (hr := hr) (A_n := A_n) (A_c := by first | exact A_c | omega) (fr_r := by omega) (ct_r := by omega) (mk_r := by omega) (hlen := by first | omega | (simp only [List.length_cons, List.length_nil, List.length_append, List.length_take, List.length_drop] at *; omega))) ?_
 rintro vw5 w5 ⟨rfl, m7⟩
 replace hr := hr.mod m7 (fun q => q)
 replace hq := hq.mod0 m7
 replace hB4 := hB4.mod m7 (fun q => q)
 replace HM := HM.tr0 m7
 have hszw5 := m7.size
 refine st_pure (l := [2, 3, 4, 5, 6]) (rest := [7, 8, 9]) (L := [(6, .bool false), (7, .bool false), (8, .pointer (some ⟨r, 0, none⟩)), (9, .pointer (some ⟨r, 0, none⟩)), (10, .pointer (some ⟨r, 2, none⟩))]) rfl (by kernel_rfl) ?_
 refine st_load (d := 11) (t := 3) (cs := _) (v := .int .i64 ct) (by kernel_rfl) (hr.sub 2) (by kernel_rfl) ?_
 by_cases h8 : ct = 0
 ·skip
  have hb9 : (ct == 0) = true := beq_iff_eq.2 h8
  refine st_pure (l := [8, 9]) (rest := []) (L := [(12, .bool (ct == 0)), (13, .bool true)]) rfl (Eq.trans (b := some [(12, .bool (ct == 0)), (13, .bool (ct == 0))]) (by kernel_rfl) (by simp only [hb9])) ?_
  refine st_end ?_
  refine then_n ?_
  refine c_true (by kernel_rfl) ?_
  refine wp_seq ?_
  refine c_region (L := [0, 1, 2]) (by kernel_rfl) ?_
  refine st_pure (l := [0]) (rest := [1, 2]) (L := [(14, .agg #[.int .i64 0, .int .i64 0, .int .i64 0, .int .u8 0, .int .i64 0, .int .i64 0, .int .u8 0])]) rfl (by kernel_rfl) ?_
  refine st_store (t := 35) (v := .agg #[.int .i64 0, .int .i64 0, .int .i64 0, .int .u8 0, .int .i64 0, .int .i64 0, .int .u8 0]) (o := 0) (C' := [.int .i64 0, .int .i64 0, .int .i64 0, .int .u8 0, .int .i64 0, .int .i64 0, .int .u8 0]) (by kernel_rfl) hB4 (by kernel_rfl) ?_
  intro w10 m11 zm11 NhB4
  clear hB4; have hB4 := NhB4; clear NhB4
  replace hr := hr.mod m11 (by intro h3; (try simp only [Iv] at h3); omega)
  replace hq := hq.mod m11 (by intro k h1 h2 h3; (try simp only [Iv] at h3); omega)
  replace HM := HM.trans m11 (by intro k h1 h3; (try simp only [Iv] at h3 ⊢); omega)
  have hszw10 := m11.size
  refine st_pure (l := [2]) (rest := []) (L := [(3, .bool false)]) rfl (by kernel_rfl) ?_
  refine st_end ?_
  refine then_n ?_
  refine wp_ret ?_
  refine then_r ?_
  refine post_run (v := .tuple #[.agg #[.int .i64 0, .int .i64 0, .int .i64 0, .int .u8 0, .int .i64 0, .int .i64 0, .int .u8 0], .bool false]) (res_cell2 (p := 2) (t := 35) (b := b1) (e := 35) (k := 0) (q := 3) (v := .agg #[.int .i64 0, .int .i64 0, .int .i64 0, .int .u8 0, .int .i64 0, .int .i64 0, .int .u8 0]) (u := .bool false) (by kernel_rfl) (by kernel_rfl) (by kernel_rfl) hB4 (by kernel_rfl)) ?_
  have hq12 : (false) = (decide (ct ≠ 0)) := by first | rfl | exact (decide_eq_true (by omega)).symm | exact (decide_eq_false (by omega)).symm | (simp only [ne_eq, decide_not]; rfl) | simp_all
  refine ⟨Msg.zero, ?_, (congrArg (fun zB => (.tuple #[.agg #[.int .i64 Msg.zero.kind.toInt, .int .i64 Msg.zero.time.toInt, .int .i64 Msg.zero.cls.toInt, .int .u8 (Msg.zero.high.toNat : Int), .int .i64 Msg.zero.bank.toInt, .int .i64 Msg.zero.place.toInt, .int .u8 (Msg.zero.value.toNat : Int)], .bool zB] : Value)) hq12), HM⟩
  ·rw [fst1, if_pos h8]
   all_goals (try rfl)
 ·skip
  have hb13 : (ct == 0) = false := beq_eq_false_iff_ne.2 h8
  refine st_pure (l := [8, 9]) (rest := []) (L := [(12, .bool (ct == 0)), (13, .bool false)]) rfl (Eq.trans (b := some [(12, .bool (ct == 0)), (13, .bool (ct == 0))]) (by kernel_rfl) (by simp only [hb13])) ?_
  refine st_end ?_
  refine then_n ?_
  refine c_false (by kernel_rfl) ?_
  refine wp_skip ?_
  refine then_n ?_
  refine wp_seq ?_
  refine c_drawS (fun k => k = b1) (fun k => k = b1) [0, 1, 2, 3, 4, 5, 6, 7, 8, 9, 11] [] 0 (fun _ q => q) (by kernel_rfl) (n := 12) (by kernel_rfl) (by kernel_rfl) ?_
  intro w14 HGw14
  have hr_w14 := hr
  have hq_w14 := hq
  have hB4_w14 := hB4
  have HC15 : Mod (fun k => k = b1) w5 w14 := Mod.weaken HGw14 fun _ _ q => q.elim
  replace hr := hr.mod HGw14 (fun q => q)
  replace hq := hq.mod0 HGw14
  replace hB4 := hB4.mod HGw14 (fun q => q)
  replace HM := HM.tr0 HGw14
  have hszw14 := HGw14.size
  refine m_p (k := 0) (n := 3) (fuel := 9) (L := [(15, .pointer (some ⟨r, 0, none⟩)), (16, .pointer (some ⟨r, 0, none⟩)), (17, .pointer (some ⟨r, 0, none⟩))]) (by kernel_rfl) (by kernel_rfl) rfl ?_
  refine m_load (d := 18) (t := 45) (b := r) (o := 0) (v := .slice A ring.length cA) (by kernel_rfl) (by kernel_rfl) (fun wQ (mQ : Mod (fun k => k = b1) w5 wQ) => (hr_w14.mod mQ (by intro h3; (try simp only [Iv] at h3); omega)).sub 0) (by kernel_rfl) ?_
  refine m_p (k := 4) (n := 3) (fuel := 5) (L := [(19, .pointer (some ⟨r, 0, none⟩)), (20, .pointer (some ⟨r, 0, none⟩)), (21, .pointer (some ⟨r, 1, none⟩))]) (by kernel_rfl) (by kernel_rfl) rfl ?_
  refine m_load (d := 22) (t := 3) (b := r) (o := 1) (v := .int .i64 fr) (by kernel_rfl) (by kernel_rfl) (fun wQ (mQ : Mod (fun k => k = b1) w5 wQ) => (hr_w14.mod mQ (by intro h3; (try simp only [Iv] at h3); omega)).sub 1) (by kernel_rfl) ?_
  have hi19 : (fr).toNat < (ring).length := by omega
  obtain ⟨b16, o17, ehA18, lhA18, uhA18, hA18⟩ := hq_w14.get hi19
  obtain ⟨x20, ex20⟩ : ∃ y, y = (ring)[(fr).toNat] := ⟨_, rfl⟩
  rw [← ex20] at hA18
  have dx20 := getD_of (d := Msg.zero) hi19 ex20
  have hrx20_0 := i64_lo x20.kind
  have hrx20_1 := i64_lo x20.time
  have hrx20_2 := i64_lo x20.cls
  have hrx20_4 := i64_lo x20.bank
  have hrx20_5 := i64_lo x20.place
  have hsx20_0 := i64_hi x20.kind
  have hsx20_1 := i64_hi x20.time
  have hsx20_2 := i64_hi x20.cls
  have hsx20_3 := u8_hi x20.high
  have hsx20_4 := i64_hi x20.bank
  have hsx20_5 := i64_hi x20.place
  have hsx20_6 := u8_hi x20.value
  refine m_index (d := 23) (tn := 45) (n := ring.length) (c := cA) (ix := fr) (kd := .i64) (e := 35) (t := tyMsg) (b := b16) (by kernel_rfl) (by kernel_rfl) Try.underlying45 (by kernel_rfl) ehA18 (by omega) (by omega) ?_
  refine m_load (d := 24) (t := 35) (b := b16) (o := o17 + (fr).toNat * 7) (v := .agg #[.int .i64 x20.kind.toInt, .int .i64 x20.time.toInt, .int .i64 x20.cls.toInt, .int .u8 (x20.high.toNat : Int), .int .i64 x20.bank.toInt, .int .i64 x20.place.toInt, .int .u8 (x20.value.toNat : Int)]) (by kernel_rfl) (by kernel_rfl) (fun wQ (mQ : Mod (fun k => k = b1) w5 wQ) => (hA18.mod mQ (by intro h3; (try simp only [Iv] at h3); omega)).dropk 0) (by kernel_rfl) ?_
  refine m_Q (by kernel_rfl) ?_
  refine st_store (t := 35) (v := .agg #[.int .i64 x20.kind.toInt, .int .i64 x20.time.toInt, .int .i64 x20.cls.toInt, .int .u8 (x20.high.toNat : Int), .int .i64 x20.bank.toInt, .int .i64 x20.place.toInt, .int .u8 (x20.value.toNat : Int)]) (o := 0) (C' := [.int .i64 x20.kind.toInt, .int .i64 x20.time.toInt, .int .i64 x20.cls.toInt, .int .u8 (x20.high.toNat : Int), .int .i64 x20.bank.toInt, .int .i64 x20.place.toInt, .int .u8 (x20.value.toNat : Int)]) (by kernel_rfl) hB4 (by kernel_rfl) ?_
  intro w21 m22 zm22 NhB4
  clear hB4; have hB4 := NhB4; clear NhB4
  replace hr := hr.mod m22 (by intro h3; (try simp only [Iv] at h3); omega)
  replace hq := hq.mod m22 (by intro k h1 h2 h3; (try simp only [Iv] at h3); omega)
  replace HM := HM.trans m22 (by intro k h1 h3; (try simp only [Iv] at h3 ⊢); omega)
  have hszw21 := m22.size
  have HC23 : Mod (fun k => k = b1) w5 _ := HC15.trans m22 (by intro k h1 h3; (try simp only [Iv] at h3 ⊢); omega)
  refine st_end (m_after HC23 ?_)
  refine m_p (k := 11) (n := 1) (fuel := 0) (L := [(3, .bool true)]) (by kernel_rfl) (by kernel_rfl) rfl ?_
  refine m_end ?_
  clear hA18
  refine then_n ?_
  refine wp_ret ?_
  refine post_run (v := .tuple #[.agg #[.int .i64 x20.kind.toInt, .int .i64 x20.time.toInt, .int .i64 x20.cls.toInt, .int .u8 (x20.high.toNat : Int), .int .i64 x20.bank.toInt, .int .i64 x20.place.toInt, .int .u8 (x20.value.toNat : Int)], .bool true]) (res_cell2 (p := 2) (t := 35) (b := b1) (e := 35) (k := 0) (q := 3) (v := .agg #[.int .i64 x20.kind.toInt, .int .i64 x20.time.toInt, .int .i64 x20.cls.toInt, .int .u8 (x20.high.toNat : Int), .int .i64 x20.bank.toInt, .int .i64 x20.place.toInt, .int .u8 (x20.value.toNat : Int)]) (u := .bool true) (by kernel_rfl) (by kernel_rfl) (by kernel_rfl) hB4 (by kernel_rfl)) ?_
  have hq24 : (true) = (decide (ct ≠ 0)) := by first | rfl | exact (decide_eq_true (by omega)).symm | exact (decide_eq_false (by omega)).symm | (simp only [ne_eq, decide_not]; rfl) | simp_all
  refine ⟨x20, ?_, (congrArg (fun zB => (.tuple #[.agg #[.int .i64 x20.kind.toInt, .int .i64 x20.time.toInt, .int .i64 x20.cls.toInt, .int .u8 (x20.high.toNat : Int), .int .i64 x20.bank.toInt, .int .i64 x20.place.toInt, .int .u8 (x20.value.toNat : Int)], .bool zB] : Value)) hq24), HM⟩
  ·rw [fst1, if_neg h8]
   try simp only [dx20]
   all_goals (try rfl)

def tk1 (ring : List Msg) (fr : Int) (ct : Int) : Msg × Int × Int × Int :=
 match fst1 ring fr ct with
 | m8 =>
  if ct ≠ 0 then
   (m8, 0, (fr + 1) % (ring.length : Int), ct - 1)
  else
   (m8, 6, fr, ct)

theorem Take_ok {w : World} {r : Nat} {A : Option Addr} {cA : Nat} {ring : List Msg} {fr : Int} {ct : Int} {mk : Int} {en : Bool} {lo : Nat} {hi : Nat} (hr : Blk w r 147 [.slice A ring.length cA, .int .i64 fr, .int .i64 ct, .int .i64 mk, .bool en]) (hq : RdA tyMsg w lo hi A ring) (A_n : A = none → cA = 0) (A_c : ring.length ≤ cA) (fr_r : 0 ≤ fr ∧ fr ≤ 4096) (ct_r : 0 ≤ ct ∧ ct ≤ 4096) (mk_r : -9223372036854775808 ≤ mk ∧ mk ≤ 9223372036854775807) (hq_hi : hi ≤ w.heap.size) (hlen : 0 < ring.length ∧ ring.length ≤ 4096 ∧ fr < ring.length ∧ ct ≤ ring.length) (hsep : hi ≤ r ∨ r < lo) :
  Ret Try.prog 20 #[.pointer (some ⟨r, 0, none⟩)] w fun v w' => ∃ m2 : Msg, ∃ e2 : Int, ∃ fr2 : Int, ∃ ct2 : Int, tk1 ring fr ct = (m2, e2, fr2, ct2) ∧ v = .tuple #[.agg #[.int .i64 m2.kind.toInt, .int .i64 m2.time.toInt, .int .i64 m2.cls.toInt, .int .u8 (m2.high.toNat : Int), .int .i64 m2.bank.toInt, .int .i64 m2.place.toInt, .int .u8 (m2.value.toNat : Int)], .int .i64 e2] ∧ (-9223372036854775808 ≤ e2 ∧ e2 ≤ 9223372036854775807) ∧ (0 ≤ fr2 ∧ fr2 ≤ 4096) ∧ (0 ≤ ct2 ∧ ct2 ≤ 4096) ∧ (fr2 < ring.length ∧ ct2 ≤ ring.length) ∧ Blk w' r 147 [.slice A ring.length cA, .int .i64 fr2, .int .i64 ct2, .int .i64 mk, .bool en] ∧ Mod (fun k => k = r) w w' := by
 have lt_hr := hr.lt
 have hq_l := hq.len
 have HM : Mod (fun k => k = r) w w := Mod.refl _ w
 refine ret_of Try.func20 rfl rfl ?_
 refine wp_seq ?_
 refine c_region (L := [0, 1]) (by kernel_rfl) ?_
 refine st_new (d := 2) (e := 35) (C := [.int .i64 0, .int .i64 0, .int .i64 0, .int .u8 0, .int .i64 0, .int .i64 0, .int .u8 0]) (V := fun r => .pointer (some ⟨r, 0, none⟩)) (by kernel_rfl) ?_
 intro b1 w2 m3 lb1 ub1 hB4
 replace hr := hr.mod m3 (fun q => q)
 replace hq := hq.mod0 m3
 replace HM := HM.tr0 m3
 have hszw2 := m3.size
 refine st_pure (l := [1]) (rest := []) (L := [(3, .int .i64 0)]) rfl (by kernel_rfl) ?_
 refine st_end ?_
 refine then_n ?_
 refine wp_seq ?_
 refine wp_seq ?_
 refine c_region (L := [0, 1, 2]) (by kernel_rfl) ?_
 refine st_pure (l := [0]) (rest := [1, 2]) (L := [(6, .pointer (some ⟨r, 0, none⟩))]) rfl (by kernel_rfl) ?_
 refine st_fn (d := 7) (f := 106) (xs := #[.pointer (some ⟨r, 0, none⟩)]) (R := _) (by kernel_rfl) (made_ok (w := w2) (r := r) (A := A) (cA := cA) (ring := ring) (fr := fr) (ct := ct) (mk := mk) (en := en) (hr := hr) (A_n := A_n) (A_c := by first | exact A_c | omega) (fr_r := by omega) (ct_r := by omega) (mk_r := by omega) (hlen := by first | omega | (simp only [List.length_cons, List.length_nil, List.length_append, List.length_take, List.length_drop] at *; omega))) ?_
 rintro vw5 w5 ⟨rfl, m7⟩
 replace hr := hr.mod m7 (fun q => q)
 replace hq := hq.mod0 m7
 replace hB4 := hB4.mod m7 (fun q => q)
 replace HM := HM.tr0 m7
 have hszw5 := m7.size
 refine st_pure (l := [2]) (rest := []) (L := [(8, .bool false)]) rfl (by kernel_rfl) ?_
 refine st_end ?_
 refine then_n ?_
 refine c_false (by kernel_rfl) ?_
 refine wp_skip ?_
 refine then_n ?_
 refine wp_seq ?_
 refine c_region (L := [0, 1, 2, 3, 4, 5, 6, 7]) (by kernel_rfl) ?_
 refine st_pure (l := [0]) (rest := [1, 2, 3, 4, 5, 6, 7]) (L := [(11, .pointer (some ⟨r, 0, none⟩))]) rfl (by kernel_rfl) ?_
 refine st_fn (d := 12) (f := 24) (xs := #[.pointer (some ⟨r, 0, none⟩)]) (R := _) (by kernel_rfl) (First_ok (w := w5) (r := r) (A := A) (cA := cA) (ring := ring) (fr := fr) (ct := ct) (mk := mk) (en := en) (lo := lo) (hi := hi) (hr := hr) (hq := hq) (A_n := A_n) (A_c := by first | exact A_c | omega) (fr_r := by omega) (ct_r := by omega) (mk_r := by omega) (hq_hi := by omega) (hlen := by first | omega | (simp only [List.length_cons, List.length_nil, List.length_append, List.length_take, List.length_drop] at *; omega))) ?_
 rintro vw9 w9 ⟨m8, hsp10, rfl, m12⟩
 replace hr := hr.mod m12 (fun q => q)
 replace hq := hq.mod0 m12
 replace hB4 := hB4.mod m12 (fun q => q)
 replace HM := HM.tr0 m12
 have hszw9 := m12.size
 refine st_pure (l := [2, 3, 4]) (rest := [5, 6, 7]) (L := [(10, .tuple #[.agg #[.int .i64 m8.kind.toInt, .int .i64 m8.time.toInt, .int .i64 m8.cls.toInt, .int .u8 (m8.high.toNat : Int), .int .i64 m8.bank.toInt, .int .i64 m8.place.toInt, .int .u8 (m8.value.toNat : Int)], .bool (decide (ct ≠ 0))]), (13, .agg #[.int .i64 m8.kind.toInt, .int .i64 m8.time.toInt, .int .i64 m8.cls.toInt, .int .u8 (m8.high.toNat : Int), .int .i64 m8.bank.toInt, .int .i64 m8.place.toInt, .int .u8 (m8.value.toNat : Int)]), (14, .bool (decide (ct ≠ 0)))]) rfl (by kernel_rfl) ?_
 refine st_new (d := 4) (e := 35) (C := [.int .i64 0, .int .i64 0, .int .i64 0, .int .u8 0, .int .i64 0, .int .i64 0, .int .u8 0]) (V := fun r => .pointer (some ⟨r, 0, none⟩)) (by kernel_rfl) ?_
 intro b13 w14 m15 lb13 ub13 hB16
 replace hr := hr.mod m15 (fun q => q)
 replace hq := hq.mod0 m15
 replace hB4 := hB4.mod m15 (fun q => q)
 replace HM := HM.tr0 m15
 have hszw14 := m15.size
 refine st_store (t := 35) (v := .agg #[.int .i64 m8.kind.toInt, .int .i64 m8.time.toInt, .int .i64 m8.cls.toInt, .int .u8 (m8.high.toNat : Int), .int .i64 m8.bank.toInt, .int .i64 m8.place.toInt, .int .u8 (m8.value.toNat : Int)]) (o := 0) (C' := [.int .i64 m8.kind.toInt, .int .i64 m8.time.toInt, .int .i64 m8.cls.toInt, .int .u8 (m8.high.toNat : Int), .int .i64 m8.bank.toInt, .int .i64 m8.place.toInt, .int .u8 (m8.value.toNat : Int)]) (by kernel_rfl) hB16 (by kernel_rfl) ?_
 intro w17 m18 zm18 NhB16
 clear hB16; have hB16 := NhB16; clear NhB16
 replace hr := hr.mod m18 (by intro h3; (try simp only [Iv] at h3); omega)
 replace hq := hq.mod m18 (by intro k h1 h2 h3; (try simp only [Iv] at h3); omega)
 replace hB4 := hB4.mod m18 (by intro h3; (try simp only [Iv] at h3); omega)
 replace HM := HM.trans m18 (by intro k h1 h3; (try simp only [Iv] at h3 ⊢); omega)
 have hszw17 := m18.size
 refine st_pure (l := [7]) (rest := []) (L := [(5, .bool (decide (ct ≠ 0)))]) rfl (by kernel_rfl) ?_
 refine st_end ?_
 refine then_n ?_
 refine wp_seq ?_
 refine wp_seq ?_
 refine c_region (L := [0, 1]) (by kernel_rfl) ?_
 by_cases h19 : ct ≠ 0
 ·skip
  have hb20 : (decide (ct ≠ 0)) = true := decide_eq_true h19
  refine st_pure (l := [0]) (rest := [1]) (L := [(15, .bool true)]) rfl (Eq.trans (b := some [(15, .bool (decide (ct ≠ 0)))]) (by kernel_rfl) (by simp only [hb20])) ?_
  refine st_pure (l := [1]) (rest := []) (L := [(16, .bool false)]) rfl (by kernel_rfl) ?_
  refine st_end ?_
  refine then_n ?_
  refine c_false (by kernel_rfl) ?_
  refine wp_skip ?_
  refine then_n ?_
  refine wp_seq ?_
  refine c_drawS (Nil) (fun k => k = r) [0, 1, 2, 3, 4, 5, 6, 7, 8, 9, 10, 11, 12, 13] [4, 9] 14 (fun _ q => q.elim) (by kernel_rfl) (n := 15) (by kernel_rfl) (by kernel_rfl) ?_
  intro w21 HGw21
  have hr_w21 := hr
  have hq_w21 := hq
  have hB4_w21 := hB4
  have hB16_w21 := hB16
  have HC22 : Mod (Nil) w17 w21 := Mod.weaken HGw21 fun _ _ q => q.elim
  replace hr := hr.mod HGw21 (fun q => q)
  replace hq := hq.mod0 HGw21
  replace hB4 := hB4.mod HGw21 (fun q => q)
  replace hB16 := hB16.mod HGw21 (fun q => q)
  replace HM := HM.tr0 HGw21
  have hszw21 := HGw21.size
  refine m_p (k := 0) (n := 4) (fuel := 11) (L := [(18, .pointer (some ⟨r, 0, none⟩)), (19, .pointer (some ⟨r, 0, none⟩)), (20, .pointer (some ⟨r, 0, none⟩)), (21, .pointer (some ⟨r, 1, none⟩))]) (by kernel_rfl) (by kernel_rfl) rfl ?_
  refine m_load (d := 22) (t := 3) (b := r) (o := 1) (v := .int .i64 fr) (by kernel_rfl) (by kernel_rfl) (fun wQ (mQ : Mod (Nil) w17 wQ) => (hr_w21.mod mQ (fun q => q)).sub 1) (by kernel_rfl) ?_
  have hw23 : IntKind.wrap .i64 (fr + 1) = fr + 1 := wi64 (by omega) (by omega)
  refine m_p (k := 5) (n := 1) (fuel := 9) (L := [(23, .int .i64 (fr + 1))]) (by kernel_rfl) (Eq.trans (b := some [(23, .int .i64 (IntKind.wrap .i64 (fr + 1)))]) (by kernel_rfl) (by simp only [hw23])) rfl ?_
  refine m_p (k := 6) (n := 3) (fuel := 6) (L := [(24, .pointer (some ⟨r, 0, none⟩)), (25, .pointer (some ⟨r, 0, none⟩)), (26, .pointer (some ⟨r, 0, none⟩))]) (by kernel_rfl) (by kernel_rfl) rfl ?_
  refine m_load (d := 27) (t := 45) (b := r) (o := 0) (v := .slice A ring.length cA) (by kernel_rfl) (by kernel_rfl) (fun wQ (mQ : Mod (Nil) w17 wQ) => (hr_w21.mod mQ (fun q => q)).sub 0) (by kernel_rfl) ?_
  refine m_p (k := 10) (n := 1) (fuel := 4) (L := [(28, .int .i64 (ring.length : Int))]) (by kernel_rfl) (by kernel_rfl) rfl ?_
  have hm24 := Int.emod_nonneg (fr + 1) (show (ring.length : Int) ≠ 0 by omega)
  have hm25 := Int.emod_lt_of_pos (fr + 1) (show 0 < (ring.length : Int) by omega)
  refine m_comes (d := 29) (v := .int .i64 ((fr + 1) % (ring.length : Int))) (by kernel_rfl) (fun wQ (mQ : Mod (fun k => k = r) w17 wQ) => (comes_rem (k := .i64) (a := fr + 1) (b := (ring.length : Int)) (by kernel_rfl) (by omega) (by omega))) (HC22.weaken fun _ _ q => q.elim) ?_
  refine m_p (k := 12) (n := 2) (fuel := 1) (L := [(30, .pointer (some ⟨r, 0, none⟩)), (31, .pointer (some ⟨r, 1, none⟩))]) (by kernel_rfl) (by kernel_rfl) rfl ?_
  refine m_Q (by kernel_rfl) ?_
  refine st_store (t := 3) (v := .int .i64 ((fr + 1) % (ring.length : Int))) (o := 1) (C' := [.slice A ring.length cA, .int .i64 ((fr + 1) % (ring.length : Int)), .int .i64 ct, .int .i64 mk, .bool en]) (by kernel_rfl) hr (by kernel_rfl) ?_
  intro w26 m27 zm27 Nhr
  clear hr; have hr := Nhr; clear Nhr
  replace hq := hq.mod m27 (by intro k h1 h2 h3; (try simp only [Iv] at h3); omega)
  replace hB4 := hB4.mod m27 (by intro h3; (try simp only [Iv] at h3); omega)
  replace hB16 := hB16.mod m27 (by intro h3; (try simp only [Iv] at h3); omega)
  replace HM := HM.trans m27 (by intro k h1 h3; (try simp only [Iv] at h3 ⊢); omega)
  have hszw26 := m27.size
  have HC28 : Mod (fun k => k = r) w17 _ := (HC22.weaken fun _ _ q => q.elim).trans m27 (by intro k h1 h3; (try simp only [Iv] at h3 ⊢); omega)
  refine st_end (m_after HC28 ?_)
  refine m_end ?_
  refine then_n ?_
  refine wp_seq ?_
  refine c_region (L := [0, 1, 2, 3, 4, 5, 6, 7]) (by kernel_rfl) ?_
  refine st_pure (l := [0, 1, 2]) (rest := [3, 4, 5, 6, 7]) (L := [(32, .pointer (some ⟨r, 0, none⟩)), (33, .pointer (some ⟨r, 0, none⟩)), (34, .pointer (some ⟨r, 2, none⟩))]) rfl (by kernel_rfl) ?_
  refine st_load (d := 35) (t := 3) (cs := _) (v := .int .i64 ct) (by kernel_rfl) (hr.sub 2) (by kernel_rfl) ?_
  have hw29 : IntKind.wrap .i64 (ct - 1) = ct - 1 := wi64 (by omega) (by omega)
  refine st_pure (l := [4]) (rest := [5, 6, 7]) (L := [(36, .int .i64 (ct - 1))]) rfl (Eq.trans (b := some [(36, .int .i64 (IntKind.wrap .i64 (ct - 1)))]) (by kernel_rfl) (by simp only [hw29])) ?_
  refine st_pure (l := [5, 6]) (rest := [7]) (L := [(37, .pointer (some ⟨r, 0, none⟩)), (38, .pointer (some ⟨r, 2, none⟩))]) rfl (by kernel_rfl) ?_
  refine st_store (t := 3) (v := .int .i64 (ct - 1)) (o := 2) (C' := [.slice A ring.length cA, .int .i64 ((fr + 1) % (ring.length : Int)), .int .i64 (ct - 1), .int .i64 mk, .bool en]) (by kernel_rfl) hr (by kernel_rfl) ?_
  intro w30 m31 zm31 Nhr
  clear hr; have hr := Nhr; clear Nhr
  replace hq := hq.mod m31 (by intro k h1 h2 h3; (try simp only [Iv] at h3); omega)
  replace hB4 := hB4.mod m31 (by intro h3; (try simp only [Iv] at h3); omega)
  replace hB16 := hB16.mod m31 (by intro h3; (try simp only [Iv] at h3); omega)
  replace HM := HM.trans m31 (by intro k h1 h3; (try simp only [Iv] at h3 ⊢); omega)
  have hszw30 := m31.size
  refine st_end ?_
  refine then_n ?_
  refine wp_seq ?_
  refine c_region (L := [0, 1, 2]) (by kernel_rfl) ?_
  refine st_load (d := 39) (t := 35) (cs := _) (v := .agg #[.int .i64 m8.kind.toInt, .int .i64 m8.time.toInt, .int .i64 m8.cls.toInt, .int .u8 (m8.high.toNat : Int), .int .i64 m8.bank.toInt, .int .i64 m8.place.toInt, .int .u8 (m8.value.toNat : Int)]) (by kernel_rfl) (hB16.sub 0) (by kernel_rfl) ?_
  refine st_store (t := 35) (v := .agg #[.int .i64 m8.kind.toInt, .int .i64 m8.time.toInt, .int .i64 m8.cls.toInt, .int .u8 (m8.high.toNat : Int), .int .i64 m8.bank.toInt, .int .i64 m8.place.toInt, .int .u8 (m8.value.toNat : Int)]) (o := 0) (C' := [.int .i64 m8.kind.toInt, .int .i64 m8.time.toInt, .int .i64 m8.cls.toInt, .int .u8 (m8.high.toNat : Int), .int .i64 m8.bank.toInt, .int .i64 m8.place.toInt, .int .u8 (m8.value.toNat : Int)]) (by kernel_rfl) hB4 (by kernel_rfl) ?_
  intro w32 m33 zm33 NhB4
  clear hB4; have hB4 := NhB4; clear NhB4
  replace hr := hr.mod m33 (by intro h3; (try simp only [Iv] at h3); omega)
  replace hq := hq.mod m33 (by intro k h1 h2 h3; (try simp only [Iv] at h3); omega)
  replace hB16 := hB16.mod m33 (by intro h3; (try simp only [Iv] at h3); omega)
  replace HM := HM.trans m33 (by intro k h1 h3; (try simp only [Iv] at h3 ⊢); omega)
  have hszw32 := m33.size
  refine st_pure (l := [2]) (rest := []) (L := [(3, .int .i64 0)]) rfl (by kernel_rfl) ?_
  refine st_end ?_
  refine then_n ?_
  refine wp_ret ?_
  refine post_run (v := .tuple #[.agg #[.int .i64 m8.kind.toInt, .int .i64 m8.time.toInt, .int .i64 m8.cls.toInt, .int .u8 (m8.high.toNat : Int), .int .i64 m8.bank.toInt, .int .i64 m8.place.toInt, .int .u8 (m8.value.toNat : Int)], .int .i64 0]) (res_cell2 (p := 2) (t := 35) (b := b1) (e := 35) (k := 0) (q := 3) (v := .agg #[.int .i64 m8.kind.toInt, .int .i64 m8.time.toInt, .int .i64 m8.cls.toInt, .int .u8 (m8.high.toNat : Int), .int .i64 m8.bank.toInt, .int .i64 m8.place.toInt, .int .u8 (m8.value.toNat : Int)]) (u := .int .i64 0) (by kernel_rfl) (by kernel_rfl) (by kernel_rfl) hB4 (by kernel_rfl)) ?_
  refine ⟨m8, 0, (fr + 1) % (ring.length : Int), ct - 1, ?_, rfl, ?_, ?_, ?_, ?_, hr, HM⟩
  ·rw [tk1]
   try simp only [hsp10]
   rw [if_pos h19]
   all_goals (try rfl)
  ·omega
  ·omega
  ·omega
  ·omega
 ·skip
  have hb34 : (decide (ct ≠ 0)) = false := decide_eq_false h19
  refine st_pure (l := [0]) (rest := [1]) (L := [(15, .bool false)]) rfl (Eq.trans (b := some [(15, .bool (decide (ct ≠ 0)))]) (by kernel_rfl) (by simp only [hb34])) ?_
  refine st_pure (l := [1]) (rest := []) (L := [(16, .bool true)]) rfl (by kernel_rfl) ?_
  refine st_end ?_
  refine then_n ?_
  refine c_true (by kernel_rfl) ?_
  refine wp_seq ?_
  refine c_region (L := [0, 1, 2]) (by kernel_rfl) ?_
  refine st_load (d := 17) (t := 35) (cs := _) (v := .agg #[.int .i64 m8.kind.toInt, .int .i64 m8.time.toInt, .int .i64 m8.cls.toInt, .int .u8 (m8.high.toNat : Int), .int .i64 m8.bank.toInt, .int .i64 m8.place.toInt, .int .u8 (m8.value.toNat : Int)]) (by kernel_rfl) (hB16.sub 0) (by kernel_rfl) ?_
  refine st_store (t := 35) (v := .agg #[.int .i64 m8.kind.toInt, .int .i64 m8.time.toInt, .int .i64 m8.cls.toInt, .int .u8 (m8.high.toNat : Int), .int .i64 m8.bank.toInt, .int .i64 m8.place.toInt, .int .u8 (m8.value.toNat : Int)]) (o := 0) (C' := [.int .i64 m8.kind.toInt, .int .i64 m8.time.toInt, .int .i64 m8.cls.toInt, .int .u8 (m8.high.toNat : Int), .int .i64 m8.bank.toInt, .int .i64 m8.place.toInt, .int .u8 (m8.value.toNat : Int)]) (by kernel_rfl) hB4 (by kernel_rfl) ?_
  intro w35 m36 zm36 NhB4
  clear hB4; have hB4 := NhB4; clear NhB4
  replace hr := hr.mod m36 (by intro h3; (try simp only [Iv] at h3); omega)
  replace hq := hq.mod m36 (by intro k h1 h2 h3; (try simp only [Iv] at h3); omega)
  replace hB16 := hB16.mod m36 (by intro h3; (try simp only [Iv] at h3); omega)
  replace HM := HM.trans m36 (by intro k h1 h3; (try simp only [Iv] at h3 ⊢); omega)
  have hszw35 := m36.size
  refine st_pure (l := [2]) (rest := []) (L := [(3, .int .i64 6)]) rfl (by kernel_rfl) ?_
  refine st_end ?_
  refine then_n ?_
  refine wp_ret ?_
  refine then_r ?_
  refine post_run (v := .tuple #[.agg #[.int .i64 m8.kind.toInt, .int .i64 m8.time.toInt, .int .i64 m8.cls.toInt, .int .u8 (m8.high.toNat : Int), .int .i64 m8.bank.toInt, .int .i64 m8.place.toInt, .int .u8 (m8.value.toNat : Int)], .int .i64 6]) (res_cell2 (p := 2) (t := 35) (b := b1) (e := 35) (k := 0) (q := 3) (v := .agg #[.int .i64 m8.kind.toInt, .int .i64 m8.time.toInt, .int .i64 m8.cls.toInt, .int .u8 (m8.high.toNat : Int), .int .i64 m8.bank.toInt, .int .i64 m8.place.toInt, .int .u8 (m8.value.toNat : Int)]) (u := .int .i64 6) (by kernel_rfl) (by kernel_rfl) (by kernel_rfl) hB4 (by kernel_rfl)) ?_
  refine ⟨m8, 6, fr, ct, ?_, rfl, ?_, ?_, ?_, ?_, hr, HM⟩
  ·rw [tk1]
   try simp only [hsp10]
   rw [if_neg h19]
   all_goals (try rfl)
  ·omega
  ·omega
  ·omega
  ·omega

def snd1 (ring : List Msg) (fr : Int) (ct : Int) (mk : Int) (en : Bool) (m : Msg) : Int × List Msg × Int × Int × Bool :=
 match chk m with
 | e8 =>
  if e8 ≠ 0 then
   (e8, ring, ct, mk, en)
  else
   if en = true then
    (10, ring, ct, mk, en)
   else
    if m.time.toInt < mk then
     (8, ring, ct, mk, en)
    else
     if ct = (ring.length : Int) then
      (9, ring, ct, mk, en)
     else
      match ring.getD (((fr + ct) % (ring.length : Int)).toNat) Msg.zero with
      | x38 =>
       match ring.set (((fr + ct) % (ring.length : Int)).toNat) m with
       | l42 =>
        (0, l42, ct + 1, m.time.toInt, m.kind.toInt == 5)

theorem Send_ok {w : World} {r : Nat} {A : Option Addr} {cA : Nat} {ring : List Msg} {fr : Int} {ct : Int} {mk : Int} {en : Bool} {lo : Nat} {hi : Nat} {m : Msg} (hr : Blk w r 147 [.slice A ring.length cA, .int .i64 fr, .int .i64 ct, .int .i64 mk, .bool en]) (ho : Own tyMsg 35 w lo hi (.slice A ring.length cA) ring) (A_n : A = none → cA = 0) (A_c : ring.length ≤ cA) (fr_r : 0 ≤ fr ∧ fr ≤ 4096) (ct_r : 0 ≤ ct ∧ ct ≤ 4096) (mk_r : -9223372036854775808 ≤ mk ∧ mk ≤ 9223372036854775807) (ho_hi : hi ≤ w.heap.size) (hlen : 0 < ring.length ∧ ring.length ≤ 4096 ∧ fr < ring.length ∧ ct ≤ ring.length) (hsep : hi ≤ r ∨ r < lo) :
  Ret Try.prog 22 #[.pointer (some ⟨r, 0, none⟩), .agg #[.int .i64 m.kind.toInt, .int .i64 m.time.toInt, .int .i64 m.cls.toInt, .int .u8 (m.high.toNat : Int), .int .i64 m.bank.toInt, .int .i64 m.place.toInt, .int .u8 (m.value.toNat : Int)]] w fun v w' => ∃ e2 : Int, ∃ ring2 : List Msg, ∃ ct2 : Int, ∃ mk2 : Int, ∃ en2 : Bool, snd1 ring fr ct mk en m = (e2, ring2, ct2, mk2, en2) ∧ v = .int .i64 e2 ∧ (-9223372036854775808 ≤ e2 ∧ e2 ≤ 9223372036854775807) ∧ (0 ≤ ct2 ∧ ct2 ≤ 4096) ∧ (-9223372036854775808 ≤ mk2 ∧ mk2 ≤ 9223372036854775807) ∧ (ring2.length = ring.length ∧ ct2 ≤ ring.length) ∧ Blk w' r 147 [.slice A ring2.length cA, .int .i64 fr, .int .i64 ct2, .int .i64 mk2, .bool en2] ∧ Own tyMsg 35 w' lo hi (.slice A ring2.length cA) ring2 ∧ Mod (fun k => k = r ∨ Iv lo hi k) w w' := by
 have hrm_0 := i64_lo m.kind
 have hrm_1 := i64_lo m.time
 have hrm_2 := i64_lo m.cls
 have hrm_4 := i64_lo m.bank
 have hrm_5 := i64_lo m.place
 have hsm_0 := i64_hi m.kind
 have hsm_1 := i64_hi m.time
 have hsm_2 := i64_hi m.cls
 have hsm_3 := u8_hi m.high
 have hsm_4 := i64_hi m.bank
 have hsm_5 := i64_hi m.place
 have hsm_6 := u8_hi m.value
 have lt_hr := hr.lt
 have ho_b := ho.bounds
 have ho_q := ho.rdSelf.2.2.2
 have HM : Mod (fun k => k = r ∨ Iv lo hi k) w w := Mod.refl _ w
 refine ret_of Try.func22 rfl rfl ?_
 refine wp_seq ?_
 refine c_region (L := [0, 1]) (by kernel_rfl) ?_
 refine st_new (d := 3) (e := 35) (C := [.int .i64 m.kind.toInt, .int .i64 m.time.toInt, .int .i64 m.cls.toInt, .int .u8 (m.high.toNat : Int), .int .i64 m.bank.toInt, .int .i64 m.place.toInt, .int .u8 (m.value.toNat : Int)]) (V := fun r => .pointer (some ⟨r, 0, none⟩)) (by kernel_rfl) ?_
 intro b1 w2 m3 lb1 ub1 hB4
 replace hr := hr.mod m3 (fun q => q)
 replace ho := ho.mod0 m3
 replace ho_q := ho_q.mod0 m3
 replace HM := HM.tr0 m3
 have hszw2 := m3.size
 refine st_pure (l := [1]) (rest := []) (L := [(4, .int .i64 0)]) rfl (by kernel_rfl) ?_
 refine st_end ?_
 refine then_n ?_
 refine wp_seq ?_
 refine wp_seq ?_
 refine c_region (L := [0, 1, 2]) (by kernel_rfl) ?_
 refine st_pure (l := [0]) (rest := [1, 2]) (L := [(6, .pointer (some ⟨r, 0, none⟩))]) rfl (by kernel_rfl) ?_
 refine st_fn (d := 7) (f := 106) (xs := #[.pointer (some ⟨r, 0, none⟩)]) (R := _) (by kernel_rfl) (made_ok (w := w2) (r := r) (A := A) (cA := cA) (ring := ring) (fr := fr) (ct := ct) (mk := mk) (en := en) (hr := hr) (A_n := A_n) (A_c := by first | exact A_c | omega) (fr_r := by omega) (ct_r := by omega) (mk_r := by omega) (hlen := by first | omega | (simp only [List.length_cons, List.length_nil, List.length_append, List.length_take, List.length_drop] at *; omega))) ?_
 rintro vw5 w5 ⟨rfl, m7⟩
 replace hr := hr.mod m7 (fun q => q)
 replace ho := ho.mod0 m7
 replace ho_q := ho_q.mod0 m7
 replace hB4 := hB4.mod m7 (fun q => q)
 replace HM := HM.tr0 m7
 have hszw5 := m7.size
 refine st_pure (l := [2]) (rest := []) (L := [(8, .bool false)]) rfl (by kernel_rfl) ?_
 refine st_end ?_
 refine then_n ?_
 refine c_false (by kernel_rfl) ?_
 refine wp_skip ?_
 refine then_n ?_
 refine wp_seq ?_
 refine wp_seq ?_
 refine c_region (L := [0, 1, 2]) (by kernel_rfl) ?_
 refine st_load (d := 9) (t := 35) (cs := _) (v := .agg #[.int .i64 m.kind.toInt, .int .i64 m.time.toInt, .int .i64 m.cls.toInt, .int .u8 (m.high.toNat : Int), .int .i64 m.bank.toInt, .int .i64 m.place.toInt, .int .u8 (m.value.toNat : Int)]) (by kernel_rfl) (hB4.sub 0) (by kernel_rfl) ?_
 refine st_fn (d := 10) (f := 18) (xs := #[.agg #[.int .i64 m.kind.toInt, .int .i64 m.time.toInt, .int .i64 m.cls.toInt, .int .u8 (m.high.toNat : Int), .int .i64 m.bank.toInt, .int .i64 m.place.toInt, .int .u8 (m.value.toNat : Int)]]) (R := _) (by kernel_rfl) (Check_ok (w := w5) (m := m) ) ?_
 rintro vw9 w9 ⟨e8, hsp10, rfl, e8_r, m12⟩
 replace hr := hr.mod m12 (fun q => q)
 replace ho := ho.mod0 m12
 replace ho_q := ho_q.mod0 m12
 replace hB4 := hB4.mod m12 (fun q => q)
 replace HM := HM.tr0 m12
 have hszw9 := m12.size
 refine st_pure (l := [2]) (rest := []) (L := [(5, .int .i64 e8)]) rfl (by kernel_rfl) ?_
 refine st_end ?_
 refine then_n ?_
 refine wp_seq ?_
 refine c_region (L := [0, 1]) (by kernel_rfl) ?_
 by_cases h13 : e8 ≠ 0
 ·skip
  have hb14 : (e8 != 0) = true := by first | (rw [bne_iff_ne]; exact h13) | (rw [bne_eq_false_iff_eq]; omega)
  refine st_pure (l := [0, 1]) (rest := []) (L := [(11, .int .i64 e8), (12, .bool true)]) rfl (Eq.trans (b := some [(11, .int .i64 e8), (12, .bool (e8 != 0))]) (by kernel_rfl) (by simp only [hb14])) ?_
  refine st_end ?_
  refine then_n ?_
  refine c_true (by kernel_rfl) ?_
  refine wp_seq ?_
  refine c_region (L := [0, 1]) (by kernel_rfl) ?_
  refine st_pure (l := [0, 1]) (rest := []) (L := [(13, .int .i64 e8), (4, .int .i64 e8)]) rfl (by kernel_rfl) ?_
  refine st_end ?_
  refine then_n ?_
  refine wp_ret ?_
  refine then_r ?_
  refine post_ret (v := .int .i64 e8) (by kernel_rfl) ?_
  refine ⟨e8, ring, ct, mk, en, ?_, rfl, ?_, ?_, ?_, ?_, hr, ho, HM⟩
  ·rw [snd1]
   try simp only [hsp10]
   rw [if_pos h13]
   all_goals (try rfl)
  ·omega
  ·omega
  ·omega
  ·omega
 ·skip
  have hb15 : (e8 != 0) = false := by rw [bne_eq_false_iff_eq]; exact Decidable.not_not.1 h13
  refine st_pure (l := [0, 1]) (rest := []) (L := [(11, .int .i64 e8), (12, .bool false)]) rfl (Eq.trans (b := some [(11, .int .i64 e8), (12, .bool (e8 != 0))]) (by kernel_rfl) (by simp only [hb15])) ?_
  refine st_end ?_
  refine then_n ?_
  refine c_false (by kernel_rfl) ?_
  refine wp_skip ?_
  refine then_n ?_
  refine wp_seq ?_
  refine wp_block ?_
  refine wp_seq ?_
  refine c_region (L := [0, 1, 2, 3, 4]) (by kernel_rfl) ?_
  refine st_pure (l := [0, 1, 2]) (rest := [3, 4]) (L := [(15, .pointer (some ⟨r, 0, none⟩)), (16, .pointer (some ⟨r, 0, none⟩)), (17, .pointer (some ⟨r, 4, none⟩))]) rfl (by kernel_rfl) ?_
  refine st_load (d := 18) (t := 4) (cs := _) (v := .bool en) (by kernel_rfl) (hr.sub 4) (by kernel_rfl) ?_
  by_cases h16 : en = true
  ·skip
   have hb17 : (en) = true := by simpa using h16
   refine st_pure (l := [4]) (rest := []) (L := [(14, .bool true)]) rfl (Eq.trans (b := some [(14, .bool en)]) (by kernel_rfl) (by simp only [hb17])) ?_
   refine st_end ?_
   refine then_n ?_
   refine c_true (by kernel_rfl) ?_
   refine wp_seq ?_
   refine c_region (L := [0]) (by kernel_rfl) ?_
   refine st_pure (l := [0]) (rest := []) (L := [(4, .int .i64 10)]) rfl (by kernel_rfl) ?_
   refine st_end ?_
   refine then_n ?_
   refine wp_ret ?_
   refine blk_r ?_
   refine then_r ?_
   refine post_ret (v := .int .i64 10) (by kernel_rfl) ?_
   refine ⟨10, ring, ct, mk, en, ?_, rfl, ?_, ?_, ?_, ?_, hr, ho, HM⟩
   ·rw [snd1]
    try simp only [hsp10]
    rw [if_neg h13, if_pos h16]
    all_goals (try rfl)
   ·omega
   ·omega
   ·omega
   ·omega
  ·skip
   have hb18 : (en) = false := by simpa using h16
   refine st_pure (l := [4]) (rest := []) (L := [(14, .bool false)]) rfl (Eq.trans (b := some [(14, .bool en)]) (by kernel_rfl) (by simp only [hb18])) ?_
   refine st_end ?_
   refine then_n ?_
   refine c_false (by kernel_rfl) ?_
   refine wp_seq ?_
   refine c_drawS (Nil) (Nil) [0, 1, 2, 3, 4, 5, 6, 7] [] 0 (fun _ q => q) (by kernel_rfl) (n := 8) (by kernel_rfl) (by kernel_rfl) ?_
   intro w19 HGw19
   have hr_w19 := hr
   have ho_w19 := ho
   have ho_q_w19 := ho_q
   have hB4_w19 := hB4
   have HC20 : Mod (Nil) w9 w19 := Mod.weaken HGw19 fun _ _ q => q.elim
   replace hr := hr.mod HGw19 (fun q => q)
   replace ho := ho.mod0 HGw19
   replace ho_q := ho_q.mod0 HGw19
   replace hB4 := hB4.mod HGw19 (fun q => q)
   replace HM := HM.tr0 HGw19
   have hszw19 := HGw19.size
   refine m_p (k := 0) (n := 1) (fuel := 7) (L := [(20, .pointer (some ⟨b1, 1, none⟩))]) (by kernel_rfl) (by kernel_rfl) rfl ?_
   refine m_load (d := 21) (t := 2) (b := b1) (o := 1) (v := .int .i64 m.time.toInt) (by kernel_rfl) (by kernel_rfl) (fun wQ (mQ : Mod (Nil) w9 wQ) => (hB4_w19.mod mQ (fun q => q)).sub 1) (by kernel_rfl) ?_
   refine m_p (k := 2) (n := 3) (fuel := 3) (L := [(22, .pointer (some ⟨r, 0, none⟩)), (23, .pointer (some ⟨r, 0, none⟩)), (24, .pointer (some ⟨r, 3, none⟩))]) (by kernel_rfl) (by kernel_rfl) rfl ?_
   refine m_load (d := 25) (t := 2) (b := r) (o := 3) (v := .int .i64 mk) (by kernel_rfl) (by kernel_rfl) (fun wQ (mQ : Mod (Nil) w9 wQ) => (hr_w19.mod mQ (fun q => q)).sub 3) (by kernel_rfl) ?_
   by_cases h21 : m.time.toInt < mk
   ·skip
    have hb22 : (decide (m.time.toInt < mk)) = true := decide_eq_true h21
    refine m_p (k := 6) (n := 2) (fuel := 0) (L := [(26, .bool (decide (m.time.toInt < mk))), (19, .bool true)]) (by kernel_rfl) (Eq.trans (b := some [(26, .bool (decide (m.time.toInt < mk))), (19, .bool (decide (m.time.toInt < mk)))]) (by kernel_rfl) (by simp only [hb22])) rfl ?_
    refine m_end ?_
    refine then_n ?_
    refine c_true (by kernel_rfl) ?_
    refine wp_seq ?_
    refine c_region (L := [0]) (by kernel_rfl) ?_
    refine st_pure (l := [0]) (rest := []) (L := [(4, .int .i64 8)]) rfl (by kernel_rfl) ?_
    refine st_end ?_
    refine then_n ?_
    refine wp_ret ?_
    refine blk_r ?_
    refine then_r ?_
    refine post_ret (v := .int .i64 8) (by kernel_rfl) ?_
    refine ⟨8, ring, ct, mk, en, ?_, rfl, ?_, ?_, ?_, ?_, hr, ho, HM⟩
    ·rw [snd1]
     try simp only [hsp10]
     rw [if_neg h13, if_neg h16, if_pos h21]
     all_goals (try rfl)
    ·omega
    ·omega
    ·omega
    ·omega
   ·skip
    have hb23 : (decide (m.time.toInt < mk)) = false := decide_eq_false h21
    refine m_p (k := 6) (n := 2) (fuel := 0) (L := [(26, .bool (decide (m.time.toInt < mk))), (19, .bool false)]) (by kernel_rfl) (Eq.trans (b := some [(26, .bool (decide (m.time.toInt < mk))), (19, .bool (decide (m.time.toInt < mk)))]) (by kernel_rfl) (by simp only [hb23])) rfl ?_
    refine m_end ?_
    refine then_n ?_
    refine c_false (by kernel_rfl) ?_
    refine wp_seq ?_
    refine c_drawS (Nil) (Nil) [0, 1, 2, 3, 4, 5, 6, 7, 8, 9, 10] [] 0 (fun _ q => q) (by kernel_rfl) (n := 11) (by kernel_rfl) (by kernel_rfl) ?_
    intro w24 HGw24
    have hr_w24 := hr
    have ho_w24 := ho
    have ho_q_w24 := ho_q
    have hB4_w24 := hB4
    have HC25 : Mod (Nil) w19 w24 := Mod.weaken HGw24 fun _ _ q => q.elim
    replace hr := hr.mod HGw24 (fun q => q)
    replace ho := ho.mod0 HGw24
    replace ho_q := ho_q.mod0 HGw24
    replace hB4 := hB4.mod HGw24 (fun q => q)
    replace HM := HM.tr0 HGw24
    have hszw24 := HGw24.size
    refine m_p (k := 0) (n := 3) (fuel := 8) (L := [(28, .pointer (some ⟨r, 0, none⟩)), (29, .pointer (some ⟨r, 0, none⟩)), (30, .pointer (some ⟨r, 2, none⟩))]) (by kernel_rfl) (by kernel_rfl) rfl ?_
    refine m_load (d := 31) (t := 3) (b := r) (o := 2) (v := .int .i64 ct) (by kernel_rfl) (by kernel_rfl) (fun wQ (mQ : Mod (Nil) w19 wQ) => (hr_w24.mod mQ (fun q => q)).sub 2) (by kernel_rfl) ?_
    refine m_p (k := 4) (n := 3) (fuel := 4) (L := [(32, .pointer (some ⟨r, 0, none⟩)), (33, .pointer (some ⟨r, 0, none⟩)), (34, .pointer (some ⟨r, 0, none⟩))]) (by kernel_rfl) (by kernel_rfl) rfl ?_
    refine m_load (d := 35) (t := 45) (b := r) (o := 0) (v := .slice A ring.length cA) (by kernel_rfl) (by kernel_rfl) (fun wQ (mQ : Mod (Nil) w19 wQ) => (hr_w24.mod mQ (fun q => q)).sub 0) (by kernel_rfl) ?_
    by_cases h26 : ct = (ring.length : Int)
    ·skip
     have hb27 : (ct == (ring.length : Int)) = true := beq_iff_eq.2 h26
     refine m_p (k := 8) (n := 3) (fuel := 0) (L := [(36, .int .i64 (ring.length : Int)), (37, .bool (ct == (ring.length : Int))), (27, .bool true)]) (by kernel_rfl) (Eq.trans (b := some [(36, .int .i64 (ring.length : Int)), (37, .bool (ct == (ring.length : Int))), (27, .bool (ct == (ring.length : Int)))]) (by kernel_rfl) (by simp only [hb27])) rfl ?_
     refine m_end ?_
     refine then_n ?_
     refine c_true (by kernel_rfl) ?_
     refine wp_seq ?_
     refine c_region (L := [0]) (by kernel_rfl) ?_
     refine st_pure (l := [0]) (rest := []) (L := [(4, .int .i64 9)]) rfl (by kernel_rfl) ?_
     refine st_end ?_
     refine then_n ?_
     refine wp_ret ?_
     refine blk_r ?_
     refine then_r ?_
     refine post_ret (v := .int .i64 9) (by kernel_rfl) ?_
     refine ⟨9, ring, ct, mk, en, ?_, rfl, ?_, ?_, ?_, ?_, hr, ho, HM⟩
     ·rw [snd1]
      try simp only [hsp10]
      rw [if_neg h13, if_neg h16, if_neg h21, if_pos h26]
      all_goals (try rfl)
     ·omega
     ·omega
     ·omega
     ·omega
    ·skip
     have hb28 : (ct == (ring.length : Int)) = false := beq_eq_false_iff_ne.2 h26
     refine m_p (k := 8) (n := 3) (fuel := 0) (L := [(36, .int .i64 (ring.length : Int)), (37, .bool (ct == (ring.length : Int))), (27, .bool false)]) (by kernel_rfl) (Eq.trans (b := some [(36, .int .i64 (ring.length : Int)), (37, .bool (ct == (ring.length : Int))), (27, .bool (ct == (ring.length : Int)))]) (by kernel_rfl) (by simp only [hb28])) rfl ?_
     refine m_end ?_
     refine then_n ?_
     refine c_false (by kernel_rfl) ?_
     refine wp_skip ?_
     refine blk_n ?_
     refine then_n ?_
     refine wp_seq ?_
     refine c_drawS (fun k => Iv lo hi k) (fun k => Iv lo hi k) [0, 1, 2, 3, 4, 5, 6, 7, 8, 9, 10, 11, 12, 13, 14, 15, 16, 17, 18, 19, 20] [] 0 (fun _ q => q) (by kernel_rfl) (n := 22) (by kernel_rfl) (by kernel_rfl) ?_
     intro w29 HGw29
     have hr_w29 := hr
     have ho_w29 := ho
     have ho_q_w29 := ho_q
     have hB4_w29 := hB4
     have HC30 : Mod (fun k => Iv lo hi k) w24 w29 := Mod.weaken HGw29 fun _ _ q => q.elim
     replace hr := hr.mod HGw29 (fun q => q)
     replace ho := ho.mod0 HGw29
     replace ho_q := ho_q.mod0 HGw29
     replace hB4 := hB4.mod HGw29 (fun q => q)
     replace HM := HM.tr0 HGw29
     have hszw29 := HGw29.size
     refine m_p (k := 0) (n := 3) (fuel := 19) (L := [(38, .pointer (some ⟨r, 0, none⟩)), (39, .pointer (some ⟨r, 0, none⟩)), (40, .pointer (some ⟨r, 0, none⟩))]) (by kernel_rfl) (by kernel_rfl) rfl ?_
     refine m_load (d := 41) (t := 45) (b := r) (o := 0) (v := .slice A ring.length cA) (by kernel_rfl) (by kernel_rfl) (fun wQ (mQ : Mod (fun k => Iv lo hi k) w24 wQ) => (hr_w29.mod mQ (by intro h3; (try simp only [Iv] at h3); omega)).sub 0) (by kernel_rfl) ?_
     refine m_p (k := 4) (n := 3) (fuel := 15) (L := [(42, .pointer (some ⟨r, 0, none⟩)), (43, .pointer (some ⟨r, 0, none⟩)), (44, .pointer (some ⟨r, 1, none⟩))]) (by kernel_rfl) (by kernel_rfl) rfl ?_
     refine m_load (d := 45) (t := 3) (b := r) (o := 1) (v := .int .i64 fr) (by kernel_rfl) (by kernel_rfl) (fun wQ (mQ : Mod (fun k => Iv lo hi k) w24 wQ) => (hr_w29.mod mQ (by intro h3; (try simp only [Iv] at h3); omega)).sub 1) (by kernel_rfl) ?_
     refine m_p (k := 8) (n := 3) (fuel := 11) (L := [(46, .pointer (some ⟨r, 0, none⟩)), (47, .pointer (some ⟨r, 0, none⟩)), (48, .pointer (some ⟨r, 2, none⟩))]) (by kernel_rfl) (by kernel_rfl) rfl ?_
     refine m_load (d := 49) (t := 3) (b := r) (o := 2) (v := .int .i64 ct) (by kernel_rfl) (by kernel_rfl) (fun wQ (mQ : Mod (fun k => Iv lo hi k) w24 wQ) => (hr_w29.mod mQ (by intro h3; (try simp only [Iv] at h3); omega)).sub 2) (by kernel_rfl) ?_
     have hw31 : IntKind.wrap .i64 (fr + ct) = fr + ct := wi64 (by omega) (by omega)
     refine m_p (k := 12) (n := 1) (fuel := 9) (L := [(50, .int .i64 (fr + ct))]) (by kernel_rfl) (Eq.trans (b := some [(50, .int .i64 (IntKind.wrap .i64 (fr + ct)))]) (by kernel_rfl) (by simp only [hw31])) rfl ?_
     refine m_p (k := 13) (n := 3) (fuel := 6) (L := [(51, .pointer (some ⟨r, 0, none⟩)), (52, .pointer (some ⟨r, 0, none⟩)), (53, .pointer (some ⟨r, 0, none⟩))]) (by kernel_rfl) (by kernel_rfl) rfl ?_
     refine m_load (d := 54) (t := 45) (b := r) (o := 0) (v := .slice A ring.length cA) (by kernel_rfl) (by kernel_rfl) (fun wQ (mQ : Mod (fun k => Iv lo hi k) w24 wQ) => (hr_w29.mod mQ (by intro h3; (try simp only [Iv] at h3); omega)).sub 0) (by kernel_rfl) ?_
     refine m_p (k := 17) (n := 1) (fuel := 4) (L := [(55, .int .i64 (ring.length : Int))]) (by kernel_rfl) (by kernel_rfl) rfl ?_
     have hm32 := Int.emod_nonneg (fr + ct) (show (ring.length : Int) ≠ 0 by omega)
     have hm33 := Int.emod_lt_of_pos (fr + ct) (show 0 < (ring.length : Int) by omega)
     refine m_comes (d := 56) (v := .int .i64 ((fr + ct) % (ring.length : Int))) (by kernel_rfl) (fun wQ (mQ : Mod (fun k => Iv lo hi k) w24 wQ) => (comes_rem (k := .i64) (a := fr + ct) (b := (ring.length : Int)) (by kernel_rfl) (by omega) (by omega))) HC30 ?_
     refine m_load (d := 57) (t := 35) (b := b1) (o := 0) (v := .agg #[.int .i64 m.kind.toInt, .int .i64 m.time.toInt, .int .i64 m.cls.toInt, .int .u8 (m.high.toNat : Int), .int .i64 m.bank.toInt, .int .i64 m.place.toInt, .int .u8 (m.value.toNat : Int)]) (by kernel_rfl) (by kernel_rfl) (fun wQ (mQ : Mod (fun k => Iv lo hi k) w24 wQ) => (hB4_w29.mod mQ (by intro h3; (try simp only [Iv] at h3); omega)).sub 0) (by kernel_rfl) ?_
     have hi37 : ((fr + ct) % (ring.length : Int)).toNat < (ring).length := by omega
     obtain ⟨b34, o35, ehA36, lhA36, uhA36, hA36⟩ := ho_q_w29.get hi37
     obtain ⟨x38, ex38⟩ : ∃ y, y = (ring)[((fr + ct) % (ring.length : Int)).toNat] := ⟨_, rfl⟩
     rw [← ex38] at hA36
     have dx38 := getD_of (d := Msg.zero) hi37 ex38
     have hrx38_0 := i64_lo x38.kind
     have hrx38_1 := i64_lo x38.time
     have hrx38_2 := i64_lo x38.cls
     have hrx38_4 := i64_lo x38.bank
     have hrx38_5 := i64_lo x38.place
     have hsx38_0 := i64_hi x38.kind
     have hsx38_1 := i64_hi x38.time
     have hsx38_2 := i64_hi x38.cls
     have hsx38_3 := u8_hi x38.high
     have hsx38_4 := i64_hi x38.bank
     have hsx38_5 := i64_hi x38.place
     have hsx38_6 := u8_hi x38.value
     refine m_index (d := 58) (tn := 45) (n := ring.length) (c := cA) (ix := (fr + ct) % (ring.length : Int)) (kd := .i64) (e := 35) (t := tyMsg) (b := b34) (by kernel_rfl) (by kernel_rfl) Try.underlying45 (by kernel_rfl) ehA36 (by omega) (by omega) ?_
     refine m_Q (by kernel_rfl) ?_
     refine st_storeO (ti := 35) (t := tyMsg) (e := 35) (n := ring.length) (c := cA) (v := .agg #[.int .i64 m.kind.toInt, .int .i64 m.time.toInt, .int .i64 m.cls.toInt, .int .u8 (m.high.toNat : Int), .int .i64 m.bank.toInt, .int .i64 m.place.toInt, .int .u8 (m.value.toNat : Int)]) (b := b34) (o := o35) (k := ((fr + ct) % (ring.length : Int)).toNat) (x := m) (l := ring) (by kernel_rfl) (by rw [← ehA36]; exact ho) rfl (by kernel_rfl) (by omega) ?_
     intro w39 m40 zm40 lb45 ub46 hO41
     rw [← ehA36] at hO41
     obtain ⟨l42, hl43⟩ : ∃ y, ring.set (((fr + ct) % (ring.length : Int)).toNat) m = y := ⟨_, rfl⟩
     have hn44 : l42.length = (ring).length := by rw [← hl43, List.length_set]
     rw [hl43] at hO41
     clear ho
     clear ho_q
     clear hA36
     replace hr := hr.mod m40 (by intro h3; (try simp only [Iv] at h3); omega)
     replace hB4 := hB4.mod m40 (by intro h3; (try simp only [Iv] at h3); omega)
     replace HM := HM.trans m40 (by intro k h1 h3; (try simp only [Iv] at h3 ⊢); omega)
     have hszw39 := m40.size
     have HC48 : Mod (fun k => Iv lo hi k) w24 _ := HC30.trans m40 (by intro k h1 h3; (try simp only [Iv] at h3 ⊢); omega)
     rw [← hn44] at hO41
     rw [← hn44] at hr
     have hR47 := hO41.rdSelf.2.2.2
     have hR47_l := hR47.len
     refine st_end (m_after HC48 ?_)
     refine m_end ?_
     refine then_n ?_
     refine wp_seq ?_
     refine c_region (L := [0, 1, 2, 3, 4, 5, 6, 7]) (by kernel_rfl) ?_
     refine st_pure (l := [0, 1, 2]) (rest := [3, 4, 5, 6, 7]) (L := [(59, .pointer (some ⟨r, 0, none⟩)), (60, .pointer (some ⟨r, 0, none⟩)), (61, .pointer (some ⟨r, 2, none⟩))]) rfl (by kernel_rfl) ?_
     refine st_load (d := 62) (t := 3) (cs := _) (v := .int .i64 ct) (by kernel_rfl) (hr.sub 2) (by kernel_rfl) ?_
     have hw49 : IntKind.wrap .i64 (ct + 1) = ct + 1 := wi64 (by omega) (by omega)
     refine st_pure (l := [4]) (rest := [5, 6, 7]) (L := [(63, .int .i64 (ct + 1))]) rfl (Eq.trans (b := some [(63, .int .i64 (IntKind.wrap .i64 (ct + 1)))]) (by kernel_rfl) (by simp only [hw49])) ?_
     refine st_pure (l := [5, 6]) (rest := [7]) (L := [(64, .pointer (some ⟨r, 0, none⟩)), (65, .pointer (some ⟨r, 2, none⟩))]) rfl (by kernel_rfl) ?_
     refine st_store (t := 3) (v := .int .i64 (ct + 1)) (o := 2) (C' := [.slice A l42.length cA, .int .i64 fr, .int .i64 (ct + 1), .int .i64 mk, .bool en]) (by kernel_rfl) hr (by kernel_rfl) ?_
     intro w50 m51 zm51 Nhr
     clear hr; have hr := Nhr; clear Nhr
     replace hB4 := hB4.mod m51 (by intro h3; (try simp only [Iv] at h3); omega)
     replace hO41 := hO41.mod m51 (by intro k h1 h2 h3; (try simp only [Iv] at h3); omega)
     replace hR47 := hR47.mod m51 (by intro k h1 h2 h3; (try simp only [Iv] at h3); omega)
     replace HM := HM.trans m51 (by intro k h1 h3; (try simp only [Iv] at h3 ⊢); omega)
     have hszw50 := m51.size
     refine st_end ?_
     refine then_n ?_
     refine wp_seq ?_
     refine c_drawS (fun k => k = r) (fun k => k = r) [0, 1, 2, 3, 4, 5, 6, 7, 8, 10, 11] [] 0 (fun _ q => q) (by kernel_rfl) (n := 13) (by kernel_rfl) (by kernel_rfl) ?_
     intro w52 HGw52
     have hr_w52 := hr
     have hB4_w52 := hB4
     have hO41_w52 := hO41
     have hR47_w52 := hR47
     have HC53 : Mod (fun k => k = r) w50 w52 := Mod.weaken HGw52 fun _ _ q => q.elim
     replace hr := hr.mod HGw52 (fun q => q)
     replace hB4 := hB4.mod HGw52 (fun q => q)
     replace hO41 := hO41.mod0 HGw52
     replace hR47 := hR47.mod0 HGw52
     replace HM := HM.tr0 HGw52
     have hszw52 := HGw52.size
     refine m_p (k := 0) (n := 3) (fuel := 10) (L := [(66, .pointer (some ⟨r, 0, none⟩)), (67, .pointer (some ⟨r, 0, none⟩)), (68, .pointer (some ⟨b1, 1, none⟩))]) (by kernel_rfl) (by kernel_rfl) rfl ?_
     refine m_load (d := 69) (t := 2) (b := b1) (o := 1) (v := .int .i64 m.time.toInt) (by kernel_rfl) (by kernel_rfl) (fun wQ (mQ : Mod (fun k => k = r) w50 wQ) => (hB4_w52.mod mQ (by intro h3; (try simp only [Iv] at h3); omega)).sub 1) (by kernel_rfl) ?_
     refine m_p (k := 4) (n := 1) (fuel := 8) (L := [(70, .pointer (some ⟨b1, 0, none⟩))]) (by kernel_rfl) (by kernel_rfl) rfl ?_
     refine m_load (d := 71) (t := 3) (b := b1) (o := 0) (v := .int .i64 m.kind.toInt) (by kernel_rfl) (by kernel_rfl) (fun wQ (mQ : Mod (fun k => k = r) w50 wQ) => (hB4_w52.mod mQ (by intro h3; (try simp only [Iv] at h3); omega)).sub 0) (by kernel_rfl) ?_
     refine m_p (k := 6) (n := 3) (fuel := 4) (L := [(72, .bool (m.kind.toInt == 5)), (73, .pointer (some ⟨r, 0, none⟩)), (74, .pointer (some ⟨r, 3, none⟩))]) (by kernel_rfl) (by kernel_rfl) rfl ?_
     refine m_Q (by kernel_rfl) ?_
     refine st_store (t := 2) (v := .int .i64 m.time.toInt) (o := 3) (C' := [.slice A l42.length cA, .int .i64 fr, .int .i64 (ct + 1), .int .i64 m.time.toInt, .bool en]) (by kernel_rfl) hr (by kernel_rfl) ?_
     intro w54 m55 zm55 Nhr
     clear hr; have hr := Nhr; clear Nhr
     replace hB4 := hB4.mod m55 (by intro h3; (try simp only [Iv] at h3); omega)
     replace hO41 := hO41.mod m55 (by intro k h1 h2 h3; (try simp only [Iv] at h3); omega)
     replace hR47 := hR47.mod m55 (by intro k h1 h2 h3; (try simp only [Iv] at h3); omega)
     replace HM := HM.trans m55 (by intro k h1 h3; (try simp only [Iv] at h3 ⊢); omega)
     have hszw54 := m55.size
     have HC56 : Mod (fun k => k = r) w50 _ := HC53.trans m55 (by intro k h1 h3; (try simp only [Iv] at h3 ⊢); omega)
     refine st_end (m_after HC56 ?_)
     refine m_p (k := 10) (n := 2) (fuel := 1) (L := [(75, .pointer (some ⟨r, 0, none⟩)), (76, .pointer (some ⟨r, 4, none⟩))]) (by kernel_rfl) (by kernel_rfl) rfl ?_
     refine m_Q (by kernel_rfl) ?_
     refine st_store (t := 4) (v := .bool (m.kind.toInt == 5)) (o := 4) (C' := [.slice A l42.length cA, .int .i64 fr, .int .i64 (ct + 1), .int .i64 m.time.toInt, .bool (m.kind.toInt == 5)]) (by kernel_rfl) hr (by kernel_rfl) ?_
     intro w57 m58 zm58 Nhr
     clear hr; have hr := Nhr; clear Nhr
     replace hB4 := hB4.mod m58 (by intro h3; (try simp only [Iv] at h3); omega)
     replace hO41 := hO41.mod m58 (by intro k h1 h2 h3; (try simp only [Iv] at h3); omega)
     replace hR47 := hR47.mod m58 (by intro k h1 h2 h3; (try simp only [Iv] at h3); omega)
     replace HM := HM.trans m58 (by intro k h1 h3; (try simp only [Iv] at h3 ⊢); omega)
     have hszw57 := m58.size
     have HC59 : Mod (fun k => k = r) w50 _ := HC56.trans m58 (by intro k h1 h3; (try simp only [Iv] at h3 ⊢); omega)
     refine st_end (m_after HC59 ?_)
     refine m_end ?_
     refine then_n ?_
     refine wp_seq ?_
     refine c_region (L := [0]) (by kernel_rfl) ?_
     refine st_pure (l := [0]) (rest := []) (L := [(4, .int .i64 0)]) rfl (by kernel_rfl) ?_
     refine st_end ?_
     refine then_n ?_
     refine wp_ret ?_
     refine post_ret (v := .int .i64 0) (by kernel_rfl) ?_
     refine ⟨0, l42, ct + 1, m.time.toInt, m.kind.toInt == 5, ?_, rfl, ?_, ?_, ?_, ?_, hr, hO41, HM⟩
     ·rw [snd1]
      try simp only [hsp10]
      rw [if_neg h13, if_neg h16, if_neg h21, if_neg h26]
      try simp only [dx38]
      try simp only [hl43]
      all_goals (try rfl)
     ·omega
     ·omega
     ·omega
     ·omega

end Go.Proofs.Ytjkapifbinmjhaa
