import Derived.Test.YtjkapifbinmjhaaG5
namespace Go.Proofs.Ytjkapifbinmjhaa
open Go.Vx Go.RowKit
set_option linter.unusedVariables false
set_option linter.unusedSimpArgs false
set_option maxRecDepth 100000
set_option maxHeartbeats 4000000
def rchk_j2 (m : Msg) : Bool :=
  if m.kind.toInt = 4 then
   true
  else
   if m.kind.toInt = 5 then
    true
   else
    false

def rchk_j1 (m : Msg) : Bool :=
  if m.kind.toInt = 1 then
   if m.cls.toInt ≥ 1 then
    if m.cls.toInt ≤ 7 then
     if (m.high.toNat : Int) = 0 then
      if m.bank.toInt = 0 then
       m.place.toInt == 0
      else
       false
     else
      false
    else
     false
   else
    false
  else
   if m.kind.toInt = 2 then
    if m.cls.toInt ≥ 1 then
     if m.cls.toInt ≤ 8 then
      if m.bank.toInt = 0 then
       if m.place.toInt = 0 then
        (m.value.toNat : Int) == 0
       else
        false
      else
       false
     else
      false
    else
     false
   else
    if m.kind.toInt = 3 then
     if m.bank.toInt = 5 then
      if m.place.toInt ≥ 0 then
       if m.place.toInt < 16384 then
        if m.cls.toInt = 0 then
         (m.high.toNat : Int) == 0
        else
         false
       else
        false
      else
       false
     else
      if m.bank.toInt = 7 then
       if m.place.toInt ≥ 0 then
        if m.place.toInt < 16384 then
         if m.cls.toInt = 0 then
          (m.high.toNat : Int) == 0
         else
          false
        else
         false
       else
        false
      else
       false
    else
     match rchk_j2 m with
     | s94_2 =>
      if s94_2 = true then
       ((m.kind.toInt == m.kind.toInt) && ((m.time.toInt == m.time.toInt) && ((m.cls.toInt == 0) && (((m.high.toNat : Int) == 0) && ((m.bank.toInt == 0) && ((m.place.toInt == 0) && (((m.value.toNat : Int) == 0) && true))))))) != false
      else
       if m.kind.toInt = 6 then
        ((m.kind.toInt == m.kind.toInt) && ((m.time.toInt == m.time.toInt) && ((m.cls.toInt == 0) && (((m.high.toNat : Int) == 0) && ((m.bank.toInt == 0) && ((m.place.toInt == 0) && (((m.value.toNat : Int) == (m.value.toNat : Int)) && true))))))) != false
       else
        false

def rchk (m : Msg) : Int :=
  if m.time.toInt < 0 then
   2
  else
   if m.time.toInt > 1099511627776 then
    2
   else
    match rchk_j1 m with
    | s3_1 =>
     if s3_1 = true then
      0
     else
      2

theorem rCheck_ok {w : World} {m : Msg} :
  Ret Try.prog 19 #[.agg #[.int .i64 m.kind.toInt, .int .i64 m.time.toInt, .int .i64 m.cls.toInt, .int .u8 (m.high.toNat : Int), .int .i64 m.bank.toInt, .int .i64 m.place.toInt, .int .u8 (m.value.toNat : Int)]] w fun v w' => ∃ e2 : Int, rchk m = e2 ∧ v = .int .i64 e2 ∧ (-9223372036854775808 ≤ e2 ∧ e2 ≤ 9223372036854775807) ∧ Mod (Nil) w w' := by
 have hrm_0 := i64_lo m.kind
 have hrm_1 := i64_lo m.time
 have hrm_2 := i64_lo m.cls
 have hrm_4 := i64_lo m.bank
 have hrm_5 := i64_lo m.place
 have hsm_0 := i64_hi m.kind
 have hsm_1 := i64_hi m.time
 have hsm_2 := i64_hi m.cls
 have hsm_3 := u8_hi m.high
 have hsm_4 := i64_hi m.bank
 have hsm_5 := i64_hi m.place
 have hsm_6 := u8_hi m.value
 have HM : Mod (Nil) w w := Mod.refl _ w
 refine ret_of Try.func19 rfl rfl ?_
 refine wp_seq ?_
 refine c_region (L := [0, 1]) (by kernel_rfl) ?_
 refine st_new (d := 1) (e := 35) (C := [.int .i64 m.kind.toInt, .int .i64 m.time.toInt, .int .i64 m.cls.toInt, .int .u8 (m.high.toNat : Int), .int .i64 m.bank.toInt, .int .i64 m.place.toInt, .int .u8 (m.value.toNat : Int)]) (V := fun r => .pointer (some ⟨r, 0, none⟩)) (by kernel_rfl) ?_
 intro b1 w2 m3 lb1 ub1 hB4
 replace HM := HM.tr0 m3
 have hszw2 := m3.size
 refine st_pure (l := [1]) (rest := []) (L := [(2, .int .i64 0)]) rfl (by kernel_rfl) ?_
 refine st_end ?_
 refine then_n ?_
 refine wp_seq ?_
 refine wp_seq ?_
 refine c_region (L := [0, 1, 2, 3, 4, 5, 6, 7]) (by kernel_rfl) ?_
 refine st_pure (l := [0]) (rest := [1, 2, 3, 4, 5, 6, 7]) (L := [(4, .pointer (some ⟨b1, 1, none⟩))]) rfl (by kernel_rfl) ?_
 refine st_load (d := 5) (t := 2) (cs := _) (v := .int .i64 m.time.toInt) (by kernel_rfl) (hB4.sub 1) (by kernel_rfl) ?_
 by_cases h5 : m.time.toInt < 0
 ·skip
  have hb6 : (decide (m.time.toInt < 0)) = true := decide_eq_true h5
  refine st_pure (l := [2, 3]) (rest := [4, 5, 6, 7]) (L := [(6, .bool (decide (m.time.toInt < 0))), (7, .bool true)]) rfl (Eq.trans (b := some [(6, .bool (decide (m.time.toInt < 0))), (7, .bool (decide (m.time.toInt < 0)))]) (by kernel_rfl) (by simp only [hb6])) ?_
  refine st_pure (l := [4, 5, 6, 7]) (rest := []) (L := [(8, undef), (9, undef), (10, undef), (11, .bool true)]) rfl (by kernel_rfl) ?_
  refine st_end ?_
  refine then_n ?_
  refine c_true (by kernel_rfl) ?_
  refine wp_seq ?_
  refine c_region (L := [0]) (by kernel_rfl) ?_
  refine st_pure (l := [0]) (rest := []) (L := [(2, .int .i64 2)]) rfl (by kernel_rfl) ?_
  refine st_end ?_
  refine then_n ?_
  refine wp_ret ?_
  refine then_r ?_
  refine post_ret (v := .int .i64 2) (by kernel_rfl) ?_
  refine ⟨2, ?_, rfl, ?_, HM⟩
  ·rw [rchk, if_pos h5]
   all_goals (try rfl)
  ·omega
 ·skip
  have hb7 : (decide (m.time.toInt < 0)) = false := decide_eq_false h5
  refine st_pure (l := [2, 3]) (rest := [4, 5, 6, 7]) (L := [(6, .bool (decide (m.time.toInt < 0))), (7, .bool false)]) rfl (Eq.trans (b := some [(6, .bool (decide (m.time.toInt < 0))), (7, .bool (decide (m.time.toInt < 0)))]) (by kernel_rfl) (by simp only [hb7])) ?_
  refine st_pure (l := [4]) (rest := [5, 6, 7]) (L := [(8, .pointer (some ⟨b1, 1, none⟩))]) rfl (by kernel_rfl) ?_
  refine st_load (d := 9) (t := 2) (cs := _) (v := .int .i64 m.time.toInt) (by kernel_rfl) (hB4.sub 1) (by kernel_rfl) ?_
  by_cases h8 : m.time.toInt > 1099511627776
  ·skip
   have hb9 : (decide (m.time.toInt > 1099511627776)) = true := decide_eq_true h8
   refine st_pure (l := [6, 7]) (rest := []) (L := [(10, .bool (decide (m.time.toInt > 1099511627776))), (11, .bool true)]) rfl (Eq.trans (b := some [(10, .bool (decide (m.time.toInt > 1099511627776))), (11, .bool (decide (m.time.toInt > 1099511627776)))]) (by kernel_rfl) (by simp only [hb9])) ?_
   refine st_end ?_
   refine then_n ?_
   refine c_true (by kernel_rfl) ?_
   refine wp_seq ?_
   refine c_region (L := [0]) (by kernel_rfl) ?_
   refine st_pure (l := [0]) (rest := []) (L := [(2, .int .i64 2)]) rfl (by kernel_rfl) ?_
   refine st_end ?_
   refine then_n ?_
   refine wp_ret ?_
   refine then_r ?_
   refine post_ret (v := .int .i64 2) (by kernel_rfl) ?_
   refine ⟨2, ?_, rfl, ?_, HM⟩
   ·rw [rchk, if_neg h5, if_pos h8]
    all_goals (try rfl)
   ·omega
  ·skip
   have hb10 : (decide (m.time.toInt > 1099511627776)) = false := decide_eq_false h8
   refine st_pure (l := [6, 7]) (rest := []) (L := [(10, .bool (decide (m.time.toInt > 1099511627776))), (11, .bool false)]) rfl (Eq.trans (b := some [(10, .bool (decide (m.time.toInt > 1099511627776))), (11, .bool (decide (m.time.toInt > 1099511627776)))]) (by kernel_rfl) (by simp only [hb10])) ?_
   refine st_end ?_
   refine then_n ?_
   refine c_false (by kernel_rfl) ?_
   refine wp_skip ?_
   refine then_n ?_
   refine wp_seq ?_
   refine c_region (L := [0]) (by kernel_rfl) ?_
   refine st_pure (l := [0]) (rest := []) (L := [(3, .bool false)]) rfl (by kernel_rfl) ?_
   refine st_end ?_
   refine then_n ?_
   refine wp_seq ?_
   refine c_cut (J := fun a w' => ∃ s3_1 : Bool, rchk_j1 m = s3_1 ∧ Fr 117 [(3, .bool s3_1)] a ∧ Mod (Nil) w w' ∧ w2.heap.size ≤ w'.heap.size ∧ Blk w' b1 35 [.int .i64 m.kind.toInt, .int .i64 m.time.toInt, .int .i64 m.cls.toInt, .int .u8 (m.high.toNat : Int), .int .i64 m.bank.toInt, .int .i64 m.place.toInt, .int .u8 (m.value.toNat : Int)] ∧ True) ?_ ?_
   ·skip
    refine wp_seq ?_
    refine c_region (L := [0, 1]) (by kernel_rfl) ?_
    refine st_pure (l := [0]) (rest := [1]) (L := [(12, .pointer (some ⟨b1, 0, none⟩))]) rfl (by kernel_rfl) ?_
    refine st_load (d := 13) (t := 3) (cs := _) (v := .int .i64 m.kind.toInt) (by kernel_rfl) (hB4.sub 0) (by kernel_rfl) ?_
    refine st_end ?_
    refine then_n ?_
    refine wp_block ?_
    refine wp_seq ?_
    refine c_region (L := [0, 1]) (by kernel_rfl) ?_
    by_cases h11 : m.kind.toInt = 1
    ·skip
     have hb12 : (m.kind.toInt == 1) = true := beq_iff_eq.2 h11
     refine st_pure (l := [0, 1]) (rest := []) (L := [(15, .bool (m.kind.toInt == 1)), (14, .bool true)]) rfl (Eq.trans (b := some [(15, .bool (m.kind.toInt == 1)), (14, .bool (m.kind.toInt == 1))]) (by kernel_rfl) (by simp only [hb12])) ?_
     refine st_end ?_
     refine then_n ?_
     refine c_true (by kernel_rfl) ?_
     refine c_region (L := [0, 1, 2, 3, 4, 5, 6, 7, 8, 9, 10, 11, 12, 13, 14, 15, 16, 17, 18, 19, 20, 21, 22, 23]) (by kernel_rfl) ?_
     refine st_pure (l := [0]) (rest := [1, 2, 3, 4, 5, 6, 7, 8, 9, 10, 11, 12, 13, 14, 15, 16, 17, 18, 19, 20, 21, 22, 23]) (L := [(16, .pointer (some ⟨b1, 2, none⟩))]) rfl (by kernel_rfl) ?_
     refine st_load (d := 17) (t := 3) (cs := _) (v := .int .i64 m.cls.toInt) (by kernel_rfl) (hB4.sub 2) (by kernel_rfl) ?_
     by_cases h13 : m.cls.toInt ≥ 1
     ·skip
      have hb14 : (decide (m.cls.toInt ≥ 1)) = true := decide_eq_true h13
      refine st_pure (l := [2, 3]) (rest := [4, 5, 6, 7, 8, 9, 10, 11, 12, 13, 14, 15, 16, 17, 18, 19, 20, 21, 22, 23]) (L := [(18, .bool (decide (m.cls.toInt ≥ 1))), (19, .bool true)]) rfl (Eq.trans (b := some [(18, .bool (decide (m.cls.toInt ≥ 1))), (19, .bool (decide (m.cls.toInt ≥ 1)))]) (by kernel_rfl) (by simp only [hb14])) ?_
      refine st_pure (l := [4]) (rest := [5, 6, 7, 8, 9, 10, 11, 12, 13, 14, 15, 16, 17, 18, 19, 20, 21, 22, 23]) (L := [(20, .pointer (some ⟨b1, 2, none⟩))]) rfl (by kernel_rfl) ?_
      refine st_load (d := 21) (t := 3) (cs := _) (v := .int .i64 m.cls.toInt) (by kernel_rfl) (hB4.sub 2) (by kernel_rfl) ?_
      by_cases h15 : m.cls.toInt ≤ 7
      ·skip
       have hb16 : (decide (m.cls.toInt ≤ 7)) = true := decide_eq_true h15
       refine st_pure (l := [6, 7, 8]) (rest := [9, 10, 11, 12, 13, 14, 15, 16, 17, 18, 19, 20, 21, 22, 23]) (L := [(22, .bool (decide (m.cls.toInt ≤ 7))), (23, .bool (decide (m.cls.toInt ≤ 7))), (24, .bool true)]) rfl (Eq.trans (b := some [(22, .bool (decide (m.cls.toInt ≤ 7))), (23, .bool (decide (m.cls.toInt ≤ 7))), (24, .bool (decide (m.cls.toInt ≤ 7)))]) (by kernel_rfl) (by simp only [hb16])) ?_
       refine st_pure (l := [9]) (rest := [10, 11, 12, 13, 14, 15, 16, 17, 18, 19, 20, 21, 22, 23]) (L := [(25, .pointer (some ⟨b1, 3, none⟩))]) rfl (by kernel_rfl) ?_
       refine st_load (d := 26) (t := 5) (cs := _) (v := .int .u8 (m.high.toNat : Int)) (by kernel_rfl) (hB4.sub 3) (by kernel_rfl) ?_
       by_cases h17 : (m.high.toNat : Int) = 0
       ·skip
        have hb18 : ((m.high.toNat : Int) == 0) = true := beq_iff_eq.2 h17
        refine st_pure (l := [11, 12, 13]) (rest := [14, 15, 16, 17, 18, 19, 20, 21, 22, 23]) (L := [(27, .bool ((m.high.toNat : Int) == 0)), (28, .bool ((m.high.toNat : Int) == 0)), (29, .bool true)]) rfl (Eq.trans (b := some [(27, .bool ((m.high.toNat : Int) == 0)), (28, .bool ((m.high.toNat : Int) == 0)), (29, .bool ((m.high.toNat : Int) == 0))]) (by kernel_rfl) (by simp only [hb18])) ?_
        refine st_pure (l := [14]) (rest := [15, 16, 17, 18, 19, 20, 21, 22, 23]) (L := [(30, .pointer (some ⟨b1, 4, none⟩))]) rfl (by kernel_rfl) ?_
        refine st_load (d := 31) (t := 3) (cs := _) (v := .int .i64 m.bank.toInt) (by kernel_rfl) (hB4.sub 4) (by kernel_rfl) ?_
        by_cases h19 : m.bank.toInt = 0
        ·skip
         have hb20 : (m.bank.toInt == 0) = true := beq_iff_eq.2 h19
         refine st_pure (l := [16, 17, 18]) (rest := [19, 20, 21, 22, 23]) (L := [(32, .bool (m.bank.toInt == 0)), (33, .bool (m.bank.toInt == 0)), (34, .bool true)]) rfl (Eq.trans (b := some [(32, .bool (m.bank.toInt == 0)), (33, .bool (m.bank.toInt == 0)), (34, .bool (m.bank.toInt == 0))]) (by kernel_rfl) (by simp only [hb20])) ?_
         refine st_pure (l := [19]) (rest := [20, 21, 22, 23]) (L := [(35, .pointer (some ⟨b1, 5, none⟩))]) rfl (by kernel_rfl) ?_
         refine st_load (d := 36) (t := 3) (cs := _) (v := .int .i64 m.place.toInt) (by kernel_rfl) (hB4.sub 5) (by kernel_rfl) ?_
         refine st_pure (l := [21, 22, 23]) (rest := []) (L := [(37, .bool (m.place.toInt == 0)), (38, .bool (m.place.toInt == 0)), (3, .bool (m.place.toInt == 0))]) rfl (by kernel_rfl) ?_
         refine st_end ?_
         refine blk_n ?_
         refine then_n ?_
         refine ⟨m.place.toInt == 0, ?_, Fr.mk (by kernel_rfl) (by kernel_rfl), HM, by omega, hB4, trivial⟩
         ·rw [rchk_j1, if_pos h11, if_pos h13, if_pos h15, if_pos h17, if_pos h19]
          all_goals (try rfl)
        ·skip
         have hb21 : (m.bank.toInt == 0) = false := beq_eq_false_iff_ne.2 h19
         refine st_pure (l := [16, 17, 18]) (rest := [19, 20, 21, 22, 23]) (L := [(32, .bool (m.bank.toInt == 0)), (33, .bool (m.bank.toInt == 0)), (34, .bool false)]) rfl (Eq.trans (b := some [(32, .bool (m.bank.toInt == 0)), (33, .bool (m.bank.toInt == 0)), (34, .bool (m.bank.toInt == 0))]) (by kernel_rfl) (by simp only [hb21])) ?_
         refine st_pure (l := [19, 20, 21, 22, 23]) (rest := []) (L := [(35, undef), (36, undef), (37, undef), (38, .bool false), (3, .bool false)]) rfl (by kernel_rfl) ?_
         refine st_end ?_
         refine blk_n ?_
         refine then_n ?_
         refine ⟨false, ?_, Fr.mk (by kernel_rfl) (by kernel_rfl), HM, by omega, hB4, trivial⟩
         ·rw [rchk_j1, if_pos h11, if_pos h13, if_pos h15, if_pos h17, if_neg h19]
          all_goals (try rfl)
       ·skip
        have hb22 : ((m.high.toNat : Int) == 0) = false := beq_eq_false_iff_ne.2 h17
        refine st_pure (l := [11, 12, 13]) (rest := [14, 15, 16, 17, 18, 19, 20, 21, 22, 23]) (L := [(27, .bool ((m.high.toNat : Int) == 0)), (28, .bool ((m.high.toNat : Int) == 0)), (29, .bool false)]) rfl (Eq.trans (b := some [(27, .bool ((m.high.toNat : Int) == 0)), (28, .bool ((m.high.toNat : Int) == 0)), (29, .bool ((m.high.toNat : Int) == 0))]) (by kernel_rfl) (by simp only [hb22])) ?_
        refine st_pure (l := [14, 15, 16, 17, 18, 19, 20, 21, 22, 23]) (rest := []) (L := [(30, undef), (31, undef), (32, undef), (33, .bool false), (34, .bool false), (35, undef), (36, undef), (37, undef), (38, .bool false), (3, .bool false)]) rfl (by kernel_rfl) ?_
        refine st_end ?_
        refine blk_n ?_
        refine then_n ?_
        refine ⟨false, ?_, Fr.mk (by kernel_rfl) (by kernel_rfl), HM, by omega, hB4, trivial⟩
        ·rw [rchk_j1, if_pos h11, if_pos h13, if_pos h15, if_neg h17]
         all_goals (try rfl)
      ·skip
       have hb23 : (decide (m.cls.toInt ≤ 7)) = false := decide_eq_false h15
       refine st_pure (l := [6, 7, 8]) (rest := [9, 10, 11, 12, 13, 14, 15, 16, 17, 18, 19, 20, 21, 22, 23]) (L := [(22, .bool (decide (m.cls.toInt ≤ 7))), (23, .bool (decide (m.cls.toInt ≤ 7))), (24, .bool false)]) rfl (Eq.trans (b := some [(22, .bool (decide (m.cls.toInt ≤ 7))), (23, .bool (decide (m.cls.toInt ≤ 7))), (24, .bool (decide (m.cls.toInt ≤ 7)))]) (by kernel_rfl) (by simp only [hb23])) ?_
       refine st_pure (l := [9, 10, 11, 12, 13, 14, 15, 16, 17, 18, 19, 20, 21, 22, 23]) (rest := []) (L := [(25, undef), (26, undef), (27, undef), (28, .bool false), (29, .bool false), (30, undef), (31, undef), (32, undef), (33, .bool false), (34, .bool false), (35, undef), (36, undef), (37, undef), (38, .bool false), (3, .bool false)]) rfl (by kernel_rfl) ?_
       refine st_end ?_
       refine blk_n ?_
       refine then_n ?_
       refine ⟨false, ?_, Fr.mk (by kernel_rfl) (by kernel_rfl), HM, by omega, hB4, trivial⟩
       ·rw [rchk_j1, if_pos h11, if_pos h13, if_neg h15]
        all_goals (try rfl)
     ·skip
      have hb24 : (decide (m.cls.toInt ≥ 1)) = false := decide_eq_false h13
      refine st_pure (l := [2, 3]) (rest := [4, 5, 6, 7, 8, 9, 10, 11, 12, 13, 14, 15, 16, 17, 18, 19, 20, 21, 22, 23]) (L := [(18, .bool (decide (m.cls.toInt ≥ 1))), (19, .bool false)]) rfl (Eq.trans (b := some [(18, .bool (decide (m.cls.toInt ≥ 1))), (19, .bool (decide (m.cls.toInt ≥ 1)))]) (by kernel_rfl) (by simp only [hb24])) ?_
      refine st_pure (l := [4, 5, 6, 7, 8, 9, 10, 11, 12, 13, 14, 15, 16, 17, 18, 19, 20, 21, 22, 23]) (rest := []) (L := [(20, undef), (21, undef), (22, undef), (23, .bool false), (24, .bool false), (25, undef), (26, undef), (27, undef), (28, .bool false), (29, .bool false), (30, undef), (31, undef), (32, undef), (33, .bool false), (34, .bool false), (35, undef), (36, undef), (37, undef), (38, .bool false), (3, .bool false)]) rfl (by kernel_rfl) ?_
      refine st_end ?_
      refine blk_n ?_
      refine then_n ?_
      refine ⟨false, ?_, Fr.mk (by kernel_rfl) (by kernel_rfl), HM, by omega, hB4, trivial⟩
      ·rw [rchk_j1, if_pos h11, if_neg h13]
       all_goals (try rfl)
    ·skip
     have hb25 : (m.kind.toInt == 1) = false := beq_eq_false_iff_ne.2 h11
     refine st_pure (l := [0, 1]) (rest := []) (L := [(15, .bool (m.kind.toInt == 1)), (14, .bool false)]) rfl (Eq.trans (b := some [(15, .bool (m.kind.toInt == 1)), (14, .bool (m.kind.toInt == 1))]) (by kernel_rfl) (by simp only [hb25])) ?_
     refine st_end ?_
     refine then_n ?_
     refine c_false (by kernel_rfl) ?_
     refine wp_seq ?_
     refine c_region (L := [0, 1]) (by kernel_rfl) ?_
     by_cases h26 : m.kind.toInt = 2
     ·skip
      have hb27 : (m.kind.toInt == 2) = true := beq_iff_eq.2 h26
      refine st_pure (l := [0, 1]) (rest := []) (L := [(40, .bool (m.kind.toInt == 2)), (39, .bool true)]) rfl (Eq.trans (b := some [(40, .bool (m.kind.toInt == 2)), (39, .bool (m.kind.toInt == 2))]) (by kernel_rfl) (by simp only [hb27])) ?_
      refine st_end ?_
      refine then_n ?_
      refine c_true (by kernel_rfl) ?_
      refine c_region (L := [0, 1, 2, 3, 4, 5, 6, 7, 8, 9, 10, 11, 12, 13, 14, 15, 16, 17, 18, 19, 20, 21, 22, 23]) (by kernel_rfl) ?_
      refine st_pure (l := [0]) (rest := [1, 2, 3, 4, 5, 6, 7, 8, 9, 10, 11, 12, 13, 14, 15, 16, 17, 18, 19, 20, 21, 22, 23]) (L := [(41, .pointer (some ⟨b1, 2, none⟩))]) rfl (by kernel_rfl) ?_
      refine st_load (d := 42) (t := 3) (cs := _) (v := .int .i64 m.cls.toInt) (by kernel_rfl) (hB4.sub 2) (by kernel_rfl) ?_
      by_cases h28 : m.cls.toInt ≥ 1
      ·skip
       have hb29 : (decide (m.cls.toInt ≥ 1)) = true := decide_eq_true h28
       refine st_pure (l := [2, 3]) (rest := [4, 5, 6, 7, 8, 9, 10, 11, 12, 13, 14, 15, 16, 17, 18, 19, 20, 21, 22, 23]) (L := [(43, .bool (decide (m.cls.toInt ≥ 1))), (44, .bool true)]) rfl (Eq.trans (b := some [(43, .bool (decide (m.cls.toInt ≥ 1))), (44, .bool (decide (m.cls.toInt ≥ 1)))]) (by kernel_rfl) (by simp only [hb29])) ?_
       refine st_pure (l := [4]) (rest := [5, 6, 7, 8, 9, 10, 11, 12, 13, 14, 15, 16, 17, 18, 19, 20, 21, 22, 23]) (L := [(45, .pointer (some ⟨b1, 2, none⟩))]) rfl (by kernel_rfl) ?_
       refine st_load (d := 46) (t := 3) (cs := _) (v := .int .i64 m.cls.toInt) (by kernel_rfl) (hB4.sub 2) (by kernel_rfl) ?_
       by_cases h30 : m.cls.toInt ≤ 8
       ·skip
        have hb31 : (decide (m.cls.toInt ≤ 8)) = true := decide_eq_true h30
        refine st_pure (l := [6, 7, 8]) (rest := [9, 10, 11, 12, 13, 14, 15, 16, 17, 18, 19, 20, 21, 22, 23]) (L := [(47, .bool (decide (m.cls.toInt ≤ 8))), (48, .bool (decide (m.cls.toInt ≤ 8))), (49, .bool true)]) rfl (Eq.trans (b := some [(47, .bool (decide (m.cls.toInt ≤ 8))), (48, .bool (decide (m.cls.toInt ≤ 8))), (49, .bool (decide (m.cls.toInt ≤ 8)))]) (by kernel_rfl) (by simp only [hb31])) ?_
        refine st_pure (l := [9]) (rest := [10, 11, 12, 13, 14, 15, 16, 17, 18, 19, 20, 21, 22, 23]) (L := [(50, .pointer (some ⟨b1, 4, none⟩))]) rfl (by kernel_rfl) ?_
        refine st_load (d := 51) (t := 3) (cs := _) (v := .int .i64 m.bank.toInt) (by kernel_rfl) (hB4.sub 4) (by kernel_rfl) ?_
        by_cases h32 : m.bank.toInt = 0
        ·skip
         have hb33 : (m.bank.toInt == 0) = true := beq_iff_eq.2 h32
         refine st_pure (l := [11, 12, 13]) (rest := [14, 15, 16, 17, 18, 19, 20, 21, 22, 23]) (L := [(52, .bool (m.bank.toInt == 0)), (53, .bool (m.bank.toInt == 0)), (54, .bool true)]) rfl (Eq.trans (b := some [(52, .bool (m.bank.toInt == 0)), (53, .bool (m.bank.toInt == 0)), (54, .bool (m.bank.toInt == 0))]) (by kernel_rfl) (by simp only [hb33])) ?_
         refine st_pure (l := [14]) (rest := [15, 16, 17, 18, 19, 20, 21, 22, 23]) (L := [(55, .pointer (some ⟨b1, 5, none⟩))]) rfl (by kernel_rfl) ?_
         refine st_load (d := 56) (t := 3) (cs := _) (v := .int .i64 m.place.toInt) (by kernel_rfl) (hB4.sub 5) (by kernel_rfl) ?_
         by_cases h34 : m.place.toInt = 0
         ·skip
          have hb35 : (m.place.toInt == 0) = true := beq_iff_eq.2 h34
          refine st_pure (l := [16, 17, 18]) (rest := [19, 20, 21, 22, 23]) (L := [(57, .bool (m.place.toInt == 0)), (58, .bool (m.place.toInt == 0)), (59, .bool true)]) rfl (Eq.trans (b := some [(57, .bool (m.place.toInt == 0)), (58, .bool (m.place.toInt == 0)), (59, .bool (m.place.toInt == 0))]) (by kernel_rfl) (by simp only [hb35])) ?_
          refine st_pure (l := [19]) (rest := [20, 21, 22, 23]) (L := [(60, .pointer (some ⟨b1, 6, none⟩))]) rfl (by kernel_rfl) ?_
          refine st_load (d := 61) (t := 5) (cs := _) (v := .int .u8 (m.value.toNat : Int)) (by kernel_rfl) (hB4.sub 6) (by kernel_rfl) ?_
          refine st_pure (l := [21, 22, 23]) (rest := []) (L := [(62, .bool ((m.value.toNat : Int) == 0)), (63, .bool ((m.value.toNat : Int) == 0)), (3, .bool ((m.value.toNat : Int) == 0))]) rfl (by kernel_rfl) ?_
          refine st_end ?_
          refine blk_n ?_
          refine then_n ?_
          refine ⟨(m.value.toNat : Int) == 0, ?_, Fr.mk (by kernel_rfl) (by kernel_rfl), HM, by omega, hB4, trivial⟩
          ·rw [rchk_j1, if_neg h11, if_pos h26, if_pos h28, if_pos h30, if_pos h32, if_pos h34]
           all_goals (try rfl)
         ·skip
          have hb36 : (m.place.toInt == 0) = false := beq_eq_false_iff_ne.2 h34
          refine st_pure (l := [16, 17, 18]) (rest := [19, 20, 21, 22, 23]) (L := [(57, .bool (m.place.toInt == 0)), (58, .bool (m.place.toInt == 0)), (59, .bool false)]) rfl (Eq.trans (b := some [(57, .bool (m.place.toInt == 0)), (58, .bool (m.place.toInt == 0)), (59, .bool (m.place.toInt == 0))]) (by kernel_rfl) (by simp only [hb36])) ?_
          refine st_pure (l := [19, 20, 21, 22, 23]) (rest := []) (L := [(60, undef), (61, undef), (62, undef), (63, .bool false), (3, .bool false)]) rfl (by kernel_rfl) ?_
          refine st_end ?_
          refine blk_n ?_
          refine then_n ?_
          refine ⟨false, ?_, Fr.mk (by kernel_rfl) (by kernel_rfl), HM, by omega, hB4, trivial⟩
          ·rw [rchk_j1, if_neg h11, if_pos h26, if_pos h28, if_pos h30, if_pos h32, if_neg h34]
           all_goals (try rfl)
        ·skip
         have hb37 : (m.bank.toInt == 0) = false := beq_eq_false_iff_ne.2 h32
         refine st_pure (l := [11, 12, 13]) (rest := [14, 15, 16, 17, 18, 19, 20, 21, 22, 23]) (L := [(52, .bool (m.bank.toInt == 0)), (53, .bool (m.bank.toInt == 0)), (54, .bool false)]) rfl (Eq.trans (b := some [(52, .bool (m.bank.toInt == 0)), (53, .bool (m.bank.toInt == 0)), (54, .bool (m.bank.toInt == 0))]) (by kernel_rfl) (by simp only [hb37])) ?_
         refine st_pure (l := [14, 15, 16, 17, 18, 19, 20, 21, 22, 23]) (rest := []) (L := [(55, undef), (56, undef), (57, undef), (58, .bool false), (59, .bool false), (60, undef), (61, undef), (62, undef), (63, .bool false), (3, .bool false)]) rfl (by kernel_rfl) ?_
         refine st_end ?_
         refine blk_n ?_
         refine then_n ?_
         refine ⟨false, ?_, Fr.mk (by kernel_rfl) (by kernel_rfl), HM, by omega, hB4, trivial⟩
         ·rw [rchk_j1, if_neg h11, if_pos h26, if_pos h28, if_pos h30, if_neg h32]
          all_goals (try rfl)
       ·skip
        have hb38 : (decide (m.cls.toInt ≤ 8)) = false := decide_eq_false h30
        refine st_pure (l := [6, 7, 8]) (rest := [9, 10, 11, 12, 13, 14, 15, 16, 17, 18, 19, 20, 21, 22, 23]) (L := [(47, .bool (decide (m.cls.toInt ≤ 8))), (48, .bool (decide (m.cls.toInt ≤ 8))), (49, .bool false)]) rfl (Eq.trans (b := some [(47, .bool (decide (m.cls.toInt ≤ 8))), (48, .bool (decide (m.cls.toInt ≤ 8))), (49, .bool (decide (m.cls.toInt ≤ 8)))]) (by kernel_rfl) (by simp only [hb38])) ?_
        refine st_pure (l := [9, 10, 11, 12, 13, 14, 15, 16, 17, 18, 19, 20, 21, 22, 23]) (rest := []) (L := [(50, undef), (51, undef), (52, undef), (53, .bool false), (54, .bool false), (55, undef), (56, undef), (57, undef), (58, .bool false), (59, .bool false), (60, undef), (61, undef), (62, undef), (63, .bool false), (3, .bool false)]) rfl (by kernel_rfl) ?_
        refine st_end ?_
        refine blk_n ?_
        refine then_n ?_
        refine ⟨false, ?_, Fr.mk (by kernel_rfl) (by kernel_rfl), HM, by omega, hB4, trivial⟩
        ·rw [rchk_j1, if_neg h11, if_pos h26, if_pos h28, if_neg h30]
         all_goals (try rfl)
      ·skip
       have hb39 : (decide (m.cls.toInt ≥ 1)) = false := decide_eq_false h28
       refine st_pure (l := [2, 3]) (rest := [4, 5, 6, 7, 8, 9, 10, 11, 12, 13, 14, 15, 16, 17, 18, 19, 20, 21, 22, 23]) (L := [(43, .bool (decide (m.cls.toInt ≥ 1))), (44, .bool false)]) rfl (Eq.trans (b := some [(43, .bool (decide (m.cls.toInt ≥ 1))), (44, .bool (decide (m.cls.toInt ≥ 1)))]) (by kernel_rfl) (by simp only [hb39])) ?_
       refine st_pure (l := [4, 5, 6, 7, 8, 9, 10, 11, 12, 13, 14, 15, 16, 17, 18, 19, 20, 21, 22, 23]) (rest := []) (L := [(45, undef), (46, undef), (47, undef), (48, .bool false), (49, .bool false), (50, undef), (51, undef), (52, undef), (53, .bool false), (54, .bool false), (55, undef), (56, undef), (57, undef), (58, .bool false), (59, .bool false), (60, undef), (61, undef), (62, undef), (63, .bool false), (3, .bool false)]) rfl (by kernel_rfl) ?_
       refine st_end ?_
       refine blk_n ?_
       refine then_n ?_
       refine ⟨false, ?_, Fr.mk (by kernel_rfl) (by kernel_rfl), HM, by omega, hB4, trivial⟩
       ·rw [rchk_j1, if_neg h11, if_pos h26, if_neg h28]
        all_goals (try rfl)
     ·skip
      have hb40 : (m.kind.toInt == 2) = false := beq_eq_false_iff_ne.2 h26
      refine st_pure (l := [0, 1]) (rest := []) (L := [(40, .bool (m.kind.toInt == 2)), (39, .bool false)]) rfl (Eq.trans (b := some [(40, .bool (m.kind.toInt == 2)), (39, .bool (m.kind.toInt == 2))]) (by kernel_rfl) (by simp only [hb40])) ?_
      refine st_end ?_
      refine then_n ?_
      refine c_false (by kernel_rfl) ?_
      refine wp_seq ?_
      refine c_region (L := [0, 1]) (by kernel_rfl) ?_
      by_cases h41 : m.kind.toInt = 3
      ·skip
       have hb42 : (m.kind.toInt == 3) = true := beq_iff_eq.2 h41
       refine st_pure (l := [0, 1]) (rest := []) (L := [(65, .bool (m.kind.toInt == 3)), (64, .bool true)]) rfl (Eq.trans (b := some [(65, .bool (m.kind.toInt == 3)), (64, .bool (m.kind.toInt == 3))]) (by kernel_rfl) (by simp only [hb42])) ?_
       refine st_end ?_
       refine then_n ?_
       refine c_true (by kernel_rfl) ?_
       refine c_region (L := [0, 1, 2, 3, 4, 5, 6, 7, 8, 9, 10, 11, 12, 13, 14, 15, 16, 17, 18, 19, 20, 21, 22, 23, 24, 25, 26, 27, 28]) (by kernel_rfl) ?_
       refine st_pure (l := [0]) (rest := [1, 2, 3, 4, 5, 6, 7, 8, 9, 10, 11, 12, 13, 14, 15, 16, 17, 18, 19, 20, 21, 22, 23, 24, 25, 26, 27, 28]) (L := [(66, .pointer (some ⟨b1, 4, none⟩))]) rfl (by kernel_rfl) ?_
       refine st_load (d := 67) (t := 3) (cs := _) (v := .int .i64 m.bank.toInt) (by kernel_rfl) (hB4.sub 4) (by kernel_rfl) ?_
       by_cases h43 : m.bank.toInt = 5
       ·skip
        have hb44 : (m.bank.toInt == 5) = true := beq_iff_eq.2 h43
        refine st_pure (l := [2, 3]) (rest := [4, 5, 6, 7, 8, 9, 10, 11, 12, 13, 14, 15, 16, 17, 18, 19, 20, 21, 22, 23, 24, 25, 26, 27, 28]) (L := [(68, .bool (m.bank.toInt == 5)), (69, .bool true)]) rfl (Eq.trans (b := some [(68, .bool (m.bank.toInt == 5)), (69, .bool (m.bank.toInt == 5))]) (by kernel_rfl) (by simp only [hb44])) ?_
        refine st_pure (l := [4, 5, 6, 7, 8, 9]) (rest := [10, 11, 12, 13, 14, 15, 16, 17, 18, 19, 20, 21, 22, 23, 24, 25, 26, 27, 28]) (L := [(70, undef), (71, undef), (72, undef), (73, .bool true), (74, .bool true), (75, .pointer (some ⟨b1, 5, none⟩))]) rfl (by kernel_rfl) ?_
        refine st_load (d := 76) (t := 3) (cs := _) (v := .int .i64 m.place.toInt) (by kernel_rfl) (hB4.sub 5) (by kernel_rfl) ?_
        by_cases h45 : m.place.toInt ≥ 0
        ·skip
         have hb46 : (decide (m.place.toInt ≥ 0)) = true := decide_eq_true h45
         refine st_pure (l := [11, 12, 13]) (rest := [14, 15, 16, 17, 18, 19, 20, 21, 22, 23, 24, 25, 26, 27, 28]) (L := [(77, .bool (decide (m.place.toInt ≥ 0))), (78, .bool (decide (m.place.toInt ≥ 0))), (79, .bool true)]) rfl (Eq.trans (b := some [(77, .bool (decide (m.place.toInt ≥ 0))), (78, .bool (decide (m.place.toInt ≥ 0))), (79, .bool (decide (m.place.toInt ≥ 0)))]) (by kernel_rfl) (by simp only [hb46])) ?_
         refine st_pure (l := [14]) (rest := [15, 16, 17, 18, 19, 20, 21, 22, 23, 24, 25, 26, 27, 28]) (L := [(80, .pointer (some ⟨b1, 5, none⟩))]) rfl (by kernel_rfl) ?_
         refine st_load (d := 81) (t := 3) (cs := _) (v := .int .i64 m.place.toInt) (by kernel_rfl) (hB4.sub 5) (by kernel_rfl) ?_
         by_cases h47 : m.place.toInt < 16384
         ·skip
          have hb48 : (decide (m.place.toInt < 16384)) = true := decide_eq_true h47
          refine st_pure (l := [16, 17, 18]) (rest := [19, 20, 21, 22, 23, 24, 25, 26, 27, 28]) (L := [(82, .bool (decide (m.place.toInt < 16384))), (83, .bool (decide (m.place.toInt < 16384))), (84, .bool true)]) rfl (Eq.trans (b := some [(82, .bool (decide (m.place.toInt < 16384))), (83, .bool (decide (m.place.toInt < 16384))), (84, .bool (decide (m.place.toInt < 16384)))]) (by kernel_rfl) (by simp only [hb48])) ?_
          refine st_pure (l := [19]) (rest := [20, 21, 22, 23, 24, 25, 26, 27, 28]) (L := [(85, .pointer (some ⟨b1, 2, none⟩))]) rfl (by kernel_rfl) ?_
          refine st_load (d := 86) (t := 3) (cs := _) (v := .int .i64 m.cls.toInt) (by kernel_rfl) (hB4.sub 2) (by kernel_rfl) ?_
          by_cases h49 : m.cls.toInt = 0
          ·skip
           have hb50 : (m.cls.toInt == 0) = true := beq_iff_eq.2 h49
           refine st_pure (l := [21, 22, 23]) (rest := [24, 25, 26, 27, 28]) (L := [(87, .bool (m.cls.toInt == 0)), (88, .bool (m.cls.toInt == 0)), (89, .bool true)]) rfl (Eq.trans (b := some [(87, .bool (m.cls.toInt == 0)), (88, .bool (m.cls.toInt == 0)), (89, .bool (m.cls.toInt == 0))]) (by kernel_rfl) (by simp only [hb50])) ?_
           refine st_pure (l := [24]) (rest := [25, 26, 27, 28]) (L := [(90, .pointer (some ⟨b1, 3, none⟩))]) rfl (by kernel_rfl) ?_
           refine st_load (d := 91) (t := 5) (cs := _) (v := .int .u8 (m.high.toNat : Int)) (by kernel_rfl) (hB4.sub 3) (by kernel_rfl) ?_
           refine st_pure (l := [26, 27, 28]) (rest := []) (L := [(92, .bool ((m.high.toNat : Int) == 0)), (93, .bool ((m.high.toNat : Int) == 0)), (3, .bool ((m.high.toNat : Int) == 0))]) rfl (by kernel_rfl) ?_
           refine st_end ?_
           refine blk_n ?_
           refine then_n ?_
           refine ⟨(m.high.toNat : Int) == 0, ?_, Fr.mk (by kernel_rfl) (by kernel_rfl), HM, by omega, hB4, trivial⟩
           ·rw [rchk_j1, if_neg h11, if_neg h26, if_pos h41, if_pos h43, if_pos h45, if_pos h47, if_pos h49]
            all_goals (try rfl)
          ·skip
           have hb51 : (m.cls.toInt == 0) = false := beq_eq_false_iff_ne.2 h49
           refine st_pure (l := [21, 22, 23]) (rest := [24, 25, 26, 27, 28]) (L := [(87, .bool (m.cls.toInt == 0)), (88, .bool (m.cls.toInt == 0)), (89, .bool false)]) rfl (Eq.trans (b := some [(87, .bool (m.cls.toInt == 0)), (88, .bool (m.cls.toInt == 0)), (89, .bool (m.cls.toInt == 0))]) (by kernel_rfl) (by simp only [hb51])) ?_
           refine st_pure (l := [24, 25, 26, 27, 28]) (rest := []) (L := [(90, undef), (91, undef), (92, undef), (93, .bool false), (3, .bool false)]) rfl (by kernel_rfl) ?_
           refine st_end ?_
           refine blk_n ?_
           refine then_n ?_
           refine ⟨false, ?_, Fr.mk (by kernel_rfl) (by kernel_rfl), HM, by omega, hB4, trivial⟩
           ·rw [rchk_j1, if_neg h11, if_neg h26, if_pos h41, if_pos h43, if_pos h45, if_pos h47, if_neg h49]
            all_goals (try rfl)
         ·skip
          have hb52 : (decide (m.place.toInt < 16384)) = false := decide_eq_false h47
          refine st_pure (l := [16, 17, 18]) (rest := [19, 20, 21, 22, 23, 24, 25, 26, 27, 28]) (L := [(82, .bool (decide (m.place.toInt < 16384))), (83, .bool (decide (m.place.toInt < 16384))), (84, .bool false)]) rfl (Eq.trans (b := some [(82, .bool (decide (m.place.toInt < 16384))), (83, .bool (decide (m.place.toInt < 16384))), (84, .bool (decide (m.place.toInt < 16384)))]) (by kernel_rfl) (by simp only [hb52])) ?_
          refine st_pure (l := [19, 20, 21, 22, 23, 24, 25, 26, 27, 28]) (rest := []) (L := [(85, undef), (86, undef), (87, undef), (88, .bool false), (89, .bool false), (90, undef), (91, undef), (92, undef), (93, .bool false), (3, .bool false)]) rfl (by kernel_rfl) ?_
          refine st_end ?_
          refine blk_n ?_
          refine then_n ?_
          refine ⟨false, ?_, Fr.mk (by kernel_rfl) (by kernel_rfl), HM, by omega, hB4, trivial⟩
          ·rw [rchk_j1, if_neg h11, if_neg h26, if_pos h41, if_pos h43, if_pos h45, if_neg h47]
           all_goals (try rfl)
        ·skip
         have hb53 : (decide (m.place.toInt ≥ 0)) = false := decide_eq_false h45
         refine st_pure (l := [11, 12, 13]) (rest := [14, 15, 16, 17, 18, 19, 20, 21, 22, 23, 24, 25, 26, 27, 28]) (L := [(77, .bool (decide (m.place.toInt ≥ 0))), (78, .bool (decide (m.place.toInt ≥ 0))), (79, .bool false)]) rfl (Eq.trans (b := some [(77, .bool (decide (m.place.toInt ≥ 0))), (78, .bool (decide (m.place.toInt ≥ 0))), (79, .bool (decide (m.place.toInt ≥ 0)))]) (by kernel_rfl) (by simp only [hb53])) ?_
         refine st_pure (l := [14, 15, 16, 17, 18, 19, 20, 21, 22, 23, 24, 25, 26, 27, 28]) (rest := []) (L := [(80, undef), (81, undef), (82, undef), (83, .bool false), (84, .bool false), (85, undef), (86, undef), (87, undef), (88, .bool false), (89, .bool false), (90, undef), (91, undef), (92, undef), (93, .bool false), (3, .bool false)]) rfl (by kernel_rfl) ?_
         refine st_end ?_
         refine blk_n ?_
         refine then_n ?_
         refine ⟨false, ?_, Fr.mk (by kernel_rfl) (by kernel_rfl), HM, by omega, hB4, trivial⟩
         ·rw [rchk_j1, if_neg h11, if_neg h26, if_pos h41, if_pos h43, if_neg h45]
          all_goals (try rfl)
       ·skip
        have hb54 : (m.bank.toInt == 5) = false := beq_eq_false_iff_ne.2 h43
        refine st_pure (l := [2, 3]) (rest := [4, 5, 6, 7, 8, 9, 10, 11, 12, 13, 14, 15, 16, 17, 18, 19, 20, 21, 22, 23, 24, 25, 26, 27, 28]) (L := [(68, .bool (m.bank.toInt == 5)), (69, .bool false)]) rfl (Eq.trans (b := some [(68, .bool (m.bank.toInt == 5)), (69, .bool (m.bank.toInt == 5))]) (by kernel_rfl) (by simp only [hb54])) ?_
        refine st_pure (l := [4]) (rest := [5, 6, 7, 8, 9, 10, 11, 12, 13, 14, 15, 16, 17, 18, 19, 20, 21, 22, 23, 24, 25, 26, 27, 28]) (L := [(70, .pointer (some ⟨b1, 4, none⟩))]) rfl (by kernel_rfl) ?_
        refine st_load (d := 71) (t := 3) (cs := _) (v := .int .i64 m.bank.toInt) (by kernel_rfl) (hB4.sub 4) (by kernel_rfl) ?_
        by_cases h55 : m.bank.toInt = 7
        ·skip
         have hb56 : (m.bank.toInt == 7) = true := beq_iff_eq.2 h55
         refine st_pure (l := [6, 7, 8]) (rest := [9, 10, 11, 12, 13, 14, 15, 16, 17, 18, 19, 20, 21, 22, 23, 24, 25, 26, 27, 28]) (L := [(72, .bool (m.bank.toInt == 7)), (73, .bool (m.bank.toInt == 7)), (74, .bool true)]) rfl (Eq.trans (b := some [(72, .bool (m.bank.toInt == 7)), (73, .bool (m.bank.toInt == 7)), (74, .bool (m.bank.toInt == 7))]) (by kernel_rfl) (by simp only [hb56])) ?_
         refine st_pure (l := [9]) (rest := [10, 11, 12, 13, 14, 15, 16, 17, 18, 19, 20, 21, 22, 23, 24, 25, 26, 27, 28]) (L := [(75, .pointer (some ⟨b1, 5, none⟩))]) rfl (by kernel_rfl) ?_
         refine st_load (d := 76) (t := 3) (cs := _) (v := .int .i64 m.place.toInt) (by kernel_rfl) (hB4.sub 5) (by kernel_rfl) ?_
         by_cases h57 : m.place.toInt ≥ 0
         ·skip
          have hb58 : (decide (m.place.toInt ≥ 0)) = true := decide_eq_true h57
          refine st_pure (l := [11, 12, 13]) (rest := [14, 15, 16, 17, 18, 19, 20, 21, 22, 23, 24, 25, 26, 27, 28]) (L := [(77, .bool (decide (m.place.toInt ≥ 0))), (78, .bool (decide (m.place.toInt ≥ 0))), (79, .bool true)]) rfl (Eq.trans (b := some [(77, .bool (decide (m.place.toInt ≥ 0))), (78, .bool (decide (m.place.toInt ≥ 0))), (79, .bool (decide (m.place.toInt ≥ 0)))]) (by kernel_rfl) (by simp only [hb58])) ?_
          refine st_pure (l := [14]) (rest := [15, 16, 17, 18, 19, 20, 21, 22, 23, 24, 25, 26, 27, 28]) (L := [(80, .pointer (some ⟨b1, 5, none⟩))]) rfl (by kernel_rfl) ?_
          refine st_load (d := 81) (t := 3) (cs := _) (v := .int .i64 m.place.toInt) (by kernel_rfl) (hB4.sub 5) (by kernel_rfl) ?_
          by_cases h59 : m.place.toInt < 16384
          ·skip
           have hb60 : (decide (m.place.toInt < 16384)) = true := decide_eq_true h59
           refine st_pure (l := [16, 17, 18]) (rest := [19, 20, 21, 22, 23, 24, 25, 26, 27, 28]) (L := [(82, .bool (decide (m.place.toInt < 16384))), (83, .bool (decide (m.place.toInt < 16384))), (84, .bool true)]) rfl (Eq.trans (b := some [(82, .bool (decide (m.place.toInt < 16384))), (83, .bool (decide (m.place.toInt < 16384))), (84, .bool (decide (m.place.toInt < 16384)))]) (by kernel_rfl) (by simp only [hb60])) ?_
           refine st_pure (l := [19]) (rest := [20, 21, 22, 23, 24, 25, 26, 27, 28]) (L := [(85, .pointer (some ⟨b1, 2, none⟩))]) rfl (by kernel_rfl) ?_
           refine st_load (d := 86) (t := 3) (cs := _) (v := .int .i64 m.cls.toInt) (by kernel_rfl) (hB4.sub 2) (by kernel_rfl) ?_
           by_cases h61 : m.cls.toInt = 0
           ·skip
            have hb62 : (m.cls.toInt == 0) = true := beq_iff_eq.2 h61
            refine st_pure (l := [21, 22, 23]) (rest := [24, 25, 26, 27, 28]) (L := [(87, .bool (m.cls.toInt == 0)), (88, .bool (m.cls.toInt == 0)), (89, .bool true)]) rfl (Eq.trans (b := some [(87, .bool (m.cls.toInt == 0)), (88, .bool (m.cls.toInt == 0)), (89, .bool (m.cls.toInt == 0))]) (by kernel_rfl) (by simp only [hb62])) ?_
            refine st_pure (l := [24]) (rest := [25, 26, 27, 28]) (L := [(90, .pointer (some ⟨b1, 3, none⟩))]) rfl (by kernel_rfl) ?_
            refine st_load (d := 91) (t := 5) (cs := _) (v := .int .u8 (m.high.toNat : Int)) (by kernel_rfl) (hB4.sub 3) (by kernel_rfl) ?_
            refine st_pure (l := [26, 27, 28]) (rest := []) (L := [(92, .bool ((m.high.toNat : Int) == 0)), (93, .bool ((m.high.toNat : Int) == 0)), (3, .bool ((m.high.toNat : Int) == 0))]) rfl (by kernel_rfl) ?_
            refine st_end ?_
            refine blk_n ?_
            refine then_n ?_
            refine ⟨(m.high.toNat : Int) == 0, ?_, Fr.mk (by kernel_rfl) (by kernel_rfl), HM, by omega, hB4, trivial⟩
            ·rw [rchk_j1, if_neg h11, if_neg h26, if_pos h41, if_neg h43, if_pos h55, if_pos h57, if_pos h59, if_pos h61]
             all_goals (try rfl)
           ·skip
            have hb63 : (m.cls.toInt == 0) = false := beq_eq_false_iff_ne.2 h61
            refine st_pure (l := [21, 22, 23]) (rest := [24, 25, 26, 27, 28]) (L := [(87, .bool (m.cls.toInt == 0)), (88, .bool (m.cls.toInt == 0)), (89, .bool false)]) rfl (Eq.trans (b := some [(87, .bool (m.cls.toInt == 0)), (88, .bool (m.cls.toInt == 0)), (89, .bool (m.cls.toInt == 0))]) (by kernel_rfl) (by simp only [hb63])) ?_
            refine st_pure (l := [24, 25, 26, 27, 28]) (rest := []) (L := [(90, undef), (91, undef), (92, undef), (93, .bool false), (3, .bool false)]) rfl (by kernel_rfl) ?_
            refine st_end ?_
            refine blk_n ?_
            refine then_n ?_
            refine ⟨false, ?_, Fr.mk (by kernel_rfl) (by kernel_rfl), HM, by omega, hB4, trivial⟩
            ·rw [rchk_j1, if_neg h11, if_neg h26, if_pos h41, if_neg h43, if_pos h55, if_pos h57, if_pos h59, if_neg h61]
             all_goals (try rfl)
          ·skip
           have hb64 : (decide (m.place.toInt < 16384)) = false := decide_eq_false h59
           refine st_pure (l := [16, 17, 18]) (rest := [19, 20, 21, 22, 23, 24, 25, 26, 27, 28]) (L := [(82, .bool (decide (m.place.toInt < 16384))), (83, .bool (decide (m.place.toInt < 16384))), (84, .bool false)]) rfl (Eq.trans (b := some [(82, .bool (decide (m.place.toInt < 16384))), (83, .bool (decide (m.place.toInt < 16384))), (84, .bool (decide (m.place.toInt < 16384)))]) (by kernel_rfl) (by simp only [hb64])) ?_
           refine st_pure (l := [19, 20, 21, 22, 23, 24, 25, 26, 27, 28]) (rest := []) (L := [(85, undef), (86, undef), (87, undef), (88, .bool false), (89, .bool false), (90, undef), (91, undef), (92, undef), (93, .bool false), (3, .bool false)]) rfl (by kernel_rfl) ?_
           refine st_end ?_
           refine blk_n ?_
           refine then_n ?_
           refine ⟨false, ?_, Fr.mk (by kernel_rfl) (by kernel_rfl), HM, by omega, hB4, trivial⟩
           ·rw [rchk_j1, if_neg h11, if_neg h26, if_pos h41, if_neg h43, if_pos h55, if_pos h57, if_neg h59]
            all_goals (try rfl)
         ·skip
          have hb65 : (decide (m.place.toInt ≥ 0)) = false := decide_eq_false h57
          refine st_pure (l := [11, 12, 13]) (rest := [14, 15, 16, 17, 18, 19, 20, 21, 22, 23, 24, 25, 26, 27, 28]) (L := [(77, .bool (decide (m.place.toInt ≥ 0))), (78, .bool (decide (m.place.toInt ≥ 0))), (79, .bool false)]) rfl (Eq.trans (b := some [(77, .bool (decide (m.place.toInt ≥ 0))), (78, .bool (decide (m.place.toInt ≥ 0))), (79, .bool (decide (m.place.toInt ≥ 0)))]) (by kernel_rfl) (by simp only [hb65])) ?_
          refine st_pure (l := [14, 15, 16, 17, 18, 19, 20, 21, 22, 23, 24, 25, 26, 27, 28]) (rest := []) (L := [(80, undef), (81, undef), (82, undef), (83, .bool false), (84, .bool false), (85, undef), (86, undef), (87, undef), (88, .bool false), (89, .bool false), (90, undef), (91, undef), (92, undef), (93, .bool false), (3, .bool false)]) rfl (by kernel_rfl) ?_
          refine st_end ?_
          refine blk_n ?_
          refine then_n ?_
          refine ⟨false, ?_, Fr.mk (by kernel_rfl) (by kernel_rfl), HM, by omega, hB4, trivial⟩
          ·rw [rchk_j1, if_neg h11, if_neg h26, if_pos h41, if_neg h43, if_pos h55, if_neg h57]
           all_goals (try rfl)
        ·skip
         have hb66 : (m.bank.toInt == 7) = false := beq_eq_false_iff_ne.2 h55
         refine st_pure (l := [6, 7, 8]) (rest := [9, 10, 11, 12, 13, 14, 15, 16, 17, 18, 19, 20, 21, 22, 23, 24, 25, 26, 27, 28]) (L := [(72, .bool (m.bank.toInt == 7)), (73, .bool (m.bank.toInt == 7)), (74, .bool false)]) rfl (Eq.trans (b := some [(72, .bool (m.bank.toInt == 7)), (73, .bool (m.bank.toInt == 7)), (74, .bool (m.bank.toInt == 7))]) (by kernel_rfl) (by simp only [hb66])) ?_
         refine st_pure (l := [9, 10, 11, 12, 13, 14, 15, 16, 17, 18, 19, 20, 21, 22, 23, 24, 25, 26, 27, 28]) (rest := []) (L := [(75, undef), (76, undef), (77, undef), (78, .bool false), (79, .bool false), (80, undef), (81, undef), (82, undef), (83, .bool false), (84, .bool false), (85, undef), (86, undef), (87, undef), (88, .bool false), (89, .bool false), (90, undef), (91, undef), (92, undef), (93, .bool false), (3, .bool false)]) rfl (by kernel_rfl) ?_
         refine st_end ?_
         refine blk_n ?_
         refine then_n ?_
         refine ⟨false, ?_, Fr.mk (by kernel_rfl) (by kernel_rfl), HM, by omega, hB4, trivial⟩
         ·rw [rchk_j1, if_neg h11, if_neg h26, if_pos h41, if_neg h43, if_neg h55]
          all_goals (try rfl)
      ·skip
       have hb67 : (m.kind.toInt == 3) = false := beq_eq_false_iff_ne.2 h41
       refine st_pure (l := [0, 1]) (rest := []) (L := [(65, .bool (m.kind.toInt == 3)), (64, .bool false)]) rfl (Eq.trans (b := some [(65, .bool (m.kind.toInt == 3)), (64, .bool (m.kind.toInt == 3))]) (by kernel_rfl) (by simp only [hb67])) ?_
       refine st_end ?_
       refine then_n ?_
       refine c_false (by kernel_rfl) ?_
       refine wp_seq ?_
       refine c_cut (J := fun a w' => ∃ s94_2 : Bool, rchk_j2 m = s94_2 ∧ Fr 117 [(1, .pointer (some ⟨b1, 0, none⟩)), (3, .bool false), (13, .int .i64 m.kind.toInt), (94, .bool s94_2)] a ∧ Mod (Nil) w w' ∧ w2.heap.size ≤ w'.heap.size ∧ Blk w' b1 35 [.int .i64 m.kind.toInt, .int .i64 m.time.toInt, .int .i64 m.cls.toInt, .int .u8 (m.high.toNat : Int), .int .i64 m.bank.toInt, .int .i64 m.place.toInt, .int .u8 (m.value.toNat : Int)] ∧ True) ?_ ?_
       ·skip
        refine wp_seq ?_
        refine c_region (L := [0, 1]) (by kernel_rfl) ?_
        by_cases h68 : m.kind.toInt = 4
        ·skip
         have hb69 : (m.kind.toInt == 4) = true := beq_iff_eq.2 h68
         refine st_pure (l := [0, 1]) (rest := []) (L := [(95, .bool (m.kind.toInt == 4)), (94, .bool true)]) rfl (Eq.trans (b := some [(95, .bool (m.kind.toInt == 4)), (94, .bool (m.kind.toInt == 4))]) (by kernel_rfl) (by simp only [hb69])) ?_
         refine st_end ?_
         refine then_n ?_
         refine c_true (by kernel_rfl) ?_
         refine wp_skip ?_
         refine then_n ?_
         refine ⟨true, ?_, Fr.mk (by kernel_rfl) (by kernel_rfl), HM, by omega, hB4, trivial⟩
         ·rw [rchk_j2, if_pos h68]
          all_goals (try rfl)
        ·skip
         have hb70 : (m.kind.toInt == 4) = false := beq_eq_false_iff_ne.2 h68
         refine st_pure (l := [0, 1]) (rest := []) (L := [(95, .bool (m.kind.toInt == 4)), (94, .bool false)]) rfl (Eq.trans (b := some [(95, .bool (m.kind.toInt == 4)), (94, .bool (m.kind.toInt == 4))]) (by kernel_rfl) (by simp only [hb70])) ?_
         refine st_end ?_
         refine then_n ?_
         refine c_false (by kernel_rfl) ?_
         refine c_region (L := [0, 1]) (by kernel_rfl) ?_
         by_cases h71 : m.kind.toInt = 5
         ·skip
          have hb72 : (m.kind.toInt == 5) = true := beq_iff_eq.2 h71
          refine st_pure (l := [0, 1]) (rest := []) (L := [(96, .bool (m.kind.toInt == 5)), (94, .bool true)]) rfl (Eq.trans (b := some [(96, .bool (m.kind.toInt == 5)), (94, .bool (m.kind.toInt == 5))]) (by kernel_rfl) (by simp only [hb72])) ?_
          refine st_end ?_
          refine then_n ?_
          refine ⟨true, ?_, Fr.mk (by kernel_rfl) (by kernel_rfl), HM, by omega, hB4, trivial⟩
          ·rw [rchk_j2, if_neg h68, if_pos h71]
           all_goals (try rfl)
         ·skip
          have hb73 : (m.kind.toInt == 5) = false := beq_eq_false_iff_ne.2 h71
          refine st_pure (l := [0, 1]) (rest := []) (L := [(96, .bool (m.kind.toInt == 5)), (94, .bool false)]) rfl (Eq.trans (b := some [(96, .bool (m.kind.toInt == 5)), (94, .bool (m.kind.toInt == 5))]) (by kernel_rfl) (by simp only [hb73])) ?_
          refine st_end ?_
          refine then_n ?_
          refine ⟨false, ?_, Fr.mk (by kernel_rfl) (by kernel_rfl), HM, by omega, hB4, trivial⟩
          ·rw [rchk_j2, if_neg h68, if_neg h71]
           all_goals (try rfl)
       ·rintro a w74 ⟨s94_2, hJ75, ⟨Tf, rfl⟩, HM', hszw74, hB4', -⟩
        clear HM hB4
        have HM := HM'; clear HM'
        have hB4 := hB4'; clear hB4'
        by_cases h77 : s94_2 = true
        ·skip
         have hb78 : (s94_2) = true := by simpa using h77
         refine c_true (Eq.trans (b := .bool s94_2) (by kernel_rfl) (by rw [hb78])) ?_
         refine c_region (L := [0, 1, 2, 3, 4, 5, 6, 7]) (by kernel_rfl) ?_
         refine st_load (d := 97) (t := 35) (cs := _) (v := .agg #[.int .i64 m.kind.toInt, .int .i64 m.time.toInt, .int .i64 m.cls.toInt, .int .u8 (m.high.toNat : Int), .int .i64 m.bank.toInt, .int .i64 m.place.toInt, .int .u8 (m.value.toNat : Int)]) (by kernel_rfl) (hB4.sub 0) (by kernel_rfl) ?_
         refine st_pure (l := [1]) (rest := [2, 3, 4, 5, 6, 7]) (L := [(98, .pointer (some ⟨b1, 0, none⟩))]) rfl (by kernel_rfl) ?_
         refine st_load (d := 99) (t := 3) (cs := _) (v := .int .i64 m.kind.toInt) (by kernel_rfl) (hB4.sub 0) (by kernel_rfl) ?_
         refine st_pure (l := [3]) (rest := [4, 5, 6, 7]) (L := [(100, .pointer (some ⟨b1, 1, none⟩))]) rfl (by kernel_rfl) ?_
         refine st_load (d := 101) (t := 2) (cs := _) (v := .int .i64 m.time.toInt) (by kernel_rfl) (hB4.sub 1) (by kernel_rfl) ?_
         refine st_pure (l := [5]) (rest := [6, 7]) (L := [(102, .agg #[.int .i64 m.kind.toInt, .int .i64 m.time.toInt, .int .i64 0, .int .u8 0, .int .i64 0, .int .i64 0, .int .u8 0])]) rfl (by kernel_rfl) ?_
         refine st_comes (d := 103) (v := .bool (((m.kind.toInt == m.kind.toInt) && ((m.time.toInt == m.time.toInt) && ((m.cls.toInt == 0) && (((m.high.toNat : Int) == 0) && ((m.bank.toInt == 0) && ((m.place.toInt == 0) && (((m.value.toNat : Int) == 0) && true))))))) != false)) (comes_eq (t := 35) (neg := false) (xs := #[.int .i64 m.kind.toInt, .int .i64 m.time.toInt, .int .i64 m.cls.toInt, .int .u8 (m.high.toNat : Int), .int .i64 m.bank.toInt, .int .i64 m.place.toInt, .int .u8 (m.value.toNat : Int)]) (ys := #[.int .i64 m.kind.toInt, .int .i64 m.time.toInt, .int .i64 0, .int .u8 0, .int .i64 0, .int .i64 0, .int .u8 0]) (b := ((m.kind.toInt == m.kind.toInt) && ((m.time.toInt == m.time.toInt) && ((m.cls.toInt == 0) && (((m.high.toNat : Int) == 0) && ((m.bank.toInt == 0) && ((m.place.toInt == 0) && (((m.value.toNat : Int) == 0) && true)))))))) (by kernel_rfl) (by kernel_rfl) (by kernel_rfl)) ?_
         refine st_pure (l := [7]) (rest := []) (L := [(3, .bool (((m.kind.toInt == m.kind.toInt) && ((m.time.toInt == m.time.toInt) && ((m.cls.toInt == 0) && (((m.high.toNat : Int) == 0) && ((m.bank.toInt == 0) && ((m.place.toInt == 0) && (((m.value.toNat : Int) == 0) && true))))))) != false))]) rfl (by kernel_rfl) ?_
         refine st_end ?_
         refine blk_n ?_
         refine then_n ?_
         refine ⟨((m.kind.toInt == m.kind.toInt) && ((m.time.toInt == m.time.toInt) && ((m.cls.toInt == 0) && (((m.high.toNat : Int) == 0) && ((m.bank.toInt == 0) && ((m.place.toInt == 0) && (((m.value.toNat : Int) == 0) && true))))))) != false, ?_, Fr.mk (by kernel_rfl) (by kernel_rfl), HM, by omega, hB4, trivial⟩
         ·rw [rchk_j1, if_neg h11, if_neg h26, if_neg h41]
          try simp only [hJ75]
          rw [if_pos h77]
          all_goals (try rfl)
        ·skip
         have hb79 : (s94_2) = false := by simpa using h77
         refine c_false (Eq.trans (b := .bool s94_2) (by kernel_rfl) (by rw [hb79])) ?_
         refine wp_seq ?_
         refine c_region (L := [0, 1]) (by kernel_rfl) ?_
         by_cases h80 : m.kind.toInt = 6
         ·skip
          have hb81 : (m.kind.toInt == 6) = true := beq_iff_eq.2 h80
          refine st_pure (l := [0, 1]) (rest := []) (L := [(105, .bool (m.kind.toInt == 6)), (104, .bool true)]) rfl (Eq.trans (b := some [(105, .bool (m.kind.toInt == 6)), (104, .bool (m.kind.toInt == 6))]) (by kernel_rfl) (by simp only [hb81])) ?_
          refine st_end ?_
          refine then_n ?_
          refine c_true (by kernel_rfl) ?_
          refine c_region (L := [0, 1, 2, 3, 4, 5, 6, 7, 8, 9]) (by kernel_rfl) ?_
          refine st_load (d := 106) (t := 35) (cs := _) (v := .agg #[.int .i64 m.kind.toInt, .int .i64 m.time.toInt, .int .i64 m.cls.toInt, .int .u8 (m.high.toNat : Int), .int .i64 m.bank.toInt, .int .i64 m.place.toInt, .int .u8 (m.value.toNat : Int)]) (by kernel_rfl) (hB4.sub 0) (by kernel_rfl) ?_
          refine st_pure (l := [1]) (rest := [2, 3, 4, 5, 6, 7, 8, 9]) (L := [(107, .pointer (some ⟨b1, 0, none⟩))]) rfl (by kernel_rfl) ?_
          refine st_load (d := 108) (t := 3) (cs := _) (v := .int .i64 m.kind.toInt) (by kernel_rfl) (hB4.sub 0) (by kernel_rfl) ?_
          refine st_pure (l := [3]) (rest := [4, 5, 6, 7, 8, 9]) (L := [(109, .pointer (some ⟨b1, 1, none⟩))]) rfl (by kernel_rfl) ?_
          refine st_load (d := 110) (t := 2) (cs := _) (v := .int .i64 m.time.toInt) (by kernel_rfl) (hB4.sub 1) (by kernel_rfl) ?_
          refine st_pure (l := [5]) (rest := [6, 7, 8, 9]) (L := [(111, .pointer (some ⟨b1, 6, none⟩))]) rfl (by kernel_rfl) ?_
          refine st_load (d := 112) (t := 5) (cs := _) (v := .int .u8 (m.value.toNat : Int)) (by kernel_rfl) (hB4.sub 6) (by kernel_rfl) ?_
          refine st_pure (l := [7]) (rest := [8, 9]) (L := [(113, .agg #[.int .i64 m.kind.toInt, .int .i64 m.time.toInt, .int .i64 0, .int .u8 0, .int .i64 0, .int .i64 0, .int .u8 (m.value.toNat : Int)])]) rfl (by kernel_rfl) ?_
          refine st_comes (d := 114) (v := .bool (((m.kind.toInt == m.kind.toInt) && ((m.time.toInt == m.time.toInt) && ((m.cls.toInt == 0) && (((m.high.toNat : Int) == 0) && ((m.bank.toInt == 0) && ((m.place.toInt == 0) && (((m.value.toNat : Int) == (m.value.toNat : Int)) && true))))))) != false)) (comes_eq (t := 35) (neg := false) (xs := #[.int .i64 m.kind.toInt, .int .i64 m.time.toInt, .int .i64 m.cls.toInt, .int .u8 (m.high.toNat : Int), .int .i64 m.bank.toInt, .int .i64 m.place.toInt, .int .u8 (m.value.toNat : Int)]) (ys := #[.int .i64 m.kind.toInt, .int .i64 m.time.toInt, .int .i64 0, .int .u8 0, .int .i64 0, .int .i64 0, .int .u8 (m.value.toNat : Int)]) (b := ((m.kind.toInt == m.kind.toInt) && ((m.time.toInt == m.time.toInt) && ((m.cls.toInt == 0) && (((m.high.toNat : Int) == 0) && ((m.bank.toInt == 0) && ((m.place.toInt == 0) && (((m.value.toNat : Int) == (m.value.toNat : Int)) && true)))))))) (by kernel_rfl) (by kernel_rfl) (by kernel_rfl)) ?_
          refine st_pure (l := [9]) (rest := []) (L := [(3, .bool (((m.kind.toInt == m.kind.toInt) && ((m.time.toInt == m.time.toInt) && ((m.cls.toInt == 0) && (((m.high.toNat : Int) == 0) && ((m.bank.toInt == 0) && ((m.place.toInt == 0) && (((m.value.toNat : Int) == (m.value.toNat : Int)) && true))))))) != false))]) rfl (by kernel_rfl) ?_
          refine st_end ?_
          refine blk_n ?_
          refine then_n ?_
          refine ⟨((m.kind.toInt == m.kind.toInt) && ((m.time.toInt == m.time.toInt) && ((m.cls.toInt == 0) && (((m.high.toNat : Int) == 0) && ((m.bank.toInt == 0) && ((m.place.toInt == 0) && (((m.value.toNat : Int) == (m.value.toNat : Int)) && true))))))) != false, ?_, Fr.mk (by kernel_rfl) (by kernel_rfl), HM, by omega, hB4, trivial⟩
          ·rw [rchk_j1, if_neg h11, if_neg h26, if_neg h41]
           try simp only [hJ75]
           rw [if_neg h77, if_pos h80]
           all_goals (try rfl)
         ·skip
          have hb82 : (m.kind.toInt == 6) = false := beq_eq_false_iff_ne.2 h80
          refine st_pure (l := [0, 1]) (rest := []) (L := [(105, .bool (m.kind.toInt == 6)), (104, .bool false)]) rfl (Eq.trans (b := some [(105, .bool (m.kind.toInt == 6)), (104, .bool (m.kind.toInt == 6))]) (by kernel_rfl) (by simp only [hb82])) ?_
          refine st_end ?_
          refine then_n ?_
          refine c_false (by kernel_rfl) ?_
          refine wp_skip ?_
          refine blk_n ?_
          refine then_n ?_
          refine ⟨false, ?_, Fr.mk (by kernel_rfl) (by kernel_rfl), HM, by omega, hB4, trivial⟩
          ·rw [rchk_j1, if_neg h11, if_neg h26, if_neg h41]
           try simp only [hJ75]
           rw [if_neg h77, if_neg h80]
           all_goals (try rfl)
   ·rintro a w83 ⟨s3_1, hJ84, ⟨Tf, rfl⟩, HM', hszw83, hB4', -⟩
    clear HM hB4
    have HM := HM'; clear HM'
    have hB4 := hB4'; clear hB4'
    refine wp_seq ?_
    refine wp_seq ?_
    refine c_region (L := [0, 1]) (by kernel_rfl) ?_
    by_cases h86 : s3_1 = true
    ·skip
     have hb87 : (s3_1) = true := by simpa using h86
     refine st_pure (l := [0]) (rest := [1]) (L := [(115, .bool true)]) rfl (Eq.trans (b := some [(115, .bool s3_1)]) (by kernel_rfl) (by simp only [hb87])) ?_
     refine st_pure (l := [1]) (rest := []) (L := [(116, .bool false)]) rfl (by kernel_rfl) ?_
     refine st_end ?_
     refine then_n ?_
     refine c_false (by kernel_rfl) ?_
     refine wp_skip ?_
     refine then_n ?_
     refine wp_seq ?_
     refine c_region (L := [0]) (by kernel_rfl) ?_
     refine st_pure (l := [0]) (rest := []) (L := [(2, .int .i64 0)]) rfl (by kernel_rfl) ?_
     refine st_end ?_
     refine then_n ?_
     refine wp_ret ?_
     refine post_ret (v := .int .i64 0) (by kernel_rfl) ?_
     refine ⟨0, ?_, rfl, ?_, HM⟩
     ·rw [rchk, if_neg h5, if_neg h8]
      try simp only [hJ84]
      rw [if_pos h86]
      all_goals (try rfl)
     ·omega
    ·skip
     have hb88 : (s3_1) = false := by simpa using h86
     refine st_pure (l := [0]) (rest := [1]) (L := [(115, .bool false)]) rfl (Eq.trans (b := some [(115, .bool s3_1)]) (by kernel_rfl) (by simp only [hb88])) ?_
     refine st_pure (l := [1]) (rest := []) (L := [(116, .bool true)]) rfl (by kernel_rfl) ?_
     refine st_end ?_
     refine then_n ?_
     refine c_true (by kernel_rfl) ?_
     refine wp_seq ?_
     refine c_region (L := [0]) (by kernel_rfl) ?_
     refine st_pure (l := [0]) (rest := []) (L := [(2, .int .i64 2)]) rfl (by kernel_rfl) ?_
     refine st_end ?_
     refine then_n ?_
     refine wp_ret ?_
     refine then_r ?_
     refine post_ret (v := .int .i64 2) (by kernel_rfl) ?_
     refine ⟨2, ?_, rfl, ?_, HM⟩
     ·rw [rchk, if_neg h5, if_neg h8]
      try simp only [hJ84]
      rw [if_neg h86]
      all_goals (try rfl)
     ·omega

def rmbytes (m : Msg) : List UInt8 × Int :=
  match rchk m with
  | e5 =>
   if e5 ≠ 0 then
    ([], 2)
   else
    ((((((((([] : List UInt8) ++ num (IntKind.wrap .u64 (m.kind.toInt)).toNat) ++ num (IntKind.wrap .u64 (m.time.toInt)).toNat) ++ num (IntKind.wrap .u64 (m.cls.toInt)).toNat) ++ num (m.high.toNat : Int).toNat) ++ num (IntKind.wrap .u64 (m.bank.toInt)).toNat) ++ num (IntKind.wrap .u64 (m.place.toInt)).toNat) ++ num (m.value.toNat : Int).toNat), 0)

theorem rBytes_ok {w : World} {m : Msg} :
  Ret Try.prog 16 #[.agg #[.int .i64 m.kind.toInt, .int .i64 m.time.toInt, .int .i64 m.cls.toInt, .int .u8 (m.high.toNat : Int), .int .i64 m.bank.toInt, .int .i64 m.place.toInt, .int .u8 (m.value.toNat : Int)]] w fun v w' => ∃ l2 : List UInt8, ∃ e2 : Int, ∃ A2 : Option Addr, ∃ c2 : Nat, rmbytes m = (l2, e2) ∧ v = .tuple #[.slice A2 l2.length c2, .int .i64 e2] ∧ (A2 = none → c2 = 0) ∧ (l2.length ≤ c2) ∧ (-9223372036854775808 ≤ e2 ∧ e2 ≤ 9223372036854775807) ∧ (l2.length ≤ 63) ∧ Own tyU8 5 w' (w.heap.size) (w'.heap.size) (.slice A2 l2.length c2) l2 ∧ RdA tyU8 w' (w.heap.size) (w'.heap.size) A2 l2 ∧ Mod (Nil) w w' := by
 have hrm_0 := i64_lo m.kind
 have hrm_1 := i64_lo m.time
 have hrm_2 := i64_lo m.cls
 have hrm_4 := i64_lo m.bank
 have hrm_5 := i64_lo m.place
 have hsm_0 := i64_hi m.kind
 have hsm_1 := i64_hi m.time
 have hsm_2 := i64_hi m.cls
 have hsm_3 := u8_hi m.high
 have hsm_4 := i64_hi m.bank
 have hsm_5 := i64_hi m.place
 have hsm_6 := u8_hi m.value
 have HM : Mod (Nil) w w := Mod.refl _ w
 refine ret_of Try.func16 rfl rfl ?_
 refine wp_seq ?_
 refine c_region (L := [0, 1, 2]) (by kernel_rfl) ?_
 refine st_new (d := 1) (e := 35) (C := [.int .i64 m.kind.toInt, .int .i64 m.time.toInt, .int .i64 m.cls.toInt, .int .u8 (m.high.toNat : Int), .int .i64 m.bank.toInt, .int .i64 m.place.toInt, .int .u8 (m.value.toNat : Int)]) (V := fun r => .pointer (some ⟨r, 0, none⟩)) (by kernel_rfl) ?_
 intro b1 w2 m3 lb1 ub1 hB4
 replace HM := HM.tr0 m3
 have hszw2 := m3.size
 refine st_pure (l := [1, 2]) (rest := []) (L := [(2, .slice none 0 0), (3, .int .i64 0)]) rfl (by kernel_rfl) ?_
 refine st_end ?_
 refine then_n ?_
 refine wp_seq ?_
 refine wp_seq ?_
 refine c_region (L := [0, 1, 2]) (by kernel_rfl) ?_
 refine st_load (d := 7) (t := 35) (cs := _) (v := .agg #[.int .i64 m.kind.toInt, .int .i64 m.time.toInt, .int .i64 m.cls.toInt, .int .u8 (m.high.toNat : Int), .int .i64 m.bank.toInt, .int .i64 m.place.toInt, .int .u8 (m.value.toNat : Int)]) (by kernel_rfl) (hB4.sub 0) (by kernel_rfl) ?_
 refine st_fn (d := 8) (f := 19) (xs := #[.agg #[.int .i64 m.kind.toInt, .int .i64 m.time.toInt, .int .i64 m.cls.toInt, .int .u8 (m.high.toNat : Int), .int .i64 m.bank.toInt, .int .i64 m.place.toInt, .int .u8 (m.value.toNat : Int)]]) (R := _) (by kernel_rfl) (rCheck_ok (w := w2) (m := m) ) ?_
 rintro vw6 w6 ⟨e5, hsp7, rfl, e5_r, m9⟩
 replace hB4 := hB4.mod m9 (fun q => q)
 replace HM := HM.tr0 m9
 have hszw6 := m9.size
 by_cases h10 : e5 ≠ 0
 ·skip
  have hb11 : (e5 != 0) = true := by first | (rw [bne_iff_ne]; exact h10) | (rw [bne_eq_false_iff_eq]; omega)
  refine st_pure (l := [2]) (rest := []) (L := [(9, .bool true)]) rfl (Eq.trans (b := some [(9, .bool (e5 != 0))]) (by kernel_rfl) (by simp only [hb11])) ?_
  refine st_end ?_
  refine then_n ?_
  refine c_true (by kernel_rfl) ?_
  refine wp_seq ?_
  refine c_region (L := [0, 1]) (by kernel_rfl) ?_
  refine st_pure (l := [0, 1]) (rest := []) (L := [(2, .slice none 0 0), (3, .int .i64 2)]) rfl (by kernel_rfl) ?_
  refine st_end ?_
  refine then_n ?_
  refine wp_ret ?_
  refine then_r ?_
  refine post_ret (v := .tuple #[.slice none 0 0, .int .i64 2]) (by kernel_rfl) ?_
  refine ⟨[], 2, none, 0, ?_, rfl, ?_, ?_, ?_, ?_, Own.nil, RdA.nil, HM⟩
  ·rw [rmbytes]
   try simp only [hsp7]
   rw [if_pos h10]
   all_goals (try rfl)
  ·exact fun _ => rfl
  ·simp
  ·omega
  ·simp only [List.length_append, List.length_cons, List.length_nil] at *; omega
 ·skip
  have hb12 : (e5 != 0) = false := by rw [bne_eq_false_iff_eq]; exact Decidable.not_not.1 h10
  refine st_pure (l := [2]) (rest := []) (L := [(9, .bool false)]) rfl (Eq.trans (b := some [(9, .bool (e5 != 0))]) (by kernel_rfl) (by simp only [hb12])) ?_
  refine st_end ?_
  refine then_n ?_
  refine c_false (by kernel_rfl) ?_
  refine wp_skip ?_
  refine then_n ?_
  refine wp_seq ?_
  refine c_region (L := [0, 1, 2, 3, 4, 5, 6, 7, 8, 9, 10, 11, 12, 13, 14, 15, 16, 17, 18, 19, 20, 21, 22]) (by kernel_rfl) ?_
  refine st_pure (l := [0]) (rest := [1, 2, 3, 4, 5, 6, 7, 8, 9, 10, 11, 12, 13, 14, 15, 16, 17, 18, 19, 20, 21, 22]) (L := [(10, .pointer (some ⟨b1, 0, none⟩))]) rfl (by kernel_rfl) ?_
  refine st_load (d := 11) (t := 3) (cs := _) (v := .int .i64 m.kind.toInt) (by kernel_rfl) (hB4.sub 0) (by kernel_rfl) ?_
  have hwr13 := wu64_lo (m.kind.toInt)
  refine st_pure (l := [2, 3]) (rest := [4, 5, 6, 7, 8, 9, 10, 11, 12, 13, 14, 15, 16, 17, 18, 19, 20, 21, 22]) (L := [(12, .int .u64 (IntKind.wrap .u64 (m.kind.toInt))), (13, .pointer (some ⟨b1, 1, none⟩))]) rfl (by kernel_rfl) ?_
  refine st_load (d := 14) (t := 2) (cs := _) (v := .int .i64 m.time.toInt) (by kernel_rfl) (hB4.sub 1) (by kernel_rfl) ?_
  have hwr14 := wu64_lo (m.time.toInt)
  refine st_pure (l := [5, 6]) (rest := [7, 8, 9, 10, 11, 12, 13, 14, 15, 16, 17, 18, 19, 20, 21, 22]) (L := [(15, .int .u64 (IntKind.wrap .u64 (m.time.toInt))), (16, .pointer (some ⟨b1, 2, none⟩))]) rfl (by kernel_rfl) ?_
  refine st_load (d := 17) (t := 3) (cs := _) (v := .int .i64 m.cls.toInt) (by kernel_rfl) (hB4.sub 2) (by kernel_rfl) ?_
  have hwr15 := wu64_lo (m.cls.toInt)
  refine st_pure (l := [8, 9]) (rest := [10, 11, 12, 13, 14, 15, 16, 17, 18, 19, 20, 21, 22]) (L := [(18, .int .u64 (IntKind.wrap .u64 (m.cls.toInt))), (19, .pointer (some ⟨b1, 3, none⟩))]) rfl (by kernel_rfl) ?_
  refine st_load (d := 20) (t := 5) (cs := _) (v := .int .u8 (m.high.toNat : Int)) (by kernel_rfl) (hB4.sub 3) (by kernel_rfl) ?_
  have hw16 : IntKind.wrap .u64 ((m.high.toNat : Int)) = (m.high.toNat : Int) := wu64 (by omega) (by omega)
  refine st_pure (l := [11]) (rest := [12, 13, 14, 15, 16, 17, 18, 19, 20, 21, 22]) (L := [(21, .int .u64 (m.high.toNat : Int))]) rfl (Eq.trans (b := some [(21, .int .u64 (IntKind.wrap .u64 ((m.high.toNat : Int))))]) (by kernel_rfl) (by simp only [hw16])) ?_
  refine st_pure (l := [12]) (rest := [13, 14, 15, 16, 17, 18, 19, 20, 21, 22]) (L := [(22, .pointer (some ⟨b1, 4, none⟩))]) rfl (by kernel_rfl) ?_
  refine st_load (d := 23) (t := 3) (cs := _) (v := .int .i64 m.bank.toInt) (by kernel_rfl) (hB4.sub 4) (by kernel_rfl) ?_
  have hwr17 := wu64_lo (m.bank.toInt)
  refine st_pure (l := [14, 15]) (rest := [16, 17, 18, 19, 20, 21, 22]) (L := [(24, .int .u64 (IntKind.wrap .u64 (m.bank.toInt))), (25, .pointer (some ⟨b1, 5, none⟩))]) rfl (by kernel_rfl) ?_
  refine st_load (d := 26) (t := 3) (cs := _) (v := .int .i64 m.place.toInt) (by kernel_rfl) (hB4.sub 5) (by kernel_rfl) ?_
  have hwr18 := wu64_lo (m.place.toInt)
  refine st_pure (l := [17, 18]) (rest := [19, 20, 21, 22]) (L := [(27, .int .u64 (IntKind.wrap .u64 (m.place.toInt))), (28, .pointer (some ⟨b1, 6, none⟩))]) rfl (by kernel_rfl) ?_
  refine st_load (d := 29) (t := 5) (cs := _) (v := .int .u8 (m.value.toNat : Int)) (by kernel_rfl) (hB4.sub 6) (by kernel_rfl) ?_
  have hw19 : IntKind.wrap .u64 ((m.value.toNat : Int)) = (m.value.toNat : Int) := wu64 (by omega) (by omega)
  refine st_pure (l := [20]) (rest := [21, 22]) (L := [(30, .int .u64 (m.value.toNat : Int))]) rfl (Eq.trans (b := some [(30, .int .u64 (IntKind.wrap .u64 ((m.value.toNat : Int))))]) (by kernel_rfl) (by simp only [hw19])) ?_
  refine st_new (d := 31) (e := 149) (C := [.int .u64 (IntKind.wrap .u64 (m.kind.toInt)), .int .u64 (IntKind.wrap .u64 (m.time.toInt)), .int .u64 (IntKind.wrap .u64 (m.cls.toInt)), .int .u64 (m.high.toNat : Int), .int .u64 (IntKind.wrap .u64 (m.bank.toInt)), .int .u64 (IntKind.wrap .u64 (m.place.toInt)), .int .u64 (m.value.toNat : Int)]) (V := fun r => .slice (some ⟨r, 0, none⟩) 7 7) (by kernel_rfl) ?_
  intro b20 w21 m22 lb20 ub20 hB23
  replace hB4 := hB4.mod m22 (fun q => q)
  replace HM := HM.tr0 m22
  have hszw21 := m22.size
  refine st_pure (l := [22]) (rest := []) (L := [(4, .slice (some ⟨b20, 0, none⟩) 7 7)]) rfl (by kernel_rfl) ?_
  refine st_end ?_
  refine then_n ?_
  refine wp_seq ?_
  refine c_region (L := [0]) (by kernel_rfl) ?_
  refine st_pure (l := [0]) (rest := []) (L := [(5, .slice none 0 0)]) rfl (by kernel_rfl) ?_
  refine st_end ?_
  refine then_n ?_
  refine wp_seq ?_
  refine wp_seq ?_
  refine c_region (L := [0]) (by kernel_rfl) ?_
  refine st_pure (l := [0]) (rest := []) (L := [(6, .int .i64 0)]) rfl (by kernel_rfl) ?_
  refine st_end ?_
  refine then_n ?_
  refine wp_block ?_
  refine c_rounds 8 ?_
  refine c_round ?_
  refine wp_seq ?_
  refine wp_seq ?_
  refine c_region (L := [0, 1, 2, 3]) (by kernel_rfl) ?_
  refine st_pure (l := [0, 1, 2, 3]) (rest := []) (L := [(32, .int .i64 0), (33, .slice (some ⟨b20, 0, none⟩) 7 7), (34, .int .i64 7), (35, .bool true)]) rfl (by kernel_rfl) ?_
  refine st_end ?_
  refine then_n ?_
  refine c_true (by kernel_rfl) ?_
  refine wp_skip ?_
  refine then_n ?_
  refine wp_seq ?_
  refine wp_block ?_
  refine c_region (L := [0, 1, 2, 3, 4, 5, 6]) (by kernel_rfl) ?_
  refine st_pure (l := [0, 1, 2, 3]) (rest := [4, 5, 6]) (L := [(38, .slice none 0 0), (39, .slice (some ⟨b20, 0, none⟩) 7 7), (40, .int .i64 0), (41, .pointer (some ⟨b20, 0, none⟩))]) rfl (by kernel_rfl) ?_
  refine st_load (d := 42) (t := 149) (cs := _) (v := .int .u64 (IntKind.wrap .u64 (m.kind.toInt))) (by kernel_rfl) (hB23.sub 0) (by kernel_rfl) ?_
  refine st_fn (d := 43) (f := 104) (xs := #[.slice none 0 0, .int .u64 (IntKind.wrap .u64 (m.kind.toInt))]) (R := _) (by kernel_rfl) (ref_Number (w := w21) (x := IntKind.wrap .u64 (m.kind.toInt)) (A := none) (cA := 0) (l := ([] : List UInt8)) (lo := w21.heap.size) (hi := w21.heap.size) (ho := (Own.nil (t := tyU8) (e := 5) (w := w21) (lo := w21.heap.size) (hi := w21.heap.size))) (A_n := fun _ => rfl) (A_c := by simp) (x_r := by omega) (ho_hi := by omega) (hll := by first | omega | (simp only [List.length_cons, List.length_nil, List.length_append, List.length_take, List.length_drop] at *; omega)) (hlo := by first | omega | (simp only [List.length_cons, List.length_nil, List.length_append, List.length_take, List.length_drop] at *; omega))) ?_
  rintro vw29 w29 ⟨l24, A25, c26, lo27, hi28, rfl, A25_n, A25_c, rfl, hdis31, hO_32, hR_33, m34⟩
  have ha35 := (num_len (by omega) : (num (IntKind.wrap .u64 (m.kind.toInt)).toNat).length ≤ 9)
  replace hB4 := hB4.mod m34 (by intro h3; (try simp only [Iv] at h3); omega)
  replace hB23 := hB23.mod m34 (by intro h3; (try simp only [Iv] at h3); omega)
  replace HM := HM.trans m34 (by intro k h1 h3; (try simp only [Iv] at h3 ⊢); omega)
  have hszw29 := m34.size
  have hO_32_b := hO_32.bounds
  have hR_33_l := hR_33.len
  refine st_pure (l := [6]) (rest := []) (L := [(5, .slice A25 ((([] : List UInt8) ++ num (IntKind.wrap .u64 (m.kind.toInt)).toNat).length) c26)]) rfl (by kernel_rfl) ?_
  refine st_end ?_
  refine blk_n ?_
  refine then_n ?_
  refine c_region (L := [0, 1, 2]) (by kernel_rfl) ?_
  refine st_pure (l := [0, 1, 2]) (rest := []) (L := [(36, .int .i64 0), (37, .int .i64 1), (6, .int .i64 1)]) rfl (by kernel_rfl) ?_
  refine st_end ?_
  refine then_n ?_
  refine c_round ?_
  refine wp_seq ?_
  refine wp_seq ?_
  refine c_region (L := [0, 1, 2, 3]) (by kernel_rfl) ?_
  refine st_pure (l := [0, 1, 2, 3]) (rest := []) (L := [(32, .int .i64 1), (33, .slice (some ⟨b20, 0, none⟩) 7 7), (34, .int .i64 7), (35, .bool true)]) rfl (by kernel_rfl) ?_
  refine st_end ?_
  refine then_n ?_
  refine c_true (by kernel_rfl) ?_
  refine wp_skip ?_
  refine then_n ?_
  refine wp_seq ?_
  refine wp_block ?_
  refine c_region (L := [0, 1, 2, 3, 4, 5, 6]) (by kernel_rfl) ?_
  refine st_pure (l := [0, 1, 2, 3]) (rest := [4, 5, 6]) (L := [(38, .slice A25 ((([] : List UInt8) ++ num (IntKind.wrap .u64 (m.kind.toInt)).toNat).length) c26), (39, .slice (some ⟨b20, 0, none⟩) 7 7), (40, .int .i64 1), (41, .pointer (some ⟨b20, 1, none⟩))]) rfl (by kernel_rfl) ?_
  refine st_load (d := 42) (t := 149) (cs := _) (v := .int .u64 (IntKind.wrap .u64 (m.time.toInt))) (by kernel_rfl) (hB23.sub 1) (by kernel_rfl) ?_
  refine st_fn (d := 43) (f := 104) (xs := #[.slice A25 ((([] : List UInt8) ++ num (IntKind.wrap .u64 (m.kind.toInt)).toNat).length) c26, .int .u64 (IntKind.wrap .u64 (m.time.toInt))]) (R := _) (by kernel_rfl) (ref_Number (w := w29) (x := IntKind.wrap .u64 (m.time.toInt)) (A := A25) (cA := c26) (l := (([] : List UInt8) ++ num (IntKind.wrap .u64 (m.kind.toInt)).toNat)) (lo := lo27) (hi := hi28) (ho := hO_32) (A_n := A25_n) (A_c := by first | exact A25_c | omega) (x_r := by omega) (ho_hi := by omega) (hll := by first | omega | (simp only [List.length_cons, List.length_nil, List.length_append, List.length_take, List.length_drop] at *; omega)) (hlo := by first | omega | (simp only [List.length_cons, List.length_nil, List.length_append, List.length_take, List.length_drop] at *; omega))) ?_
  rintro vw41 w41 ⟨l36, A37, c38, lo39, hi40, rfl, A37_n, A37_c, rfl, hdis43, hO_44, hR_45, m46⟩
  have ha47 := (num_len (by omega) : (num (IntKind.wrap .u64 (m.time.toInt)).toNat).length ≤ 9)
  clear hO_32
  clear hR_33
  replace hB4 := hB4.mod m46 (by intro h3; (try simp only [Iv] at h3); omega)
  replace hB23 := hB23.mod m46 (by intro h3; (try simp only [Iv] at h3); omega)
  replace HM := HM.trans m46 (by intro k h1 h3; (try simp only [Iv] at h3 ⊢); omega)
  have hszw41 := m46.size
  have hO_44_b := hO_44.bounds
  have hR_45_l := hR_45.len
  refine st_pure (l := [6]) (rest := []) (L := [(5, .slice A37 (((([] : List UInt8) ++ num (IntKind.wrap .u64 (m.kind.toInt)).toNat) ++ num (IntKind.wrap .u64 (m.time.toInt)).toNat).length) c38)]) rfl (by kernel_rfl) ?_
  refine st_end ?_
  refine blk_n ?_
  refine then_n ?_
  refine c_region (L := [0, 1, 2]) (by kernel_rfl) ?_
  refine st_pure (l := [0, 1, 2]) (rest := []) (L := [(36, .int .i64 1), (37, .int .i64 2), (6, .int .i64 2)]) rfl (by kernel_rfl) ?_
  refine st_end ?_
  refine then_n ?_
  refine c_round ?_
  refine wp_seq ?_
  refine wp_seq ?_
  refine c_region (L := [0, 1, 2, 3]) (by kernel_rfl) ?_
  refine st_pure (l := [0, 1, 2, 3]) (rest := []) (L := [(32, .int .i64 2), (33, .slice (some ⟨b20, 0, none⟩) 7 7), (34, .int .i64 7), (35, .bool true)]) rfl (by kernel_rfl) ?_
  refine st_end ?_
  refine then_n ?_
  refine c_true (by kernel_rfl) ?_
  refine wp_skip ?_
  refine then_n ?_
  refine wp_seq ?_
  refine wp_block ?_
  refine c_region (L := [0, 1, 2, 3, 4, 5, 6]) (by kernel_rfl) ?_
  refine st_pure (l := [0, 1, 2, 3]) (rest := [4, 5, 6]) (L := [(38, .slice A37 (((([] : List UInt8) ++ num (IntKind.wrap .u64 (m.kind.toInt)).toNat) ++ num (IntKind.wrap .u64 (m.time.toInt)).toNat).length) c38), (39, .slice (some ⟨b20, 0, none⟩) 7 7), (40, .int .i64 2), (41, .pointer (some ⟨b20, 2, none⟩))]) rfl (by kernel_rfl) ?_
  refine st_load (d := 42) (t := 149) (cs := _) (v := .int .u64 (IntKind.wrap .u64 (m.cls.toInt))) (by kernel_rfl) (hB23.sub 2) (by kernel_rfl) ?_
  refine st_fn (d := 43) (f := 104) (xs := #[.slice A37 (((([] : List UInt8) ++ num (IntKind.wrap .u64 (m.kind.toInt)).toNat) ++ num (IntKind.wrap .u64 (m.time.toInt)).toNat).length) c38, .int .u64 (IntKind.wrap .u64 (m.cls.toInt))]) (R := _) (by kernel_rfl) (ref_Number (w := w41) (x := IntKind.wrap .u64 (m.cls.toInt)) (A := A37) (cA := c38) (l := ((([] : List UInt8) ++ num (IntKind.wrap .u64 (m.kind.toInt)).toNat) ++ num (IntKind.wrap .u64 (m.time.toInt)).toNat)) (lo := lo39) (hi := hi40) (ho := hO_44) (A_n := A37_n) (A_c := by first | exact A37_c | omega) (x_r := by omega) (ho_hi := by omega) (hll := by first | omega | (simp only [List.length_cons, List.length_nil, List.length_append, List.length_take, List.length_drop] at *; omega)) (hlo := by first | omega | (simp only [List.length_cons, List.length_nil, List.length_append, List.length_take, List.length_drop] at *; omega))) ?_
  rintro vw53 w53 ⟨l48, A49, c50, lo51, hi52, rfl, A49_n, A49_c, rfl, hdis55, hO_56, hR_57, m58⟩
  have ha59 := (num_len (by omega) : (num (IntKind.wrap .u64 (m.cls.toInt)).toNat).length ≤ 9)
  clear hO_44
  clear hR_45
  replace hB4 := hB4.mod m58 (by intro h3; (try simp only [Iv] at h3); omega)
  replace hB23 := hB23.mod m58 (by intro h3; (try simp only [Iv] at h3); omega)
  replace HM := HM.trans m58 (by intro k h1 h3; (try simp only [Iv] at h3 ⊢); omega)
  have hszw53 := m58.size
  have hO_56_b := hO_56.bounds
  have hR_57_l := hR_57.len
  refine st_pure (l := [6]) (rest := []) (L := [(5, .slice A49 ((((([] : List UInt8) ++ num (IntKind.wrap .u64 (m.kind.toInt)).toNat) ++ num (IntKind.wrap .u64 (m.time.toInt)).toNat) ++ num (IntKind.wrap .u64 (m.cls.toInt)).toNat).length) c50)]) rfl (by kernel_rfl) ?_
  refine st_end ?_
  refine blk_n ?_
  refine then_n ?_
  refine c_region (L := [0, 1, 2]) (by kernel_rfl) ?_
  refine st_pure (l := [0, 1, 2]) (rest := []) (L := [(36, .int .i64 2), (37, .int .i64 3), (6, .int .i64 3)]) rfl (by kernel_rfl) ?_
  refine st_end ?_
  refine then_n ?_
  refine c_round ?_
  refine wp_seq ?_
  refine wp_seq ?_
  refine c_region (L := [0, 1, 2, 3]) (by kernel_rfl) ?_
  refine st_pure (l := [0, 1, 2, 3]) (rest := []) (L := [(32, .int .i64 3), (33, .slice (some ⟨b20, 0, none⟩) 7 7), (34, .int .i64 7), (35, .bool true)]) rfl (by kernel_rfl) ?_
  refine st_end ?_
  refine then_n ?_
  refine c_true (by kernel_rfl) ?_
  refine wp_skip ?_
  refine then_n ?_
  refine wp_seq ?_
  refine wp_block ?_
  refine c_region (L := [0, 1, 2, 3, 4, 5, 6]) (by kernel_rfl) ?_
  refine st_pure (l := [0, 1, 2, 3]) (rest := [4, 5, 6]) (L := [(38, .slice A49 ((((([] : List UInt8) ++ num (IntKind.wrap .u64 (m.kind.toInt)).toNat) ++ num (IntKind.wrap .u64 (m.time.toInt)).toNat) ++ num (IntKind.wrap .u64 (m.cls.toInt)).toNat).length) c50), (39, .slice (some ⟨b20, 0, none⟩) 7 7), (40, .int .i64 3), (41, .pointer (some ⟨b20, 3, none⟩))]) rfl (by kernel_rfl) ?_
  refine st_load (d := 42) (t := 149) (cs := _) (v := .int .u64 (m.high.toNat : Int)) (by kernel_rfl) (hB23.sub 3) (by kernel_rfl) ?_
  refine st_fn (d := 43) (f := 104) (xs := #[.slice A49 ((((([] : List UInt8) ++ num (IntKind.wrap .u64 (m.kind.toInt)).toNat) ++ num (IntKind.wrap .u64 (m.time.toInt)).toNat) ++ num (IntKind.wrap .u64 (m.cls.toInt)).toNat).length) c50, .int .u64 (m.high.toNat : Int)]) (R := _) (by kernel_rfl) (ref_Number (w := w53) (x := (m.high.toNat : Int)) (A := A49) (cA := c50) (l := (((([] : List UInt8) ++ num (IntKind.wrap .u64 (m.kind.toInt)).toNat) ++ num (IntKind.wrap .u64 (m.time.toInt)).toNat) ++ num (IntKind.wrap .u64 (m.cls.toInt)).toNat)) (lo := lo51) (hi := hi52) (ho := hO_56) (A_n := A49_n) (A_c := by first | exact A49_c | omega) (x_r := by omega) (ho_hi := by omega) (hll := by first | omega | (simp only [List.length_cons, List.length_nil, List.length_append, List.length_take, List.length_drop] at *; omega)) (hlo := by first | omega | (simp only [List.length_cons, List.length_nil, List.length_append, List.length_take, List.length_drop] at *; omega))) ?_
  rintro vw65 w65 ⟨l60, A61, c62, lo63, hi64, rfl, A61_n, A61_c, rfl, hdis67, hO_68, hR_69, m70⟩
  have ha71 := (num_len (by omega) : (num (m.high.toNat : Int).toNat).length ≤ 9)
  clear hO_56
  clear hR_57
  replace hB4 := hB4.mod m70 (by intro h3; (try simp only [Iv] at h3); omega)
  replace hB23 := hB23.mod m70 (by intro h3; (try simp only [Iv] at h3); omega)
  replace HM := HM.trans m70 (by intro k h1 h3; (try simp only [Iv] at h3 ⊢); omega)
  have hszw65 := m70.size
  have hO_68_b := hO_68.bounds
  have hR_69_l := hR_69.len
  refine st_pure (l := [6]) (rest := []) (L := [(5, .slice A61 (((((([] : List UInt8) ++ num (IntKind.wrap .u64 (m.kind.toInt)).toNat) ++ num (IntKind.wrap .u64 (m.time.toInt)).toNat) ++ num (IntKind.wrap .u64 (m.cls.toInt)).toNat) ++ num (m.high.toNat : Int).toNat).length) c62)]) rfl (by kernel_rfl) ?_
  refine st_end ?_
  refine blk_n ?_
  refine then_n ?_
  refine c_region (L := [0, 1, 2]) (by kernel_rfl) ?_
  refine st_pure (l := [0, 1, 2]) (rest := []) (L := [(36, .int .i64 3), (37, .int .i64 4), (6, .int .i64 4)]) rfl (by kernel_rfl) ?_
  refine st_end ?_
  refine then_n ?_
  refine c_round ?_
  refine wp_seq ?_
  refine wp_seq ?_
  refine c_region (L := [0, 1, 2, 3]) (by kernel_rfl) ?_
  refine st_pure (l := [0, 1, 2, 3]) (rest := []) (L := [(32, .int .i64 4), (33, .slice (some ⟨b20, 0, none⟩) 7 7), (34, .int .i64 7), (35, .bool true)]) rfl (by kernel_rfl) ?_
  refine st_end ?_
  refine then_n ?_
  refine c_true (by kernel_rfl) ?_
  refine wp_skip ?_
  refine then_n ?_
  refine wp_seq ?_
  refine wp_block ?_
  refine c_region (L := [0, 1, 2, 3, 4, 5, 6]) (by kernel_rfl) ?_
  refine st_pure (l := [0, 1, 2, 3]) (rest := [4, 5, 6]) (L := [(38, .slice A61 (((((([] : List UInt8) ++ num (IntKind.wrap .u64 (m.kind.toInt)).toNat) ++ num (IntKind.wrap .u64 (m.time.toInt)).toNat) ++ num (IntKind.wrap .u64 (m.cls.toInt)).toNat) ++ num (m.high.toNat : Int).toNat).length) c62), (39, .slice (some ⟨b20, 0, none⟩) 7 7), (40, .int .i64 4), (41, .pointer (some ⟨b20, 4, none⟩))]) rfl (by kernel_rfl) ?_
  refine st_load (d := 42) (t := 149) (cs := _) (v := .int .u64 (IntKind.wrap .u64 (m.bank.toInt))) (by kernel_rfl) (hB23.sub 4) (by kernel_rfl) ?_
  refine st_fn (d := 43) (f := 104) (xs := #[.slice A61 (((((([] : List UInt8) ++ num (IntKind.wrap .u64 (m.kind.toInt)).toNat) ++ num (IntKind.wrap .u64 (m.time.toInt)).toNat) ++ num (IntKind.wrap .u64 (m.cls.toInt)).toNat) ++ num (m.high.toNat : Int).toNat).length) c62, .int .u64 (IntKind.wrap .u64 (m.bank.toInt))]) (R := _) (by kernel_rfl) (ref_Number (w := w65) (x := IntKind.wrap .u64 (m.bank.toInt)) (A := A61) (cA := c62) (l := ((((([] : List UInt8) ++ num (IntKind.wrap .u64 (m.kind.toInt)).toNat) ++ num (IntKind.wrap .u64 (m.time.toInt)).toNat) ++ num (IntKind.wrap .u64 (m.cls.toInt)).toNat) ++ num (m.high.toNat : Int).toNat)) (lo := lo63) (hi := hi64) (ho := hO_68) (A_n := A61_n) (A_c := by first | exact A61_c | omega) (x_r := by omega) (ho_hi := by omega) (hll := by first | omega | (simp only [List.length_cons, List.length_nil, List.length_append, List.length_take, List.length_drop] at *; omega)) (hlo := by first | omega | (simp only [List.length_cons, List.length_nil, List.length_append, List.length_take, List.length_drop] at *; omega))) ?_
  rintro vw77 w77 ⟨l72, A73, c74, lo75, hi76, rfl, A73_n, A73_c, rfl, hdis79, hO_80, hR_81, m82⟩
  have ha83 := (num_len (by omega) : (num (IntKind.wrap .u64 (m.bank.toInt)).toNat).length ≤ 9)
  clear hO_68
  clear hR_69
  replace hB4 := hB4.mod m82 (by intro h3; (try simp only [Iv] at h3); omega)
  replace hB23 := hB23.mod m82 (by intro h3; (try simp only [Iv] at h3); omega)
  replace HM := HM.trans m82 (by intro k h1 h3; (try simp only [Iv] at h3 ⊢); omega)
  have hszw77 := m82.size
  have hO_80_b := hO_80.bounds
  have hR_81_l := hR_81.len
  refine st_pure (l := [6]) (rest := []) (L := [(5, .slice A73 ((((((([] : List UInt8) ++ num (IntKind.wrap .u64 (m.kind.toInt)).toNat) ++ num (IntKind.wrap .u64 (m.time.toInt)).toNat) ++ num (IntKind.wrap .u64 (m.cls.toInt)).toNat) ++ num (m.high.toNat : Int).toNat) ++ num (IntKind.wrap .u64 (m.bank.toInt)).toNat).length) c74)]) rfl (by kernel_rfl) ?_
  refine st_end ?_
  refine blk_n ?_
  refine then_n ?_
  refine c_region (L := [0, 1, 2]) (by kernel_rfl) ?_
  refine st_pure (l := [0, 1, 2]) (rest := []) (L := [(36, .int .i64 4), (37, .int .i64 5), (6, .int .i64 5)]) rfl (by kernel_rfl) ?_
  refine st_end ?_
  refine then_n ?_
  refine c_round ?_
  refine wp_seq ?_
  refine wp_seq ?_
  refine c_region (L := [0, 1, 2, 3]) (by kernel_rfl) ?_
  refine st_pure (l := [0, 1, 2, 3]) (rest := []) (L := [(32, .int .i64 5), (33, .slice (some ⟨b20, 0, none⟩) 7 7), (34, .int .i64 7), (35, .bool true)]) rfl (by kernel_rfl) ?_
  refine st_end ?_
  refine then_n ?_
  refine c_true (by kernel_rfl) ?_
  refine wp_skip ?_
  refine then_n ?_
  refine wp_seq ?_
  refine wp_block ?_
  refine c_region (L := [0, 1, 2, 3, 4, 5, 6]) (by kernel_rfl) ?_
  refine st_pure (l := [0, 1, 2, 3]) (rest := [4, 5, 6]) (L := [(38, .slice A73 ((((((([] : List UInt8) ++ num (IntKind.wrap .u64 (m.kind.toInt)).toNat) ++ num (IntKind.wrap .u64 (m.time.toInt)).toNat) ++ num (IntKind.wrap .u64 (m.cls.toInt)).toNat) ++ num (m.high.toNat : Int).toNat) ++ num (IntKind.wrap .u64 (m.bank.toInt)).toNat).length) c74), (39, .slice (some ⟨b20, 0, none⟩) 7 7), (40, .int .i64 5), (41, .pointer (some ⟨b20, 5, none⟩))]) rfl (by kernel_rfl) ?_
  refine st_load (d := 42) (t := 149) (cs := _) (v := .int .u64 (IntKind.wrap .u64 (m.place.toInt))) (by kernel_rfl) (hB23.sub 5) (by kernel_rfl) ?_
  refine st_fn (d := 43) (f := 104) (xs := #[.slice A73 ((((((([] : List UInt8) ++ num (IntKind.wrap .u64 (m.kind.toInt)).toNat) ++ num (IntKind.wrap .u64 (m.time.toInt)).toNat) ++ num (IntKind.wrap .u64 (m.cls.toInt)).toNat) ++ num (m.high.toNat : Int).toNat) ++ num (IntKind.wrap .u64 (m.bank.toInt)).toNat).length) c74, .int .u64 (IntKind.wrap .u64 (m.place.toInt))]) (R := _) (by kernel_rfl) (ref_Number (w := w77) (x := IntKind.wrap .u64 (m.place.toInt)) (A := A73) (cA := c74) (l := (((((([] : List UInt8) ++ num (IntKind.wrap .u64 (m.kind.toInt)).toNat) ++ num (IntKind.wrap .u64 (m.time.toInt)).toNat) ++ num (IntKind.wrap .u64 (m.cls.toInt)).toNat) ++ num (m.high.toNat : Int).toNat) ++ num (IntKind.wrap .u64 (m.bank.toInt)).toNat)) (lo := lo75) (hi := hi76) (ho := hO_80) (A_n := A73_n) (A_c := by first | exact A73_c | omega) (x_r := by omega) (ho_hi := by omega) (hll := by first | omega | (simp only [List.length_cons, List.length_nil, List.length_append, List.length_take, List.length_drop] at *; omega)) (hlo := by first | omega | (simp only [List.length_cons, List.length_nil, List.length_append, List.length_take, List.length_drop] at *; omega))) ?_
  rintro vw89 w89 ⟨l84, A85, c86, lo87, hi88, rfl, A85_n, A85_c, rfl, hdis91, hO_92, hR_93, m94⟩
  have ha95 := (num_len (by omega) : (num (IntKind.wrap .u64 (m.place.toInt)).toNat).length ≤ 9)
  clear hO_80
  clear hR_81
  replace hB4 := hB4.mod m94 (by intro h3; (try simp only [Iv] at h3); omega)
  replace hB23 := hB23.mod m94 (by intro h3; (try simp only [Iv] at h3); omega)
  replace HM := HM.trans m94 (by intro k h1 h3; (try simp only [Iv] at h3 ⊢); omega)
  have hszw89 := m94.size
  have hO_92_b := hO_92.bounds
  have hR_93_l := hR_93.len
  refine st_pure (l := [6]) (rest := []) (L := [(5, .slice A85 (((((((([] : List UInt8) ++ num (IntKind.wrap .u64 (m.kind.toInt)).toNat) ++ num (IntKind.wrap .u64 (m.time.toInt)).toNat) ++ num (IntKind.wrap .u64 (m.cls.toInt)).toNat) ++ num (m.high.toNat : Int).toNat) ++ num (IntKind.wrap .u64 (m.bank.toInt)).toNat) ++ num (IntKind.wrap .u64 (m.place.toInt)).toNat).length) c86)]) rfl (by kernel_rfl) ?_
  refine st_end ?_
  refine blk_n ?_
  refine then_n ?_
  refine c_region (L := [0, 1, 2]) (by kernel_rfl) ?_
  refine st_pure (l := [0, 1, 2]) (rest := []) (L := [(36, .int .i64 5), (37, .int .i64 6), (6, .int .i64 6)]) rfl (by kernel_rfl) ?_
  refine st_end ?_
  refine then_n ?_
  refine c_round ?_
  refine wp_seq ?_
  refine wp_seq ?_
  refine c_region (L := [0, 1, 2, 3]) (by kernel_rfl) ?_
  refine st_pure (l := [0, 1, 2, 3]) (rest := []) (L := [(32, .int .i64 6), (33, .slice (some ⟨b20, 0, none⟩) 7 7), (34, .int .i64 7), (35, .bool true)]) rfl (by kernel_rfl) ?_
  refine st_end ?_
  refine then_n ?_
  refine c_true (by kernel_rfl) ?_
  refine wp_skip ?_
  refine then_n ?_
  refine wp_seq ?_
  refine wp_block ?_
  refine c_region (L := [0, 1, 2, 3, 4, 5, 6]) (by kernel_rfl) ?_
  refine st_pure (l := [0, 1, 2, 3]) (rest := [4, 5, 6]) (L := [(38, .slice A85 (((((((([] : List UInt8) ++ num (IntKind.wrap .u64 (m.kind.toInt)).toNat) ++ num (IntKind.wrap .u64 (m.time.toInt)).toNat) ++ num (IntKind.wrap .u64 (m.cls.toInt)).toNat) ++ num (m.high.toNat : Int).toNat) ++ num (IntKind.wrap .u64 (m.bank.toInt)).toNat) ++ num (IntKind.wrap .u64 (m.place.toInt)).toNat).length) c86), (39, .slice (some ⟨b20, 0, none⟩) 7 7), (40, .int .i64 6), (41, .pointer (some ⟨b20, 6, none⟩))]) rfl (by kernel_rfl) ?_
  refine st_load (d := 42) (t := 149) (cs := _) (v := .int .u64 (m.value.toNat : Int)) (by kernel_rfl) (hB23.sub 6) (by kernel_rfl) ?_
  refine st_fn (d := 43) (f := 104) (xs := #[.slice A85 (((((((([] : List UInt8) ++ num (IntKind.wrap .u64 (m.kind.toInt)).toNat) ++ num (IntKind.wrap .u64 (m.time.toInt)).toNat) ++ num (IntKind.wrap .u64 (m.cls.toInt)).toNat) ++ num (m.high.toNat : Int).toNat) ++ num (IntKind.wrap .u64 (m.bank.toInt)).toNat) ++ num (IntKind.wrap .u64 (m.place.toInt)).toNat).length) c86, .int .u64 (m.value.toNat : Int)]) (R := _) (by kernel_rfl) (ref_Number (w := w89) (x := (m.value.toNat : Int)) (A := A85) (cA := c86) (l := ((((((([] : List UInt8) ++ num (IntKind.wrap .u64 (m.kind.toInt)).toNat) ++ num (IntKind.wrap .u64 (m.time.toInt)).toNat) ++ num (IntKind.wrap .u64 (m.cls.toInt)).toNat) ++ num (m.high.toNat : Int).toNat) ++ num (IntKind.wrap .u64 (m.bank.toInt)).toNat) ++ num (IntKind.wrap .u64 (m.place.toInt)).toNat)) (lo := lo87) (hi := hi88) (ho := hO_92) (A_n := A85_n) (A_c := by first | exact A85_c | omega) (x_r := by omega) (ho_hi := by omega) (hll := by first | omega | (simp only [List.length_cons, List.length_nil, List.length_append, List.length_take, List.length_drop] at *; omega)) (hlo := by first | omega | (simp only [List.length_cons, List.length_nil, List.length_append, List.length_take, List.length_drop] at *; omega))) ?_
  rintro vw101 w101 ⟨l96, A97, c98, lo99, hi100, rfl, A97_n, A97_c, rfl, hdis103, hO_104, hR_105, m106⟩
  have ha107 := (num_len (by omega) : (num (m.value.toNat : Int).toNat).length ≤ 9)
  clear hO_92
  clear hR_93
  replace hB4 := hB4.mod m106 (by intro h3; (try simp only [Iv] at h3); omega)
  replace hB23 := hB23.mod m106 (by intro h3; (try simp only [Iv] at h3); omega)
  replace HM := HM.trans m106 (by intro k h1 h3; (try simp only [Iv] at h3 ⊢); omega)
  have hszw101 := m106.size
  have hO_104_b := hO_104.bounds
  have hR_105_l := hR_105.len
  refine st_pure (l := [6]) (rest := []) (L := [(5, .slice A97 ((((((((([] : List UInt8) ++ num (IntKind.wrap .u64 (m.kind.toInt)).toNat) ++ num (IntKind.wrap .u64 (m.time.toInt)).toNat) ++ num (IntKind.wrap .u64 (m.cls.toInt)).toNat) ++ num (m.high.toNat : Int).toNat) ++ num (IntKind.wrap .u64 (m.bank.toInt)).toNat) ++ num (IntKind.wrap .u64 (m.place.toInt)).toNat) ++ num (m.value.toNat : Int).toNat).length) c98)]) rfl (by kernel_rfl) ?_
  refine st_end ?_
  refine blk_n ?_
  refine then_n ?_
  refine c_region (L := [0, 1, 2]) (by kernel_rfl) ?_
  refine st_pure (l := [0, 1, 2]) (rest := []) (L := [(36, .int .i64 6), (37, .int .i64 7), (6, .int .i64 7)]) rfl (by kernel_rfl) ?_
  refine st_end ?_
  refine then_n ?_
  refine c_round ?_
  refine wp_seq ?_
  refine wp_seq ?_
  refine c_region (L := [0, 1, 2, 3]) (by kernel_rfl) ?_
  refine st_pure (l := [0, 1, 2, 3]) (rest := []) (L := [(32, .int .i64 7), (33, .slice (some ⟨b20, 0, none⟩) 7 7), (34, .int .i64 7), (35, .bool false)]) rfl (by kernel_rfl) ?_
  refine st_end ?_
  refine then_n ?_
  refine c_false (by kernel_rfl) ?_
  refine wp_exit ?_
  refine then_x ?_
  refine then_x ?_
  refine blk_hit ?_
  refine then_n ?_
  refine wp_seq ?_
  refine c_region (L := [0, 1, 2]) (by kernel_rfl) ?_
  refine st_pure (l := [0, 1, 2]) (rest := []) (L := [(44, .slice A97 ((((((((([] : List UInt8) ++ num (IntKind.wrap .u64 (m.kind.toInt)).toNat) ++ num (IntKind.wrap .u64 (m.time.toInt)).toNat) ++ num (IntKind.wrap .u64 (m.cls.toInt)).toNat) ++ num (m.high.toNat : Int).toNat) ++ num (IntKind.wrap .u64 (m.bank.toInt)).toNat) ++ num (IntKind.wrap .u64 (m.place.toInt)).toNat) ++ num (m.value.toNat : Int).toNat).length) c98), (2, .slice A97 ((((((((([] : List UInt8) ++ num (IntKind.wrap .u64 (m.kind.toInt)).toNat) ++ num (IntKind.wrap .u64 (m.time.toInt)).toNat) ++ num (IntKind.wrap .u64 (m.cls.toInt)).toNat) ++ num (m.high.toNat : Int).toNat) ++ num (IntKind.wrap .u64 (m.bank.toInt)).toNat) ++ num (IntKind.wrap .u64 (m.place.toInt)).toNat) ++ num (m.value.toNat : Int).toNat).length) c98), (3, .int .i64 0)]) rfl (by kernel_rfl) ?_
  refine st_end ?_
  refine then_n ?_
  refine wp_ret ?_
  refine post_ret (v := .tuple #[.slice A97 ((((((((([] : List UInt8) ++ num (IntKind.wrap .u64 (m.kind.toInt)).toNat) ++ num (IntKind.wrap .u64 (m.time.toInt)).toNat) ++ num (IntKind.wrap .u64 (m.cls.toInt)).toNat) ++ num (m.high.toNat : Int).toNat) ++ num (IntKind.wrap .u64 (m.bank.toInt)).toNat) ++ num (IntKind.wrap .u64 (m.place.toInt)).toNat) ++ num (m.value.toNat : Int).toNat).length) c98, .int .i64 0]) (by kernel_rfl) ?_
  refine ⟨(((((((([] : List UInt8) ++ num (IntKind.wrap .u64 (m.kind.toInt)).toNat) ++ num (IntKind.wrap .u64 (m.time.toInt)).toNat) ++ num (IntKind.wrap .u64 (m.cls.toInt)).toNat) ++ num (m.high.toNat : Int).toNat) ++ num (IntKind.wrap .u64 (m.bank.toInt)).toNat) ++ num (IntKind.wrap .u64 (m.place.toInt)).toNat) ++ num (m.value.toNat : Int).toNat), 0, A97, c98, ?_, rfl, ?_, ?_, ?_, ?_, (hO_104.wide (by omega) (by omega)), (hR_105.wide (by omega) (by omega)), HM⟩
  ·rw [rmbytes]
   try simp only [hsp7]
   rw [if_neg h10]
   all_goals (try rfl)
  ·exact A97_n
  ·first | exact A97_c | omega
  ·omega
  ·simp only [List.length_append, List.length_cons, List.length_nil] at *; omega

theorem rNew_ok {w : World} {room : Int} (room_r : -9223372036854775808 ≤ room ∧ room ≤ 9223372036854775807) (hroom : 1 ≤ room ∧ room ≤ 4096) :
  Ret Try.prog 14 #[.int .i64 room] w fun v w' => ∃ r : Nat, v = .tuple #[.pointer (some ⟨r, 0, none⟩), .int .i64 0] ∧ (w.heap.size ≤ r ∧ r < w'.heap.size) ∧ Blk w' r 47 [.int .i64 room, .slice none 0 0, .int .i64 0, .bool false] ∧ Mod (Nil) w w' := by
 have HM : Mod (Nil) w w := Mod.refl _ w
 refine ret_of Try.func14 rfl rfl ?_
 refine wp_seq ?_
 refine c_region (L := [0, 1]) (by kernel_rfl) ?_
 refine st_pure (l := [0, 1]) (rest := []) (L := [(2, .pointer none), (3, .int .i64 0)]) rfl (by kernel_rfl) ?_
 refine st_end ?_
 refine then_n ?_
 refine wp_seq ?_
 refine wp_seq ?_
 refine c_region (L := [0, 1, 2, 3, 4, 5]) (by kernel_rfl) ?_
 have hd1 : ¬ (room < 1) := by omega
 have hb2 : (decide (room < 1)) = false := decide_eq_false hd1
 refine st_pure (l := [0, 1]) (rest := [2, 3, 4, 5]) (L := [(4, .int .i64 room), (5, .bool false)]) rfl (Eq.trans (b := some [(4, .int .i64 room), (5, .bool (decide (room < 1)))]) (by kernel_rfl) (by simp only [hb2])) ?_
 have hd3 : ¬ (room > 4096) := by omega
 have hb4 : (decide (room > 4096)) = false := decide_eq_false hd3
 refine st_pure (l := [2, 3, 4]) (rest := [5]) (L := [(6, .bool false), (7, .int .i64 room), (8, .bool false)]) rfl (Eq.trans (b := some [(6, .bool false), (7, .int .i64 room), (8, .bool (decide (room > 4096)))]) (by kernel_rfl) (by simp only [hb4])) ?_
 refine st_pure (l := [5]) (rest := []) (L := [(9, .bool false)]) rfl (by kernel_rfl) ?_
 refine st_end ?_
 refine then_n ?_
 refine c_false (by kernel_rfl) ?_
 refine wp_skip ?_
 refine then_n ?_
 refine wp_seq ?_
 refine c_region (L := [0, 1, 2, 3, 4]) (by kernel_rfl) ?_
 refine st_pure (l := [0, 1]) (rest := [2, 3, 4]) (L := [(10, .int .i64 room), (11, .agg #[.int .i64 room, .slice none 0 0, .int .i64 0, .bool false])]) rfl (by kernel_rfl) ?_
 refine st_new (d := 12) (e := 47) (C := [.int .i64 room, .slice none 0 0, .int .i64 0, .bool false]) (V := fun r => .pointer (some ⟨r, 0, none⟩)) (by kernel_rfl) ?_
 intro b5 w6 m7 lb5 ub5 hB8
 replace HM := HM.tr0 m7
 have hszw6 := m7.size
 refine st_pure (l := [3, 4]) (rest := []) (L := [(2, .pointer (some ⟨b5, 0, none⟩)), (3, .int .i64 0)]) rfl (by kernel_rfl) ?_
 refine st_end ?_
 refine then_n ?_
 refine wp_ret ?_
 refine post_ret (v := .tuple #[.pointer (some ⟨b5, 0, none⟩), .int .i64 0]) (by kernel_rfl) ?_
 refine ⟨b5, rfl, ?_, hB8, HM⟩
 ·omega

theorem rNew_no {w : World} {room : Int} (room_r : -9223372036854775808 ≤ room ∧ room ≤ 9223372036854775807) (hroom : ¬ (1 ≤ room ∧ room ≤ 4096)) :
  Ret Try.prog 14 #[.int .i64 room] w fun v w' => v = .tuple #[.pointer none, .int .i64 2] ∧ Mod (Nil) w w' := by
 have HM : Mod (Nil) w w := Mod.refl _ w
 refine ret_of Try.func14 rfl rfl ?_
 refine wp_seq ?_
 refine c_region (L := [0, 1]) (by kernel_rfl) ?_
 refine st_pure (l := [0, 1]) (rest := []) (L := [(2, .pointer none), (3, .int .i64 0)]) rfl (by kernel_rfl) ?_
 refine st_end ?_
 refine then_n ?_
 refine wp_seq ?_
 refine wp_seq ?_
 refine c_region (L := [0, 1, 2, 3, 4, 5]) (by kernel_rfl) ?_
 by_cases h1 : room < 1
 ·skip
  have hb2 : (decide (room < 1)) = true := decide_eq_true h1
  refine st_pure (l := [0, 1, 2]) (rest := [3, 4, 5]) (L := [(4, .int .i64 room), (5, .bool (decide (room < 1))), (6, .bool true)]) rfl (Eq.trans (b := some [(4, .int .i64 room), (5, .bool (decide (room < 1))), (6, .bool (decide (room < 1)))]) (by kernel_rfl) (by simp only [hb2])) ?_
  refine st_pure (l := [3, 4, 5]) (rest := []) (L := [(7, undef), (8, undef), (9, .bool true)]) rfl (by kernel_rfl) ?_
  refine st_end ?_
  refine then_n ?_
  refine c_true (by kernel_rfl) ?_
  refine wp_seq ?_
  refine c_region (L := [0, 1]) (by kernel_rfl) ?_
  refine st_pure (l := [0, 1]) (rest := []) (L := [(2, .pointer none), (3, .int .i64 2)]) rfl (by kernel_rfl) ?_
  refine st_end ?_
  refine then_n ?_
  refine wp_ret ?_
  refine then_r ?_
  refine post_ret (v := .tuple #[.pointer none, .int .i64 2]) (by kernel_rfl) ?_
  refine ⟨rfl, HM⟩
 ·skip
  have hb3 : (decide (room < 1)) = false := decide_eq_false h1
  refine st_pure (l := [0, 1, 2]) (rest := [3, 4, 5]) (L := [(4, .int .i64 room), (5, .bool (decide (room < 1))), (6, .bool false)]) rfl (Eq.trans (b := some [(4, .int .i64 room), (5, .bool (decide (room < 1))), (6, .bool (decide (room < 1)))]) (by kernel_rfl) (by simp only [hb3])) ?_
  by_cases h4 : room > 4096
  ·skip
   have hb5 : (decide (room > 4096)) = true := decide_eq_true h4
   refine st_pure (l := [3, 4, 5]) (rest := []) (L := [(7, .int .i64 room), (8, .bool (decide (room > 4096))), (9, .bool true)]) rfl (Eq.trans (b := some [(7, .int .i64 room), (8, .bool (decide (room > 4096))), (9, .bool (decide (room > 4096)))]) (by kernel_rfl) (by simp only [hb5])) ?_
   refine st_end ?_
   refine then_n ?_
   refine c_true (by kernel_rfl) ?_
   refine wp_seq ?_
   refine c_region (L := [0, 1]) (by kernel_rfl) ?_
   refine st_pure (l := [0, 1]) (rest := []) (L := [(2, .pointer none), (3, .int .i64 2)]) rfl (by kernel_rfl) ?_
   refine st_end ?_
   refine then_n ?_
   refine wp_ret ?_
   refine then_r ?_
   refine post_ret (v := .tuple #[.pointer none, .int .i64 2]) (by kernel_rfl) ?_
   refine ⟨rfl, HM⟩
  ·skip
   have hb6 : (decide (room > 4096)) = false := decide_eq_false h4
   refine st_pure (l := [3, 4, 5]) (rest := []) (L := [(7, .int .i64 room), (8, .bool (decide (room > 4096))), (9, .bool false)]) rfl (Eq.trans (b := some [(7, .int .i64 room), (8, .bool (decide (room > 4096))), (9, .bool (decide (room > 4096)))]) (by kernel_rfl) (by simp only [hb6])) ?_
   refine st_end ?_
   refine then_n ?_
   refine c_false (by kernel_rfl) ?_
   refine wp_skip ?_
   refine then_n ?_
   refine wp_seq ?_
   refine c_region (L := [0, 1, 2, 3, 4]) (by kernel_rfl) ?_
   refine st_pure (l := [0, 1]) (rest := [2, 3, 4]) (L := [(10, .int .i64 room), (11, .agg #[.int .i64 room, .slice none 0 0, .int .i64 0, .bool false])]) rfl (by kernel_rfl) ?_
   refine st_new (d := 12) (e := 47) (C := [.int .i64 room, .slice none 0 0, .int .i64 0, .bool false]) (V := fun r => .pointer (some ⟨r, 0, none⟩)) (by kernel_rfl) ?_
   intro b7 w8 m9 lb7 ub7 hB10
   replace HM := HM.tr0 m9
   have hszw8 := m9.size
   refine st_pure (l := [3, 4]) (rest := []) (L := [(2, .pointer (some ⟨b7, 0, none⟩)), (3, .int .i64 0)]) rfl (by kernel_rfl) ?_
   refine st_end ?_
   refine then_n ?_
   refine wp_ret ?_
   refine post_ret (v := .tuple #[.pointer (some ⟨b7, 0, none⟩), .int .i64 0]) (by kernel_rfl) ?_
   exfalso; omega

def rsnd (ml : List Msg) (mo : Int) (mk : Int) (en : Bool) (m : Msg) : Int × List Msg × Int × Bool :=
  match rchk m with
  | e5 =>
   if e5 ≠ 0 then
    (2, ml, mk, en)
   else
    if en = true then
     (10, ml, mk, en)
    else
     if m.time.toInt < mk then
      (8, ml, mk, en)
     else
      if (ml.length : Int) ≥ mo then
       (9, ml, mk, en)
      else
       (0, ml ++ [m], m.time.toInt, m.kind.toInt == 5)

theorem rSend_ok {w : World} {r : Nat} {A : Option Addr} {cA : Nat} {ml : List Msg} {mo : Int} {mk : Int} {en : Bool} {lo : Nat} {hi : Nat} {m : Msg} (hr : Blk w r 47 [.int .i64 mo, .slice A ml.length cA, .int .i64 mk, .bool en]) (ho : Own tyMsg 35 w lo hi (.slice A ml.length cA) ml) (mo_r : 0 ≤ mo ∧ mo ≤ 4096) (A_n : A = none → cA = 0) (A_c : ml.length ≤ cA) (mk_r : -9223372036854775808 ≤ mk ∧ mk ≤ 9223372036854775807) (ho_hi : hi ≤ w.heap.size) (hlen : ml.length ≤ 4096) (hsep : hi ≤ r ∨ r < lo) (hlo : lo ≤ w.heap.size) :
  Ret Try.prog 23 #[.pointer (some ⟨r, 0, none⟩), .agg #[.int .i64 m.kind.toInt, .int .i64 m.time.toInt, .int .i64 m.cls.toInt, .int .u8 (m.high.toNat : Int), .int .i64 m.bank.toInt, .int .i64 m.place.toInt, .int .u8 (m.value.toNat : Int)]] w fun v w' => ∃ e2 : Int, ∃ l2 : List Msg, ∃ mk2 : Int, ∃ en2 : Bool, ∃ A2 : Option Addr, ∃ c2 : Nat, ∃ lo2 : Nat, ∃ hi2 : Nat, rsnd ml mo mk en m = (e2, l2, mk2, en2) ∧ v = .int .i64 e2 ∧ (-9223372036854775808 ≤ e2 ∧ e2 ≤ 9223372036854775807) ∧ (A2 = none → c2 = 0) ∧ (l2.length ≤ c2) ∧ (-9223372036854775808 ≤ mk2 ∧ mk2 ≤ 9223372036854775807) ∧ (l2.length ≤ ml.length ∨ (l2.length : Int) ≤ mo) ∧ (lo2 = lo ∧ hi2 = hi ∨ w.heap.size ≤ lo2 ∧ lo2 ≤ hi2 ∧ hi2 ≤ w'.heap.size) ∧ Blk w' r 47 [.int .i64 mo, .slice A2 l2.length c2, .int .i64 mk2, .bool en2] ∧ Own tyMsg 35 w' lo2 hi2 (.slice A2 l2.length c2) l2 ∧ Mod (fun k => k = r ∨ Iv lo hi k) w w' := by
 have hrm_0 := i64_lo m.kind
 have hrm_1 := i64_lo m.time
 have hrm_2 := i64_lo m.cls
 have hrm_4 := i64_lo m.bank
 have hrm_5 := i64_lo m.place
 have hsm_0 := i64_hi m.kind
 have hsm_1 := i64_hi m.time
 have hsm_2 := i64_hi m.cls
 have hsm_3 := u8_hi m.high
 have hsm_4 := i64_hi m.bank
 have hsm_5 := i64_hi m.place
 have hsm_6 := u8_hi m.value
 have lt_hr := hr.lt
 have ho_b := ho.bounds
 have ho_q := ho.rdSelf.2.2.2
 have HM : Mod (fun k => k = r ∨ Iv lo hi k) w w := Mod.refl _ w
 refine ret_of Try.func23 rfl rfl ?_
 refine wp_seq ?_
 refine c_region (L := [0, 1]) (by kernel_rfl) ?_
 refine st_new (d := 3) (e := 35) (C := [.int .i64 m.kind.toInt, .int .i64 m.time.toInt, .int .i64 m.cls.toInt, .int .u8 (m.high.toNat : Int), .int .i64 m.bank.toInt, .int .i64 m.place.toInt, .int .u8 (m.value.toNat : Int)]) (V := fun r => .pointer (some ⟨r, 0, none⟩)) (by kernel_rfl) ?_
 intro b1 w2 m3 lb1 ub1 hB4
 replace hr := hr.mod m3 (fun q => q)
 replace ho := ho.mod0 m3
 replace ho_q := ho_q.mod0 m3
 replace HM := HM.tr0 m3
 have hszw2 := m3.size
 refine st_pure (l := [1]) (rest := []) (L := [(4, .int .i64 0)]) rfl (by kernel_rfl) ?_
 refine st_end ?_
 refine then_n ?_
 refine wp_seq ?_
 refine wp_seq ?_
 refine c_region (L := [0, 1, 2]) (by kernel_rfl) ?_
 refine st_load (d := 5) (t := 35) (cs := _) (v := .agg #[.int .i64 m.kind.toInt, .int .i64 m.time.toInt, .int .i64 m.cls.toInt, .int .u8 (m.high.toNat : Int), .int .i64 m.bank.toInt, .int .i64 m.place.toInt, .int .u8 (m.value.toNat : Int)]) (by kernel_rfl) (hB4.sub 0) (by kernel_rfl) ?_
 refine st_fn (d := 6) (f := 19) (xs := #[.agg #[.int .i64 m.kind.toInt, .int .i64 m.time.toInt, .int .i64 m.cls.toInt, .int .u8 (m.high.toNat : Int), .int .i64 m.bank.toInt, .int .i64 m.place.toInt, .int .u8 (m.value.toNat : Int)]]) (R := _) (by kernel_rfl) (rCheck_ok (w := w2) (m := m) ) ?_
 rintro vw6 w6 ⟨e5, hsp7, rfl, e5_r, m9⟩
 replace hr := hr.mod m9 (fun q => q)
 replace ho := ho.mod0 m9
 replace ho_q := ho_q.mod0 m9
 replace hB4 := hB4.mod m9 (fun q => q)
 replace HM := HM.tr0 m9
 have hszw6 := m9.size
 by_cases h10 : e5 ≠ 0
 ·skip
  have hb11 : (e5 != 0) = true := by first | (rw [bne_iff_ne]; exact h10) | (rw [bne_eq_false_iff_eq]; omega)
  refine st_pure (l := [2]) (rest := []) (L := [(7, .bool true)]) rfl (Eq.trans (b := some [(7, .bool (e5 != 0))]) (by kernel_rfl) (by simp only [hb11])) ?_
  refine st_end ?_
  refine then_n ?_
  refine c_true (by kernel_rfl) ?_
  refine wp_seq ?_
  refine c_region (L := [0]) (by kernel_rfl) ?_
  refine st_pure (l := [0]) (rest := []) (L := [(4, .int .i64 2)]) rfl (by kernel_rfl) ?_
  refine st_end ?_
  refine then_n ?_
  refine wp_ret ?_
  refine then_r ?_
  refine post_ret (v := .int .i64 2) (by kernel_rfl) ?_
  refine ⟨2, ml, mk, en, A, cA, lo, hi, ?_, rfl, ?_, ?_, ?_, ?_, ?_, ?_, hr, ho, HM⟩
  ·rw [rsnd]
   try simp only [hsp7]
   rw [if_pos h10]
   all_goals (try rfl)
  ·omega
  ·exact A_n
  ·first | exact A_c | omega
  ·omega
  ·first | omega | (simp only [List.length_append, List.length_cons, List.length_nil, List.length_take, List.length_drop, List.length_set, List.length_replicate] at *; omega)
  ·omega
 ·skip
  have hb12 : (e5 != 0) = false := by rw [bne_eq_false_iff_eq]; exact Decidable.not_not.1 h10
  refine st_pure (l := [2]) (rest := []) (L := [(7, .bool false)]) rfl (Eq.trans (b := some [(7, .bool (e5 != 0))]) (by kernel_rfl) (by simp only [hb12])) ?_
  refine st_end ?_
  refine then_n ?_
  refine c_false (by kernel_rfl) ?_
  refine wp_skip ?_
  refine then_n ?_
  refine wp_seq ?_
  refine wp_seq ?_
  refine c_region (L := [0, 1, 2, 3]) (by kernel_rfl) ?_
  refine st_pure (l := [0, 1, 2]) (rest := [3]) (L := [(8, .pointer (some ⟨r, 0, none⟩)), (9, .pointer (some ⟨r, 0, none⟩)), (10, .pointer (some ⟨r, 3, none⟩))]) rfl (by kernel_rfl) ?_
  by_cases h13 : en = true
  ·skip
   have hb14 : (en) = true := by simpa using h13
   refine st_load (d := 11) (t := 4) (cs := _) (v := .bool true) (by kernel_rfl) (hr.sub 3) (Eq.trans (b := some (.bool en)) (by kernel_rfl) (by rw [hb14])) ?_
   refine st_end ?_
   refine then_n ?_
   refine c_true (by kernel_rfl) ?_
   refine wp_seq ?_
   refine c_region (L := [0]) (by kernel_rfl) ?_
   refine st_pure (l := [0]) (rest := []) (L := [(4, .int .i64 10)]) rfl (by kernel_rfl) ?_
   refine st_end ?_
   refine then_n ?_
   refine wp_ret ?_
   refine then_r ?_
   refine post_ret (v := .int .i64 10) (by kernel_rfl) ?_
   refine ⟨10, ml, mk, en, A, cA, lo, hi, ?_, rfl, ?_, ?_, ?_, ?_, ?_, ?_, hr, ho, HM⟩
   ·rw [rsnd]
    try simp only [hsp7]
    rw [if_neg h10, if_pos h13]
    all_goals (try rfl)
   ·omega
   ·exact A_n
   ·first | exact A_c | omega
   ·omega
   ·first | omega | (simp only [List.length_append, List.length_cons, List.length_nil, List.length_take, List.length_drop, List.length_set, List.length_replicate] at *; omega)
   ·omega
  ·skip
   have hb15 : (en) = false := by simpa using h13
   refine st_load (d := 11) (t := 4) (cs := _) (v := .bool false) (by kernel_rfl) (hr.sub 3) (Eq.trans (b := some (.bool en)) (by kernel_rfl) (by rw [hb15])) ?_
   refine st_end ?_
   refine then_n ?_
   refine c_false (by kernel_rfl) ?_
   refine wp_skip ?_
   refine then_n ?_
   refine wp_seq ?_
   refine wp_seq ?_
   refine c_drawS (Nil) (Nil) [0, 1, 2, 3, 4, 5, 6] [] 0 (fun _ q => q) (by kernel_rfl) (n := 7) (by kernel_rfl) (by kernel_rfl) ?_
   intro w16 HGw16
   have hr_w16 := hr
   have ho_w16 := ho
   have ho_q_w16 := ho_q
   have hB4_w16 := hB4
   have HC17 : Mod (Nil) w6 w16 := Mod.weaken HGw16 fun _ _ q => q.elim
   replace hr := hr.mod HGw16 (fun q => q)
   replace ho := ho.mod0 HGw16
   replace ho_q := ho_q.mod0 HGw16
   replace hB4 := hB4.mod HGw16 (fun q => q)
   replace HM := HM.tr0 HGw16
   have hszw16 := HGw16.size
   refine m_p (k := 0) (n := 1) (fuel := 6) (L := [(12, .pointer (some ⟨b1, 1, none⟩))]) (by kernel_rfl) (by kernel_rfl) rfl ?_
   refine m_load (d := 13) (t := 2) (b := b1) (o := 1) (v := .int .i64 m.time.toInt) (by kernel_rfl) (by kernel_rfl) (fun wQ (mQ : Mod (Nil) w6 wQ) => (hB4_w16.mod mQ (fun q => q)).sub 1) (by kernel_rfl) ?_
   refine m_p (k := 2) (n := 3) (fuel := 2) (L := [(14, .pointer (some ⟨r, 0, none⟩)), (15, .pointer (some ⟨r, 0, none⟩)), (16, .pointer (some ⟨r, 2, none⟩))]) (by kernel_rfl) (by kernel_rfl) rfl ?_
   refine m_load (d := 17) (t := 2) (b := r) (o := 2) (v := .int .i64 mk) (by kernel_rfl) (by kernel_rfl) (fun wQ (mQ : Mod (Nil) w6 wQ) => (hr_w16.mod mQ (fun q => q)).sub 2) (by kernel_rfl) ?_
   by_cases h18 : m.time.toInt < mk
   ·skip
    have hb19 : (decide (m.time.toInt < mk)) = true := decide_eq_true h18
    refine m_p (k := 6) (n := 1) (fuel := 0) (L := [(18, .bool true)]) (by kernel_rfl) (Eq.trans (b := some [(18, .bool (decide (m.time.toInt < mk)))]) (by kernel_rfl) (by simp only [hb19])) rfl ?_
    refine m_end ?_
    refine then_n ?_
    refine c_true (by kernel_rfl) ?_
    refine wp_seq ?_
    refine c_region (L := [0]) (by kernel_rfl) ?_
    refine st_pure (l := [0]) (rest := []) (L := [(4, .int .i64 8)]) rfl (by kernel_rfl) ?_
    refine st_end ?_
    refine then_n ?_
    refine wp_ret ?_
    refine then_r ?_
    refine post_ret (v := .int .i64 8) (by kernel_rfl) ?_
    refine ⟨8, ml, mk, en, A, cA, lo, hi, ?_, rfl, ?_, ?_, ?_, ?_, ?_, ?_, hr, ho, HM⟩
    ·rw [rsnd]
     try simp only [hsp7]
     rw [if_neg h10, if_neg h13, if_pos h18]
     all_goals (try rfl)
    ·omega
    ·exact A_n
    ·first | exact A_c | omega
    ·omega
    ·first | omega | (simp only [List.length_append, List.length_cons, List.length_nil, List.length_take, List.length_drop, List.length_set, List.length_replicate] at *; omega)
    ·omega
   ·skip
    have hb20 : (decide (m.time.toInt < mk)) = false := decide_eq_false h18
    refine m_p (k := 6) (n := 1) (fuel := 0) (L := [(18, .bool false)]) (by kernel_rfl) (Eq.trans (b := some [(18, .bool (decide (m.time.toInt < mk)))]) (by kernel_rfl) (by simp only [hb20])) rfl ?_
    refine m_end ?_
    refine then_n ?_
    refine c_false (by kernel_rfl) ?_
    refine wp_skip ?_
    refine then_n ?_
    refine wp_seq ?_
    refine wp_seq ?_
    refine c_drawS (Nil) (Nil) [0, 1, 2, 3, 4, 5, 6, 7, 8, 9] [] 0 (fun _ q => q) (by kernel_rfl) (n := 10) (by kernel_rfl) (by kernel_rfl) ?_
    intro w21 HGw21
    have hr_w21 := hr
    have ho_w21 := ho
    have ho_q_w21 := ho_q
    have hB4_w21 := hB4
    have HC22 : Mod (Nil) w16 w21 := Mod.weaken HGw21 fun _ _ q => q.elim
    replace hr := hr.mod HGw21 (fun q => q)
    replace ho := ho.mod0 HGw21
    replace ho_q := ho_q.mod0 HGw21
    replace hB4 := hB4.mod HGw21 (fun q => q)
    replace HM := HM.tr0 HGw21
    have hszw21 := HGw21.size
    refine m_p (k := 0) (n := 3) (fuel := 7) (L := [(19, .pointer (some ⟨r, 0, none⟩)), (20, .pointer (some ⟨r, 0, none⟩)), (21, .pointer (some ⟨r, 1, none⟩))]) (by kernel_rfl) (by kernel_rfl) rfl ?_
    refine m_load (d := 22) (t := 45) (b := r) (o := 1) (v := .slice A ml.length cA) (by kernel_rfl) (by kernel_rfl) (fun wQ (mQ : Mod (Nil) w16 wQ) => (hr_w21.mod mQ (fun q => q)).sub 1) (by kernel_rfl) ?_
    refine m_p (k := 4) (n := 4) (fuel := 2) (L := [(23, .int .i64 (ml.length : Int)), (24, .pointer (some ⟨r, 0, none⟩)), (25, .pointer (some ⟨r, 0, none⟩)), (26, .pointer (some ⟨r, 0, none⟩))]) (by kernel_rfl) (by kernel_rfl) rfl ?_
    refine m_load (d := 27) (t := 3) (b := r) (o := 0) (v := .int .i64 mo) (by kernel_rfl) (by kernel_rfl) (fun wQ (mQ : Mod (Nil) w16 wQ) => (hr_w21.mod mQ (fun q => q)).sub 0) (by kernel_rfl) ?_
    by_cases h23 : (ml.length : Int) ≥ mo
    ·skip
     have hb24 : (decide ((ml.length : Int) ≥ mo)) = true := decide_eq_true h23
     refine m_p (k := 9) (n := 1) (fuel := 0) (L := [(28, .bool true)]) (by kernel_rfl) (Eq.trans (b := some [(28, .bool (decide ((ml.length : Int) ≥ mo)))]) (by kernel_rfl) (by simp only [hb24])) rfl ?_
     refine m_end ?_
     refine then_n ?_
     refine c_true (by kernel_rfl) ?_
     refine wp_seq ?_
     refine c_region (L := [0]) (by kernel_rfl) ?_
     refine st_pure (l := [0]) (rest := []) (L := [(4, .int .i64 9)]) rfl (by kernel_rfl) ?_
     refine st_end ?_
     refine then_n ?_
     refine wp_ret ?_
     refine then_r ?_
     refine post_ret (v := .int .i64 9) (by kernel_rfl) ?_
     refine ⟨9, ml, mk, en, A, cA, lo, hi, ?_, rfl, ?_, ?_, ?_, ?_, ?_, ?_, hr, ho, HM⟩
     ·rw [rsnd]
      try simp only [hsp7]
      rw [if_neg h10, if_neg h13, if_neg h18, if_pos h23]
      all_goals (try rfl)
     ·omega
     ·exact A_n
     ·first | exact A_c | omega
     ·omega
     ·first | omega | (simp only [List.length_append, List.length_cons, List.length_nil, List.length_take, List.length_drop, List.length_set, List.length_replicate] at *; omega)
     ·omega
    ·skip
     have hb25 : (decide ((ml.length : Int) ≥ mo)) = false := decide_eq_false h23
     refine m_p (k := 9) (n := 1) (fuel := 0) (L := [(28, .bool false)]) (by kernel_rfl) (Eq.trans (b := some [(28, .bool (decide ((ml.length : Int) ≥ mo)))]) (by kernel_rfl) (by simp only [hb25])) rfl ?_
     refine m_end ?_
     refine then_n ?_
     refine c_false (by kernel_rfl) ?_
     refine wp_skip ?_
     refine then_n ?_
     refine wp_seq ?_
     refine c_drawS (fun k => Iv lo hi k) (fun k => Iv lo hi k ∨ k = r) [0, 1, 2, 3, 4, 5, 8, 9] [4] 10 (by intro k h3; (try simp only [Iv] at h3 ⊢); omega) (by kernel_rfl) (n := 11) (by kernel_rfl) (by kernel_rfl) ?_
     intro w26 HGw26
     have hr_w26 := hr
     have ho_w26 := ho
     have ho_q_w26 := ho_q
     have hB4_w26 := hB4
     have HC27 : Mod (fun k => Iv lo hi k) w21 w26 := Mod.weaken HGw26 fun _ _ q => q.elim
     replace hr := hr.mod HGw26 (fun q => q)
     replace ho := ho.mod0 HGw26
     replace ho_q := ho_q.mod0 HGw26
     replace hB4 := hB4.mod HGw26 (fun q => q)
     replace HM := HM.tr0 HGw26
     have hszw26 := HGw26.size
     refine m_p (k := 0) (n := 4) (fuel := 7) (L := [(29, .pointer (some ⟨r, 0, none⟩)), (30, .pointer (some ⟨r, 0, none⟩)), (31, .pointer (some ⟨r, 0, none⟩)), (32, .pointer (some ⟨r, 1, none⟩))]) (by kernel_rfl) (by kernel_rfl) rfl ?_
     refine m_load (d := 33) (t := 45) (b := r) (o := 1) (v := .slice A ml.length cA) (by kernel_rfl) (by kernel_rfl) (fun wQ (mQ : Mod (fun k => Iv lo hi k) w21 wQ) => (hr_w26.mod mQ (by intro h3; (try simp only [Iv] at h3); omega)).sub 1) (by kernel_rfl) ?_
     refine m_load (d := 34) (t := 35) (b := b1) (o := 0) (v := .agg #[.int .i64 m.kind.toInt, .int .i64 m.time.toInt, .int .i64 m.cls.toInt, .int .u8 (m.high.toNat : Int), .int .i64 m.bank.toInt, .int .i64 m.place.toInt, .int .u8 (m.value.toNat : Int)]) (by kernel_rfl) (by kernel_rfl) (fun wQ (mQ : Mod (fun k => Iv lo hi k ∨ k = r) w21 wQ) => (hB4_w26.mod mQ (by intro h3; (try simp only [Iv] at h3); omega)).sub 0) (by kernel_rfl) ?_
     refine m_Q (by kernel_rfl) ?_
     refine st_new (d := 35) (e := 35) (C := [.int .i64 m.kind.toInt, .int .i64 m.time.toInt, .int .i64 m.cls.toInt, .int .u8 (m.high.toNat : Int), .int .i64 m.bank.toInt, .int .i64 m.place.toInt, .int .u8 (m.value.toNat : Int)]) (V := fun r => .slice (some ⟨r, 0, none⟩) 1 1) (by kernel_rfl) ?_
     intro b28 w29 m30 lb28 ub28 hB31
     replace hr := hr.mod m30 (fun q => q)
     replace ho := ho.mod0 m30
     replace ho_q := ho_q.mod0 m30
     replace hB4 := hB4.mod m30 (fun q => q)
     replace HM := HM.tr0 m30
     have hszw29 := m30.size
     have HC32 := HC27.tr0 m30
     refine st_end (m_after HC32 ?_)
     refine m_Q (by kernel_rfl) ?_
     refine st_append2 (d := 36) (tn := 45) (e := 35) (ty := 45) (t := tyMsg) (v := .slice A ml.length cA) (A := some ⟨b28, 0, none⟩) (n := 1) (c := 1) (l := ml) (m := [m]) (z := .agg #[.int .i64 0, .int .i64 0, .int .i64 0, .int .u8 0, .int .i64 0, .int .i64 0, .int .u8 0]) (bytes := 56) (by kernel_rfl) Try.underlying45 (by kernel_rfl) rfl (by decide) ho (Blk.rd (t := tyMsg) (l := [m]) hB31 rfl (by simp) b28 (b28 + 1) (Nat.le_refl _) (by omega)) (by simp) (by simp only [List.length_append, List.length_cons, List.length_nil, List.length_take, List.length_drop] at *; omega) (by omega) (by intro h; cases h) ?_
     intro v33 w34 lo37 hi38 m35 hdis39 hO36
     clear ho
     clear ho_q
     clear hB31
     replace hr := hr.mod m35 (by intro h3; (try simp only [Iv] at h3); omega)
     replace hB4 := hB4.mod m35 (by intro h3; (try simp only [Iv] at h3); omega)
     replace HM := HM.trans m35 (by intro k h1 h3; (try simp only [Iv] at h3 ⊢); omega)
     have hszw34 := m35.size
     have HC40 : Mod (fun k => Iv lo hi k) w21 _ := HC32.trans m35 (by intro k h1 h3; (try simp only [Iv] at h3 ⊢); omega)
     refine st_end (m_after HC40 ?_)
     obtain ⟨A41, c42, rfl, A41_c, A41_n, hR44⟩ := hO36.rd
     have hR44_l := hR44.len
     refine m_p (k := 8) (n := 2) (fuel := 1) (L := [(37, .pointer (some ⟨r, 0, none⟩)), (38, .pointer (some ⟨r, 1, none⟩))]) (by kernel_rfl) (by kernel_rfl) rfl ?_
     refine m_Q (by kernel_rfl) ?_
     refine st_store (t := 45) (v := .slice A41 ((ml ++ [m]).length) c42) (o := 1) (C' := [.int .i64 mo, .slice A41 ((ml ++ [m]).length) c42, .int .i64 mk, .bool en]) (by kernel_rfl) hr (by kernel_rfl) ?_
     intro w45 m46 zm46 Nhr
     clear hr; have hr := Nhr; clear Nhr
     replace hB4 := hB4.mod m46 (by intro h3; (try simp only [Iv] at h3); omega)
     replace hO36 := hO36.mod m46 (by intro k h1 h2 h3; (try simp only [Iv] at h3); omega)
     replace hR44 := hR44.mod m46 (by intro k h1 h2 h3; (try simp only [Iv] at h3); omega)
     replace HM := HM.trans m46 (by intro k h1 h3; (try simp only [Iv] at h3 ⊢); omega)
     have hszw45 := m46.size
     have HC47 : Mod (fun k => Iv lo hi k ∨ k = r) w21 _ := (HC40.weaken (by intro k h1 h3; (try simp only [Iv] at h3 ⊢); omega)).trans m46 (by intro k h1 h3; (try simp only [Iv] at h3 ⊢); omega)
     refine st_end (m_after HC47 ?_)
     refine m_end ?_
     refine then_n ?_
     refine wp_seq ?_
     refine c_drawS (fun k => k = r) (fun k => k = r) [0, 1, 2, 3, 4, 5, 6, 7, 8, 10, 11] [] 0 (fun _ q => q) (by kernel_rfl) (n := 13) (by kernel_rfl) (by kernel_rfl) ?_
     intro w48 HGw48
     have hr_w48 := hr
     have hB4_w48 := hB4
     have hO36_w48 := hO36
     have hR44_w48 := hR44
     have HC49 : Mod (fun k => k = r) w45 w48 := Mod.weaken HGw48 fun _ _ q => q.elim
     replace hr := hr.mod HGw48 (fun q => q)
     replace hB4 := hB4.mod HGw48 (fun q => q)
     replace hO36 := hO36.mod0 HGw48
     replace hR44 := hR44.mod0 HGw48
     replace HM := HM.tr0 HGw48
     have hszw48 := HGw48.size
     refine m_p (k := 0) (n := 3) (fuel := 10) (L := [(39, .pointer (some ⟨r, 0, none⟩)), (40, .pointer (some ⟨r, 0, none⟩)), (41, .pointer (some ⟨b1, 1, none⟩))]) (by kernel_rfl) (by kernel_rfl) rfl ?_
     refine m_load (d := 42) (t := 2) (b := b1) (o := 1) (v := .int .i64 m.time.toInt) (by kernel_rfl) (by kernel_rfl) (fun wQ (mQ : Mod (fun k => k = r) w45 wQ) => (hB4_w48.mod mQ (by intro h3; (try simp only [Iv] at h3); omega)).sub 1) (by kernel_rfl) ?_
     refine m_p (k := 4) (n := 1) (fuel := 8) (L := [(43, .pointer (some ⟨b1, 0, none⟩))]) (by kernel_rfl) (by kernel_rfl) rfl ?_
     refine m_load (d := 44) (t := 3) (b := b1) (o := 0) (v := .int .i64 m.kind.toInt) (by kernel_rfl) (by kernel_rfl) (fun wQ (mQ : Mod (fun k => k = r) w45 wQ) => (hB4_w48.mod mQ (by intro h3; (try simp only [Iv] at h3); omega)).sub 0) (by kernel_rfl) ?_
     refine m_p (k := 6) (n := 3) (fuel := 4) (L := [(45, .bool (m.kind.toInt == 5)), (46, .pointer (some ⟨r, 0, none⟩)), (47, .pointer (some ⟨r, 2, none⟩))]) (by kernel_rfl) (by kernel_rfl) rfl ?_
     refine m_Q (by kernel_rfl) ?_
     refine st_store (t := 2) (v := .int .i64 m.time.toInt) (o := 2) (C' := [.int .i64 mo, .slice A41 ((ml ++ [m]).length) c42, .int .i64 m.time.toInt, .bool en]) (by kernel_rfl) hr (by kernel_rfl) ?_
     intro w50 m51 zm51 Nhr
     clear hr; have hr := Nhr; clear Nhr
     replace hB4 := hB4.mod m51 (by intro h3; (try simp only [Iv] at h3); omega)
     replace hO36 := hO36.mod m51 (by intro k h1 h2 h3; (try simp only [Iv] at h3); omega)
     replace hR44 := hR44.mod m51 (by intro k h1 h2 h3; (try simp only [Iv] at h3); omega)
     replace HM := HM.trans m51 (by intro k h1 h3; (try simp only [Iv] at h3 ⊢); omega)
     have hszw50 := m51.size
     have HC52 : Mod (fun k => k = r) w45 _ := HC49.trans m51 (by intro k h1 h3; (try simp only [Iv] at h3 ⊢); omega)
     refine st_end (m_after HC52 ?_)
     refine m_p (k := 10) (n := 2) (fuel := 1) (L := [(48, .pointer (some ⟨r, 0, none⟩)), (49, .pointer (some ⟨r, 3, none⟩))]) (by kernel_rfl) (by kernel_rfl) rfl ?_
     refine m_Q (by kernel_rfl) ?_
     refine st_store (t := 4) (v := .bool (m.kind.toInt == 5)) (o := 3) (C' := [.int .i64 mo, .slice A41 ((ml ++ [m]).length) c42, .int .i64 m.time.toInt, .bool (m.kind.toInt == 5)]) (by kernel_rfl) hr (by kernel_rfl) ?_
     intro w53 m54 zm54 Nhr
     clear hr; have hr := Nhr; clear Nhr
     replace hB4 := hB4.mod m54 (by intro h3; (try simp only [Iv] at h3); omega)
     replace hO36 := hO36.mod m54 (by intro k h1 h2 h3; (try simp only [Iv] at h3); omega)
     replace hR44 := hR44.mod m54 (by intro k h1 h2 h3; (try simp only [Iv] at h3); omega)
     replace HM := HM.trans m54 (by intro k h1 h3; (try simp only [Iv] at h3 ⊢); omega)
     have hszw53 := m54.size
     have HC55 : Mod (fun k => k = r) w45 _ := HC52.trans m54 (by intro k h1 h3; (try simp only [Iv] at h3 ⊢); omega)
     refine st_end (m_after HC55 ?_)
     refine m_end ?_
     refine then_n ?_
     refine wp_seq ?_
     refine c_region (L := [0]) (by kernel_rfl) ?_
     refine st_pure (l := [0]) (rest := []) (L := [(4, .int .i64 0)]) rfl (by kernel_rfl) ?_
     refine st_end ?_
     refine then_n ?_
     refine wp_ret ?_
     refine post_ret (v := .int .i64 0) (by kernel_rfl) ?_
     refine ⟨0, ml ++ [m], m.time.toInt, m.kind.toInt == 5, A41, c42, lo37, hi38, ?_, rfl, ?_, ?_, ?_, ?_, ?_, ?_, hr, hO36, HM⟩
     ·rw [rsnd]
      try simp only [hsp7]
      rw [if_neg h10, if_neg h13, if_neg h18, if_neg h23]
      all_goals (try rfl)
     ·omega
     ·exact A41_n
     ·first | exact A41_c | omega
     ·omega
     ·first | omega | (simp only [List.length_append, List.length_cons, List.length_nil, List.length_take, List.length_drop, List.length_set, List.length_replicate] at *; omega)
     ·omega

def rfst (ml : List Msg) : Msg × Bool :=
  if (ml.length : Int) = 0 then
   (Msg.zero, false)
  else
   match ml.getD 0 Msg.zero with
   | x14 =>
    (x14, true)

theorem rFirst_ok {w : World} {r : Nat} {A : Option Addr} {cA : Nat} {ml : List Msg} {mo : Int} {mk : Int} {en : Bool} {lo : Nat} {hi : Nat} (hr : Blk w r 47 [.int .i64 mo, .slice A ml.length cA, .int .i64 mk, .bool en]) (hq : RdA tyMsg w lo hi A ml) (mo_r : 0 ≤ mo ∧ mo ≤ 4096) (A_n : A = none → cA = 0) (A_c : ml.length ≤ cA) (mk_r : -9223372036854775808 ≤ mk ∧ mk ≤ 9223372036854775807) (hq_hi : hi ≤ w.heap.size) :
  Ret Try.prog 25 #[.pointer (some ⟨r, 0, none⟩)] w fun v w' => ∃ m2 : Msg, ∃ d : Bool, rfst ml = (m2, d) ∧ v = .tuple #[.agg #[.int .i64 m2.kind.toInt, .int .i64 m2.time.toInt, .int .i64 m2.cls.toInt, .int .u8 (m2.high.toNat : Int), .int .i64 m2.bank.toInt, .int .i64 m2.place.toInt, .int .u8 (m2.value.toNat : Int)], .bool d] ∧ Mod (Nil) w w' := by
 have lt_hr := hr.lt
 have hq_l := hq.len
 have HM : Mod (Nil) w w := Mod.refl _ w
 refine ret_of Try.func25 rfl rfl ?_
 refine wp_seq ?_
 refine c_region (L := [0, 1]) (by kernel_rfl) ?_
 refine st_new (d := 2) (e := 35) (C := [.int .i64 0, .int .i64 0, .int .i64 0, .int .u8 0, .int .i64 0, .int .i64 0, .int .u8 0]) (V := fun r => .pointer (some ⟨r, 0, none⟩)) (by kernel_rfl) ?_
 intro b1 w2 m3 lb1 ub1 hB4
 replace hr := hr.mod m3 (fun q => q)
 replace hq := hq.mod0 m3
 replace HM := HM.tr0 m3
 have hszw2 := m3.size
 refine st_pure (l := [1]) (rest := []) (L := [(3, .bool false)]) rfl (by kernel_rfl) ?_
 refine st_end ?_
 refine then_n ?_
 refine wp_seq ?_
 refine wp_seq ?_
 refine c_region (L := [0, 1, 2, 3, 4, 5]) (by kernel_rfl) ?_
 refine st_pure (l := [0, 1, 2]) (rest := [3, 4, 5]) (L := [(4, .pointer (some ⟨r, 0, none⟩)), (5, .pointer (some ⟨r, 0, none⟩)), (6, .pointer (some ⟨r, 1, none⟩))]) rfl (by kernel_rfl) ?_
 refine st_load (d := 7) (t := 45) (cs := _) (v := .slice A ml.length cA) (by kernel_rfl) (hr.sub 1) (by kernel_rfl) ?_
 by_cases h5 : (ml.length : Int) = 0
 ·skip
  have hb6 : ((ml.length : Int) == 0) = true := beq_iff_eq.2 h5
  refine st_pure (l := [4, 5]) (rest := []) (L := [(8, .int .i64 (ml.length : Int)), (9, .bool true)]) rfl (Eq.trans (b := some [(8, .int .i64 (ml.length : Int)), (9, .bool ((ml.length : Int) == 0))]) (by kernel_rfl) (by simp only [hb6])) ?_
  refine st_end ?_
  refine then_n ?_
  refine c_true (by kernel_rfl) ?_
  refine wp_seq ?_
  refine c_region (L := [0, 1, 2]) (by kernel_rfl) ?_
  refine st_pure (l := [0]) (rest := [1, 2]) (L := [(10, .agg #[.int .i64 0, .int .i64 0, .int .i64 0, .int .u8 0, .int .i64 0, .int .i64 0, .int .u8 0])]) rfl (by kernel_rfl) ?_
  refine st_store (t := 35) (v := .agg #[.int .i64 0, .int .i64 0, .int .i64 0, .int .u8 0, .int .i64 0, .int .i64 0, .int .u8 0]) (o := 0) (C' := [.int .i64 0, .int .i64 0, .int .i64 0, .int .u8 0, .int .i64 0, .int .i64 0, .int .u8 0]) (by kernel_rfl) hB4 (by kernel_rfl) ?_
  intro w7 m8 zm8 NhB4
  clear hB4; have hB4 := NhB4; clear NhB4
  replace hr := hr.mod m8 (by intro h3; (try simp only [Iv] at h3); omega)
  replace hq := hq.mod m8 (by intro k h1 h2 h3; (try simp only [Iv] at h3); omega)
  replace HM := HM.trans m8 (by intro k h1 h3; (try simp only [Iv] at h3 ⊢); omega)
  have hszw7 := m8.size
  refine st_pure (l := [2]) (rest := []) (L := [(3, .bool false)]) rfl (by kernel_rfl) ?_
  refine st_end ?_
  refine then_n ?_
  refine wp_ret ?_
  refine then_r ?_
  refine post_run (v := .tuple #[.agg #[.int .i64 0, .int .i64 0, .int .i64 0, .int .u8 0, .int .i64 0, .int .i64 0, .int .u8 0], .bool false]) (res_cell2 (p := 2) (t := 35) (b := b1) (e := 35) (k := 0) (q := 3) (v := .agg #[.int .i64 0, .int .i64 0, .int .i64 0, .int .u8 0, .int .i64 0, .int .i64 0, .int .u8 0]) (u := .bool false) (by kernel_rfl) (by kernel_rfl) (by kernel_rfl) hB4 (by kernel_rfl)) ?_
  refine ⟨Msg.zero, false, ?_, rfl, HM⟩
  ·rw [rfst, if_pos h5]
   all_goals (try rfl)
 ·skip
  have hb9 : ((ml.length : Int) == 0) = false := beq_eq_false_iff_ne.2 h5
  refine st_pure (l := [4, 5]) (rest := []) (L := [(8, .int .i64 (ml.length : Int)), (9, .bool false)]) rfl (Eq.trans (b := some [(8, .int .i64 (ml.length : Int)), (9, .bool ((ml.length : Int) == 0))]) (by kernel_rfl) (by simp only [hb9])) ?_
  refine st_end ?_
  refine then_n ?_
  refine c_false (by kernel_rfl) ?_
  refine wp_skip ?_
  refine then_n ?_
  refine wp_seq ?_
  refine c_region (L := [0, 1, 2, 3, 4, 5, 6, 7]) (by kernel_rfl) ?_
  refine st_pure (l := [0, 1, 2]) (rest := [3, 4, 5, 6, 7]) (L := [(11, .pointer (some ⟨r, 0, none⟩)), (12, .pointer (some ⟨r, 0, none⟩)), (13, .pointer (some ⟨r, 1, none⟩))]) rfl (by kernel_rfl) ?_
  refine st_load (d := 14) (t := 45) (cs := _) (v := .slice A ml.length cA) (by kernel_rfl) (hr.sub 1) (by kernel_rfl) ?_
  have hi13 : (0 : Int).toNat < (ml).length := by omega
  obtain ⟨b10, o11, ehA12, lhA12, uhA12, hA12⟩ := hq.get hi13
  obtain ⟨x14, ex14⟩ : ∃ y, y = (ml)[(0 : Int).toNat] := ⟨_, rfl⟩
  rw [← ex14] at hA12
  have dx14 := getD_of (d := Msg.zero) hi13 ex14
  simp only [show (0 : Int).toNat = 0 from rfl] at dx14
  have hrx14_0 := i64_lo x14.kind
  have hrx14_1 := i64_lo x14.time
  have hrx14_2 := i64_lo x14.cls
  have hrx14_4 := i64_lo x14.bank
  have hrx14_5 := i64_lo x14.place
  have hsx14_0 := i64_hi x14.kind
  have hsx14_1 := i64_hi x14.time
  have hsx14_2 := i64_hi x14.cls
  have hsx14_3 := u8_hi x14.high
  have hsx14_4 := i64_hi x14.bank
  have hsx14_5 := i64_hi x14.place
  have hsx14_6 := u8_hi x14.value
  refine st_index (d := 15) (tn := 45) (n := ml.length) (c := cA) (ix := 0) (k := .i64) (e := 35) (t := tyMsg) (b := b10) (by kernel_rfl) Try.underlying45 (by kernel_rfl) ehA12 (by omega) (by omega) ?_
  refine st_load (d := 16) (t := 35) (cs := _) (v := .agg #[.int .i64 x14.kind.toInt, .int .i64 x14.time.toInt, .int .i64 x14.cls.toInt, .int .u8 (x14.high.toNat : Int), .int .i64 x14.bank.toInt, .int .i64 x14.place.toInt, .int .u8 (x14.value.toNat : Int)]) (by kernel_rfl) (hA12.dropk 0) (by kernel_rfl) ?_
  refine st_store (t := 35) (v := .agg #[.int .i64 x14.kind.toInt, .int .i64 x14.time.toInt, .int .i64 x14.cls.toInt, .int .u8 (x14.high.toNat : Int), .int .i64 x14.bank.toInt, .int .i64 x14.place.toInt, .int .u8 (x14.value.toNat : Int)]) (o := 0) (C' := [.int .i64 x14.kind.toInt, .int .i64 x14.time.toInt, .int .i64 x14.cls.toInt, .int .u8 (x14.high.toNat : Int), .int .i64 x14.bank.toInt, .int .i64 x14.place.toInt, .int .u8 (x14.value.toNat : Int)]) (by kernel_rfl) hB4 (by kernel_rfl) ?_
  intro w15 m16 zm16 NhB4
  clear hB4; have hB4 := NhB4; clear NhB4
  replace hr := hr.mod m16 (by intro h3; (try simp only [Iv] at h3); omega)
  replace hq := hq.mod m16 (by intro k h1 h2 h3; (try simp only [Iv] at h3); omega)
  replace hA12 := hA12.mod m16 (by intro h3; (try simp only [Iv] at h3); omega)
  replace HM := HM.trans m16 (by intro k h1 h3; (try simp only [Iv] at h3 ⊢); omega)
  have hszw15 := m16.size
  refine st_pure (l := [7]) (rest := []) (L := [(3, .bool true)]) rfl (by kernel_rfl) ?_
  refine st_end ?_
  refine then_n ?_
  refine wp_ret ?_
  refine post_run (v := .tuple #[.agg #[.int .i64 x14.kind.toInt, .int .i64 x14.time.toInt, .int .i64 x14.cls.toInt, .int .u8 (x14.high.toNat : Int), .int .i64 x14.bank.toInt, .int .i64 x14.place.toInt, .int .u8 (x14.value.toNat : Int)], .bool true]) (res_cell2 (p := 2) (t := 35) (b := b1) (e := 35) (k := 0) (q := 3) (v := .agg #[.int .i64 x14.kind.toInt, .int .i64 x14.time.toInt, .int .i64 x14.cls.toInt, .int .u8 (x14.high.toNat : Int), .int .i64 x14.bank.toInt, .int .i64 x14.place.toInt, .int .u8 (x14.value.toNat : Int)]) (u := .bool true) (by kernel_rfl) (by kernel_rfl) (by kernel_rfl) hB4 (by kernel_rfl)) ?_
  refine ⟨x14, true, ?_, rfl, HM⟩
  ·rw [rfst, if_neg h5]
   try simp only [dx14]
   all_goals (try rfl)

def rtk (ml : List Msg) : Msg × Int × List Msg :=
  if (ml.length : Int) = 0 then
   (Msg.zero, 6, ml)
  else
   match ml.getD 0 Msg.zero with
   | x14 =>
    (x14, 0, [] ++ ml.drop 1)

theorem rTake_ok {w : World} {r : Nat} {A : Option Addr} {cA : Nat} {ml : List Msg} {mo : Int} {mk : Int} {en : Bool} {lo : Nat} {hi : Nat} (hr : Blk w r 47 [.int .i64 mo, .slice A ml.length cA, .int .i64 mk, .bool en]) (ho : Own tyMsg 35 w lo hi (.slice A ml.length cA) ml) (mo_r : 0 ≤ mo ∧ mo ≤ 4096) (A_n : A = none → cA = 0) (A_c : ml.length ≤ cA) (mk_r : -9223372036854775808 ≤ mk ∧ mk ≤ 9223372036854775807) (ho_hi : hi ≤ w.heap.size) (hlen : ml.length ≤ 4096) (hsep : hi ≤ r ∨ r < lo) :
  Ret Try.prog 21 #[.pointer (some ⟨r, 0, none⟩)] w fun v w' => ∃ m2 : Msg, ∃ e2 : Int, ∃ l2 : List Msg, ∃ A2 : Option Addr, ∃ c2 : Nat, ∃ lo2 : Nat, ∃ hi2 : Nat, rtk ml = (m2, e2, l2) ∧ v = .tuple #[.agg #[.int .i64 m2.kind.toInt, .int .i64 m2.time.toInt, .int .i64 m2.cls.toInt, .int .u8 (m2.high.toNat : Int), .int .i64 m2.bank.toInt, .int .i64 m2.place.toInt, .int .u8 (m2.value.toNat : Int)], .int .i64 e2] ∧ (-9223372036854775808 ≤ e2 ∧ e2 ≤ 9223372036854775807) ∧ (A2 = none → c2 = 0) ∧ (l2.length ≤ c2) ∧ (l2.length ≤ ml.length) ∧ (lo2 = lo ∧ hi2 = hi ∨ w.heap.size ≤ lo2 ∧ lo2 ≤ hi2 ∧ hi2 ≤ w'.heap.size) ∧ Blk w' r 47 [.int .i64 mo, .slice A2 l2.length c2, .int .i64 mk, .bool en] ∧ Own tyMsg 35 w' lo2 hi2 (.slice A2 l2.length c2) l2 ∧ Mod (fun k => k = r) w w' := by
 have lt_hr := hr.lt
 have ho_b := ho.bounds
 have ho_q := ho.rdSelf.2.2.2
 have HM : Mod (fun k => k = r) w w := Mod.refl _ w
 refine ret_of Try.func21 rfl rfl ?_
 refine wp_seq ?_
 refine c_region (L := [0, 1]) (by kernel_rfl) ?_
 refine st_new (d := 2) (e := 35) (C := [.int .i64 0, .int .i64 0, .int .i64 0, .int .u8 0, .int .i64 0, .int .i64 0, .int .u8 0]) (V := fun r => .pointer (some ⟨r, 0, none⟩)) (by kernel_rfl) ?_
 intro b1 w2 m3 lb1 ub1 hB4
 replace hr := hr.mod m3 (fun q => q)
 replace ho := ho.mod0 m3
 replace ho_q := ho_q.mod0 m3
 replace HM := HM.tr0 m3
 have hszw2 := m3.size
 refine st_pure (l := [1]) (rest := []) (L := [(3, .int .i64 0)]) rfl (by kernel_rfl) ?_
 refine st_end ?_
 refine then_n ?_
 refine wp_seq ?_
 refine wp_seq ?_
 refine c_region (L := [0, 1, 2, 3, 4, 5]) (by kernel_rfl) ?_
 refine st_pure (l := [0, 1, 2]) (rest := [3, 4, 5]) (L := [(5, .pointer (some ⟨r, 0, none⟩)), (6, .pointer (some ⟨r, 0, none⟩)), (7, .pointer (some ⟨r, 1, none⟩))]) rfl (by kernel_rfl) ?_
 refine st_load (d := 8) (t := 45) (cs := _) (v := .slice A ml.length cA) (by kernel_rfl) (hr.sub 1) (by kernel_rfl) ?_
 by_cases h5 : (ml.length : Int) = 0
 ·skip
  have hb6 : ((ml.length : Int) == 0) = true := beq_iff_eq.2 h5
  refine st_pure (l := [4, 5]) (rest := []) (L := [(9, .int .i64 (ml.length : Int)), (10, .bool true)]) rfl (Eq.trans (b := some [(9, .int .i64 (ml.length : Int)), (10, .bool ((ml.length : Int) == 0))]) (by kernel_rfl) (by simp only [hb6])) ?_
  refine st_end ?_
  refine then_n ?_
  refine c_true (by kernel_rfl) ?_
  refine wp_seq ?_
  refine c_region (L := [0, 1, 2]) (by kernel_rfl) ?_
  refine st_pure (l := [0]) (rest := [1, 2]) (L := [(11, .agg #[.int .i64 0, .int .i64 0, .int .i64 0, .int .u8 0, .int .i64 0, .int .i64 0, .int .u8 0])]) rfl (by kernel_rfl) ?_
  refine st_store (t := 35) (v := .agg #[.int .i64 0, .int .i64 0, .int .i64 0, .int .u8 0, .int .i64 0, .int .i64 0, .int .u8 0]) (o := 0) (C' := [.int .i64 0, .int .i64 0, .int .i64 0, .int .u8 0, .int .i64 0, .int .i64 0, .int .u8 0]) (by kernel_rfl) hB4 (by kernel_rfl) ?_
  intro w7 m8 zm8 NhB4
  clear hB4; have hB4 := NhB4; clear NhB4
  replace hr := hr.mod m8 (by intro h3; (try simp only [Iv] at h3); omega)
  replace ho := ho.mod m8 (by intro k h1 h2 h3; (try simp only [Iv] at h3); omega)
  replace ho_q := ho_q.mod m8 (by intro k h1 h2 h3; (try simp only [Iv] at h3); omega)
  replace HM := HM.trans m8 (by intro k h1 h3; (try simp only [Iv] at h3 ⊢); omega)
  have hszw7 := m8.size
  refine st_pure (l := [2]) (rest := []) (L := [(3, .int .i64 6)]) rfl (by kernel_rfl) ?_
  refine st_end ?_
  refine then_n ?_
  refine wp_ret ?_
  refine then_r ?_
  refine post_run (v := .tuple #[.agg #[.int .i64 0, .int .i64 0, .int .i64 0, .int .u8 0, .int .i64 0, .int .i64 0, .int .u8 0], .int .i64 6]) (res_cell2 (p := 2) (t := 35) (b := b1) (e := 35) (k := 0) (q := 3) (v := .agg #[.int .i64 0, .int .i64 0, .int .i64 0, .int .u8 0, .int .i64 0, .int .i64 0, .int .u8 0]) (u := .int .i64 6) (by kernel_rfl) (by kernel_rfl) (by kernel_rfl) hB4 (by kernel_rfl)) ?_
  refine ⟨Msg.zero, 6, ml, A, cA, lo, hi, ?_, rfl, ?_, ?_, ?_, ?_, ?_, hr, ho, HM⟩
  ·rw [rtk, if_pos h5]
   all_goals (try rfl)
  ·omega
  ·exact A_n
  ·first | exact A_c | omega
  ·first | omega | (simp only [List.length_append, List.length_cons, List.length_nil, List.length_take, List.length_drop, List.length_set, List.length_replicate] at *; omega)
  ·omega
 ·skip
  have hb9 : ((ml.length : Int) == 0) = false := beq_eq_false_iff_ne.2 h5
  refine st_pure (l := [4, 5]) (rest := []) (L := [(9, .int .i64 (ml.length : Int)), (10, .bool false)]) rfl (Eq.trans (b := some [(9, .int .i64 (ml.length : Int)), (10, .bool ((ml.length : Int) == 0))]) (by kernel_rfl) (by simp only [hb9])) ?_
  refine st_end ?_
  refine then_n ?_
  refine c_false (by kernel_rfl) ?_
  refine wp_skip ?_
  refine then_n ?_
  refine wp_seq ?_
  refine c_region (L := [0, 1, 2, 3, 4, 5, 6, 7]) (by kernel_rfl) ?_
  refine st_pure (l := [0, 1, 2]) (rest := [3, 4, 5, 6, 7]) (L := [(12, .pointer (some ⟨r, 0, none⟩)), (13, .pointer (some ⟨r, 0, none⟩)), (14, .pointer (some ⟨r, 1, none⟩))]) rfl (by kernel_rfl) ?_
  refine st_load (d := 15) (t := 45) (cs := _) (v := .slice A ml.length cA) (by kernel_rfl) (hr.sub 1) (by kernel_rfl) ?_
  have hi13 : (0 : Int).toNat < (ml).length := by omega
  obtain ⟨b10, o11, ehA12, lhA12, uhA12, hA12⟩ := ho_q.get hi13
  obtain ⟨x14, ex14⟩ : ∃ y, y = (ml)[(0 : Int).toNat] := ⟨_, rfl⟩
  rw [← ex14] at hA12
  have dx14 := getD_of (d := Msg.zero) hi13 ex14
  simp only [show (0 : Int).toNat = 0 from rfl] at dx14
  have hrx14_0 := i64_lo x14.kind
  have hrx14_1 := i64_lo x14.time
  have hrx14_2 := i64_lo x14.cls
  have hrx14_4 := i64_lo x14.bank
  have hrx14_5 := i64_lo x14.place
  have hsx14_0 := i64_hi x14.kind
  have hsx14_1 := i64_hi x14.time
  have hsx14_2 := i64_hi x14.cls
  have hsx14_3 := u8_hi x14.high
  have hsx14_4 := i64_hi x14.bank
  have hsx14_5 := i64_hi x14.place
  have hsx14_6 := u8_hi x14.value
  refine st_index (d := 16) (tn := 45) (n := ml.length) (c := cA) (ix := 0) (k := .i64) (e := 35) (t := tyMsg) (b := b10) (by kernel_rfl) Try.underlying45 (by kernel_rfl) ehA12 (by omega) (by omega) ?_
  refine st_load (d := 17) (t := 35) (cs := _) (v := .agg #[.int .i64 x14.kind.toInt, .int .i64 x14.time.toInt, .int .i64 x14.cls.toInt, .int .u8 (x14.high.toNat : Int), .int .i64 x14.bank.toInt, .int .i64 x14.place.toInt, .int .u8 (x14.value.toNat : Int)]) (by kernel_rfl) (hA12.dropk 0) (by kernel_rfl) ?_
  refine st_new (d := 4) (e := 35) (C := [.int .i64 0, .int .i64 0, .int .i64 0, .int .u8 0, .int .i64 0, .int .i64 0, .int .u8 0]) (V := fun r => .pointer (some ⟨r, 0, none⟩)) (by kernel_rfl) ?_
  intro b15 w16 m17 lb15 ub15 hB18
  replace hr := hr.mod m17 (fun q => q)
  replace ho := ho.mod0 m17
  replace ho_q := ho_q.mod0 m17
  replace hB4 := hB4.mod m17 (fun q => q)
  replace hA12 := hA12.mod m17 (fun q => q)
  replace HM := HM.tr0 m17
  have hszw16 := m17.size
  refine st_store (t := 35) (v := .agg #[.int .i64 x14.kind.toInt, .int .i64 x14.time.toInt, .int .i64 x14.cls.toInt, .int .u8 (x14.high.toNat : Int), .int .i64 x14.bank.toInt, .int .i64 x14.place.toInt, .int .u8 (x14.value.toNat : Int)]) (o := 0) (C' := [.int .i64 x14.kind.toInt, .int .i64 x14.time.toInt, .int .i64 x14.cls.toInt, .int .u8 (x14.high.toNat : Int), .int .i64 x14.bank.toInt, .int .i64 x14.place.toInt, .int .u8 (x14.value.toNat : Int)]) (by kernel_rfl) hB18 (by kernel_rfl) ?_
  intro w19 m20 zm20 NhB18
  clear hB18; have hB18 := NhB18; clear NhB18
  replace hr := hr.mod m20 (by intro h3; (try simp only [Iv] at h3); omega)
  replace ho := ho.mod m20 (by intro k h1 h2 h3; (try simp only [Iv] at h3); omega)
  replace ho_q := ho_q.mod m20 (by intro k h1 h2 h3; (try simp only [Iv] at h3); omega)
  replace hB4 := hB4.mod m20 (by intro h3; (try simp only [Iv] at h3); omega)
  replace hA12 := hA12.mod m20 (by intro h3; (try simp only [Iv] at h3); omega)
  replace HM := HM.trans m20 (by intro k h1 h3; (try simp only [Iv] at h3 ⊢); omega)
  have hszw19 := m20.size
  refine st_end ?_
  refine then_n ?_
  refine wp_seq ?_
  refine c_region (L := [0, 1, 2, 3, 4, 5, 6, 7, 8, 9, 10]) (by kernel_rfl) ?_
  refine st_pure (l := [0]) (rest := [1, 2, 3, 4, 5, 6, 7, 8, 9, 10]) (L := [(18, .pointer (some ⟨r, 0, none⟩))]) rfl (by kernel_rfl) ?_
  refine st_new (d := 19) (e := 35) (C := []) (V := fun r => .slice (some ⟨r, 0, none⟩) 0 0) (by kernel_rfl) ?_
  intro b21 w22 m23 lb21 ub21 hB24
  replace hr := hr.mod m23 (fun q => q)
  replace ho := ho.mod0 m23
  replace ho_q := ho_q.mod0 m23
  replace hB4 := hB4.mod m23 (fun q => q)
  replace hA12 := hA12.mod m23 (fun q => q)
  replace hB18 := hB18.mod m23 (fun q => q)
  replace HM := HM.tr0 m23
  have hszw22 := m23.size
  refine st_pure (l := [2, 3, 4]) (rest := [5, 6, 7, 8, 9, 10]) (L := [(20, .pointer (some ⟨r, 0, none⟩)), (21, .pointer (some ⟨r, 0, none⟩)), (22, .pointer (some ⟨r, 1, none⟩))]) rfl (by kernel_rfl) ?_
  refine st_load (d := 23) (t := 45) (cs := _) (v := .slice A ml.length cA) (by kernel_rfl) (hr.sub 1) (by kernel_rfl) ?_
  refine st_from (d := 24) (tn := 45) (e := 35) (t := tyMsg) (A := A) (n := ml.length) (c := cA) (lo := (.int .i64 1)) (i' := 1) (l := ml) (k := 1) (by kernel_rfl) Try.underlying45 (by kernel_rfl) rfl (by omega) (by omega) (by first | rfl | simp) (by first | exact A_c | omega) (A_n) ho_q rfl ?_
  intro A25 c26 hR27 A25_c A25_n
  have hR27_l := hR27.len; simp only [List.length_drop, List.length_take] at hR27_l
  refine st_append (d := 25) (tn := 45) (e := 35) (ty := 45) (t := tyMsg) (v := .slice (some ⟨b21, 0, none⟩) 0 0) (A := A25) (n := (ml.drop 1).length) (c := c26) (l := []) (m := ml.drop 1) (z := .agg #[.int .i64 0, .int .i64 0, .int .i64 0, .int .u8 0, .int .i64 0, .int .i64 0, .int .u8 0]) (bytes := 56) (by kernel_rfl) Try.underlying45 (by kernel_rfl) rfl (by decide) (Blk.own (t := tyMsg) (l := []) hB24 rfl (by simp) b21 (b21 + 1) (Nat.le_refl _) (by omega)) hR27 (by simp) (by simp only [List.length_append, List.length_cons, List.length_nil, List.length_take, List.length_drop] at *; omega) (by omega) A25_n ?_
  intro v28 w29 m30 hO31
  clear hB24
  replace hr := hr.mod m30 (by intro h3; (try simp only [Iv] at h3); omega)
  replace ho := ho.mod m30 (by intro k h1 h2 h3; (try simp only [Iv] at h3); omega)
  replace ho_q := ho_q.mod m30 (by intro k h1 h2 h3; (try simp only [Iv] at h3); omega)
  replace hB4 := hB4.mod m30 (by intro h3; (try simp only [Iv] at h3); omega)
  replace hA12 := hA12.mod m30 (by intro h3; (try simp only [Iv] at h3); omega)
  replace hB18 := hB18.mod m30 (by intro h3; (try simp only [Iv] at h3); omega)
  replace hR27 := hR27.mod m30 (by intro k h1 h2 h3; (try simp only [Iv] at h3); omega)
  replace HM := HM.trans m30 (by intro k h1 h3; (try simp only [Iv] at h3 ⊢); omega)
  have hszw29 := m30.size
  obtain ⟨A32, c33, rfl, A32_c, A32_n, hR35⟩ := hO31.rd
  have hR35_l := hR35.len
  refine st_pure (l := [8, 9]) (rest := [10]) (L := [(26, .pointer (some ⟨r, 0, none⟩)), (27, .pointer (some ⟨r, 1, none⟩))]) rfl (by kernel_rfl) ?_
  refine st_store (t := 45) (v := .slice A32 (([] ++ ml.drop 1).length) c33) (o := 1) (C' := [.int .i64 mo, .slice A32 (([] ++ ml.drop 1).length) c33, .int .i64 mk, .bool en]) (by kernel_rfl) hr (by kernel_rfl) ?_
  intro w36 m37 zm37 Nhr
  clear hr; have hr := Nhr; clear Nhr
  replace ho := ho.mod m37 (by intro k h1 h2 h3; (try simp only [Iv] at h3); omega)
  replace ho_q := ho_q.mod m37 (by intro k h1 h2 h3; (try simp only [Iv] at h3); omega)
  replace hB4 := hB4.mod m37 (by intro h3; (try simp only [Iv] at h3); omega)
  replace hA12 := hA12.mod m37 (by intro h3; (try simp only [Iv] at h3); omega)
  replace hB18 := hB18.mod m37 (by intro h3; (try simp only [Iv] at h3); omega)
  replace hR27 := hR27.mod m37 (by intro k h1 h2 h3; (try simp only [Iv] at h3); omega)
  replace hO31 := hO31.mod m37 (by intro k h1 h2 h3; (try simp only [Iv] at h3); omega)
  replace hR35 := hR35.mod m37 (by intro k h1 h2 h3; (try simp only [Iv] at h3); omega)
  replace HM := HM.trans m37 (by intro k h1 h3; (try simp only [Iv] at h3 ⊢); omega)
  have hszw36 := m37.size
  refine st_end ?_
  refine then_n ?_
  refine wp_seq ?_
  refine c_region (L := [0, 1, 2]) (by kernel_rfl) ?_
  refine st_load (d := 28) (t := 35) (cs := _) (v := .agg #[.int .i64 x14.kind.toInt, .int .i64 x14.time.toInt, .int .i64 x14.cls.toInt, .int .u8 (x14.high.toNat : Int), .int .i64 x14.bank.toInt, .int .i64 x14.place.toInt, .int .u8 (x14.value.toNat : Int)]) (by kernel_rfl) (hB18.sub 0) (by kernel_rfl) ?_
  refine st_store (t := 35) (v := .agg #[.int .i64 x14.kind.toInt, .int .i64 x14.time.toInt, .int .i64 x14.cls.toInt, .int .u8 (x14.high.toNat : Int), .int .i64 x14.bank.toInt, .int .i64 x14.place.toInt, .int .u8 (x14.value.toNat : Int)]) (o := 0) (C' := [.int .i64 x14.kind.toInt, .int .i64 x14.time.toInt, .int .i64 x14.cls.toInt, .int .u8 (x14.high.toNat : Int), .int .i64 x14.bank.toInt, .int .i64 x14.place.toInt, .int .u8 (x14.value.toNat : Int)]) (by kernel_rfl) hB4 (by kernel_rfl) ?_
  intro w38 m39 zm39 NhB4
  clear hB4; have hB4 := NhB4; clear NhB4
  replace hr := hr.mod m39 (by intro h3; (try simp only [Iv] at h3); omega)
  replace ho := ho.mod m39 (by intro k h1 h2 h3; (try simp only [Iv] at h3); omega)
  replace ho_q := ho_q.mod m39 (by intro k h1 h2 h3; (try simp only [Iv] at h3); omega)
  replace hA12 := hA12.mod m39 (by intro h3; (try simp only [Iv] at h3); omega)
  replace hB18 := hB18.mod m39 (by intro h3; (try simp only [Iv] at h3); omega)
  replace hR27 := hR27.mod m39 (by intro k h1 h2 h3; (try simp only [Iv] at h3); omega)
  replace hO31 := hO31.mod m39 (by intro k h1 h2 h3; (try simp only [Iv] at h3); omega)
  replace hR35 := hR35.mod m39 (by intro k h1 h2 h3; (try simp only [Iv] at h3); omega)
  replace HM := HM.trans m39 (by intro k h1 h3; (try simp only [Iv] at h3 ⊢); omega)
  have hszw38 := m39.size
  refine st_pure (l := [2]) (rest := []) (L := [(3, .int .i64 0)]) rfl (by kernel_rfl) ?_
  refine st_end ?_
  refine then_n ?_
  refine wp_ret ?_
  refine post_run (v := .tuple #[.agg #[.int .i64 x14.kind.toInt, .int .i64 x14.time.toInt, .int .i64 x14.cls.toInt, .int .u8 (x14.high.toNat : Int), .int .i64 x14.bank.toInt, .int .i64 x14.place.toInt, .int .u8 (x14.value.toNat : Int)], .int .i64 0]) (res_cell2 (p := 2) (t := 35) (b := b1) (e := 35) (k := 0) (q := 3) (v := .agg #[.int .i64 x14.kind.toInt, .int .i64 x14.time.toInt, .int .i64 x14.cls.toInt, .int .u8 (x14.high.toNat : Int), .int .i64 x14.bank.toInt, .int .i64 x14.place.toInt, .int .u8 (x14.value.toNat : Int)]) (u := .int .i64 0) (by kernel_rfl) (by kernel_rfl) (by kernel_rfl) hB4 (by kernel_rfl)) ?_
  refine ⟨x14, 0, [] ++ ml.drop 1, A32, c33, b21, w29.heap.size, ?_, rfl, ?_, ?_, ?_, ?_, ?_, hr, hO31, HM⟩
  ·rw [rtk, if_neg h5]
   try simp only [dx14]
   all_goals (try rfl)
  ·omega
  ·exact A32_n
  ·first | exact A32_c | omega
  ·first | omega | (simp only [List.length_append, List.length_cons, List.length_nil, List.length_take, List.length_drop, List.length_set, List.length_replicate] at *; omega)
  ·omega

theorem rRoom_ok {w : World} {r : Nat} {A : Option Addr} {cA : Nat} {ml : List Msg} {mo : Int} {mk : Int} {en : Bool} (hr : Blk w r 47 [.int .i64 mo, .slice A ml.length cA, .int .i64 mk, .bool en]) (mo_r : 0 ≤ mo ∧ mo ≤ 4096) (A_n : A = none → cA = 0) (A_c : ml.length ≤ cA) (mk_r : -9223372036854775808 ≤ mk ∧ mk ≤ 9223372036854775807) (hlen : ml.length ≤ 4096) :
  Ret Try.prog 28 #[.pointer (some ⟨r, 0, none⟩)] w fun v w' => v = .int .i64 (mo - (ml.length : Int)) ∧ Mod (Nil) w w' := by
 have lt_hr := hr.lt
 have HM : Mod (Nil) w w := Mod.refl _ w
 refine ret_of Try.func28 rfl rfl ?_
 refine wp_seq ?_
 refine c_region (L := [0]) (by kernel_rfl) ?_
 refine st_pure (l := [0]) (rest := []) (L := [(2, .int .i64 0)]) rfl (by kernel_rfl) ?_
 refine st_end ?_
 refine then_n ?_
 refine wp_seq ?_
 refine c_drawS (Nil) (Nil) [0, 1, 2, 3, 4, 5, 6, 7, 8, 9, 10] [] 0 (fun _ q => q) (by kernel_rfl) (n := 11) (by kernel_rfl) (by kernel_rfl) ?_
 intro w1 HGw1
 have hr_w1 := hr
 have HC2 : Mod (Nil) w w1 := Mod.weaken HGw1 fun _ _ q => q.elim
 replace hr := hr.mod HGw1 (fun q => q)
 replace HM := HM.tr0 HGw1
 have hszw1 := HGw1.size
 refine m_p (k := 0) (n := 3) (fuel := 8) (L := [(3, .pointer (some ⟨r, 0, none⟩)), (4, .pointer (some ⟨r, 0, none⟩)), (5, .pointer (some ⟨r, 0, none⟩))]) (by kernel_rfl) (by kernel_rfl) rfl ?_
 refine m_load (d := 6) (t := 3) (b := r) (o := 0) (v := .int .i64 mo) (by kernel_rfl) (by kernel_rfl) (fun wQ (mQ : Mod (Nil) w wQ) => (hr_w1.mod mQ (fun q => q)).sub 0) (by kernel_rfl) ?_
 refine m_p (k := 4) (n := 3) (fuel := 4) (L := [(7, .pointer (some ⟨r, 0, none⟩)), (8, .pointer (some ⟨r, 0, none⟩)), (9, .pointer (some ⟨r, 1, none⟩))]) (by kernel_rfl) (by kernel_rfl) rfl ?_
 refine m_load (d := 10) (t := 45) (b := r) (o := 1) (v := .slice A ml.length cA) (by kernel_rfl) (by kernel_rfl) (fun wQ (mQ : Mod (Nil) w wQ) => (hr_w1.mod mQ (fun q => q)).sub 1) (by kernel_rfl) ?_
 have hw3 : IntKind.wrap .i64 (mo - (ml.length : Int)) = mo - (ml.length : Int) := wi64 (by omega) (by omega)
 refine m_p (k := 8) (n := 2) (fuel := 1) (L := [(11, .int .i64 (ml.length : Int)), (12, .int .i64 (mo - (ml.length : Int)))]) (by kernel_rfl) (Eq.trans (b := some [(11, .int .i64 (ml.length : Int)), (12, .int .i64 (IntKind.wrap .i64 (mo - (ml.length : Int))))]) (by kernel_rfl) (by simp only [hw3])) rfl ?_
 refine m_p (k := 10) (n := 1) (fuel := 0) (L := [(2, .int .i64 (mo - (ml.length : Int)))]) (by kernel_rfl) (by kernel_rfl) rfl ?_
 refine m_end ?_
 refine then_n ?_
 refine wp_ret ?_
 refine post_ret (v := .int .i64 (mo - (ml.length : Int))) (by kernel_rfl) ?_
 refine ⟨rfl, HM⟩

def rlbytes_l3 (ml : List Msg) : Nat → (List UInt8) → Int → List UInt8
 | 0, _, _ => default
 | k_3 + 1, s4_3, s5_3 =>
  if s5_3 < (ml.length : Int) then
   match ml.getD s5_3.toNat Msg.zero with
   | x74 =>
    match rmbytes x74 with
    | (l75, e76) =>
     match blockOf s4_3 l75 with
     | (l86, e87) =>
      rlbytes_l3 ml k_3 l86 (s5_3 + 1)
  else
   s4_3

def rlbytes_j2 (ml : List Msg) (mo : Int) (mk : Int) (s3_1 : Int) : List UInt8 :=
  rlbytes_l3 ml (((ml.length : Int) - 0).toNat + 1) ((((([] : List UInt8) ++ num mo.toNat) ++ num (IntKind.wrap .u64 (mk)).toNat) ++ num s3_1.toNat) ++ num (ml.length : Int).toNat) 0

def rlbytes_j1 (en : Bool) : Int :=
  if en = true then
   1
  else
   0

def rlbytes (ml : List Msg) (mo : Int) (mk : Int) (en : Bool) : List UInt8 :=
  match rlbytes_j1 en with
  | s3_1 =>
   match rlbytes_j2 ml mo mk s3_1 with
   | s4_2 =>
    s4_2

theorem rLBytes_ok {w : World} {r : Nat} {A : Option Addr} {cA : Nat} {ml : List Msg} {mo : Int} {mk : Int} {en : Bool} {lo : Nat} {hi : Nat} (hr : Blk w r 47 [.int .i64 mo, .slice A ml.length cA, .int .i64 mk, .bool en]) (hq : RdA tyMsg w lo hi A ml) (mo_r : 0 ≤ mo ∧ mo ≤ 4096) (A_n : A = none → cA = 0) (A_c : ml.length ≤ cA) (mk_r : -9223372036854775808 ≤ mk ∧ mk ≤ 9223372036854775807) (hq_hi : hi ≤ w.heap.size) (hlen : ml.length ≤ 4096) :
  Ret Try.prog 31 #[.pointer (some ⟨r, 0, none⟩)] w fun v w' => ∃ l2 : List UInt8, ∃ A2 : Option Addr, ∃ c2 : Nat, rlbytes ml mo mk en = l2 ∧ v = .slice A2 l2.length c2 ∧ (A2 = none → c2 = 0) ∧ (l2.length ≤ c2) ∧ (l2.length ≤ 300000) ∧ Own tyU8 5 w' (w.heap.size) (w'.heap.size) (.slice A2 l2.length c2) l2 ∧ RdA tyU8 w' (w.heap.size) (w'.heap.size) A2 l2 ∧ Mod (Nil) w w' := by
 have lt_hr := hr.lt
 have hq_l := hq.len
 have HM : Mod (Nil) w w := Mod.refl _ w
 refine ret_of Try.func31 rfl rfl ?_
 refine wp_seq ?_
 refine c_region (L := [0]) (by kernel_rfl) ?_
 refine st_pure (l := [0]) (rest := []) (L := [(2, .slice none 0 0)]) rfl (by kernel_rfl) ?_
 refine st_end ?_
 refine then_n ?_
 refine wp_seq ?_
 refine c_region (L := [0]) (by kernel_rfl) ?_
 refine st_pure (l := [0]) (rest := []) (L := [(3, .int .u64 0)]) rfl (by kernel_rfl) ?_
 refine st_end ?_
 refine then_n ?_
 refine wp_seq ?_
 refine c_cut (J := fun a w' => ∃ s3_1 : Int, rlbytes_j1 en = s3_1 ∧ Fr 60 [(0, .pointer (some ⟨r, 0, none⟩)), (3, .int .u64 s3_1)] a ∧ Mod (Nil) w w' ∧ w.heap.size ≤ w'.heap.size ∧ Blk w' r 47 [.int .i64 mo, .slice A ml.length cA, .int .i64 mk, .bool en] ∧ RdA tyMsg w' lo hi A ml ∧ (0 ≤ s3_1 ∧ s3_1 ≤ 1) ∧ True) ?_ ?_
 ·skip
  refine wp_seq ?_
  refine c_region (L := [0, 1, 2, 3]) (by kernel_rfl) ?_
  refine st_pure (l := [0, 1, 2]) (rest := [3]) (L := [(8, .pointer (some ⟨r, 0, none⟩)), (9, .pointer (some ⟨r, 0, none⟩)), (10, .pointer (some ⟨r, 3, none⟩))]) rfl (by kernel_rfl) ?_
  by_cases h1 : en = true
  ·skip
   have hb2 : (en) = true := by simpa using h1
   refine st_load (d := 11) (t := 4) (cs := _) (v := .bool true) (by kernel_rfl) (hr.sub 3) (Eq.trans (b := some (.bool en)) (by kernel_rfl) (by rw [hb2])) ?_
   refine st_end ?_
   refine then_n ?_
   refine c_true (by kernel_rfl) ?_
   refine c_region (L := [0]) (by kernel_rfl) ?_
   refine st_pure (l := [0]) (rest := []) (L := [(3, .int .u64 1)]) rfl (by kernel_rfl) ?_
   refine st_end ?_
   refine then_n ?_
   refine ⟨1, ?_, Fr.mk (by kernel_rfl) (by kernel_rfl), HM, by omega, hr, hq, ?_, trivial⟩
   ·rw [rlbytes_j1, if_pos h1]
    all_goals (try rfl)
   ·omega
  ·skip
   have hb3 : (en) = false := by simpa using h1
   refine st_load (d := 11) (t := 4) (cs := _) (v := .bool false) (by kernel_rfl) (hr.sub 3) (Eq.trans (b := some (.bool en)) (by kernel_rfl) (by rw [hb3])) ?_
   refine st_end ?_
   refine then_n ?_
   refine c_false (by kernel_rfl) ?_
   refine wp_skip ?_
   refine then_n ?_
   refine ⟨0, ?_, Fr.mk (by kernel_rfl) (by kernel_rfl), HM, by omega, hr, hq, ?_, trivial⟩
   ·rw [rlbytes_j1, if_neg h1]
    all_goals (try rfl)
   ·omega
 ·rintro a w4 ⟨s3_1, hJ5, ⟨Tf, rfl⟩, HM', hszw4, hr', hq', s3_1_r, -⟩
  clear HM hr hq
  have HM := HM'; clear HM'
  have hr := hr'; clear hr'
  have hq := hq'; clear hq'
  have hq_l := hq.len
  refine wp_seq ?_
  refine c_drawS (fun k => Iv w4.heap.size w4.heap.size k) (fun k => Iv w4.heap.size w4.heap.size k) [0, 1, 2, 3, 4, 6, 7, 8, 9, 10, 12, 14, 15, 16, 17, 18, 19, 21] [] 0 (fun _ q => q) (by kernel_rfl) (n := 22) (by kernel_rfl) (by kernel_rfl) ?_
  intro w7 HGw7
  have hr_w7 := hr
  have hq_w7 := hq
  have HC8 : Mod (fun k => Iv w4.heap.size w4.heap.size k) w4 w7 := Mod.weaken HGw7 fun _ _ q => q.elim
  replace hr := hr.mod HGw7 (fun q => q)
  replace hq := hq.mod0 HGw7
  replace HM := HM.tr0 HGw7
  have hszw7 := HGw7.size
  refine m_p (k := 0) (n := 3) (fuel := 19) (L := [(12, .pointer (some ⟨r, 0, none⟩)), (13, .pointer (some ⟨r, 0, none⟩)), (14, .pointer (some ⟨r, 0, none⟩))]) (by kernel_rfl) (by kernel_rfl) rfl ?_
  refine m_load (d := 15) (t := 3) (b := r) (o := 0) (v := .int .i64 mo) (by kernel_rfl) (by kernel_rfl) (fun wQ (mQ : Mod (fun k => Iv w4.heap.size w4.heap.size k) w4 wQ) => (hr_w7.mod mQ (by intro h3; (try simp only [Iv] at h3); omega)).sub 0) (by kernel_rfl) ?_
  have hw9 : IntKind.wrap .u64 (mo) = mo := wu64 (by omega) (by omega)
  refine m_p (k := 4) (n := 1) (fuel := 17) (L := [(16, .int .u64 mo)]) (by kernel_rfl) (Eq.trans (b := some [(16, .int .u64 (IntKind.wrap .u64 (mo)))]) (by kernel_rfl) (by simp only [hw9])) rfl ?_
  refine m_Q (by kernel_rfl) ?_
  refine st_fn (d := 17) (f := 104) (xs := #[.slice none 0 0, .int .u64 mo]) (R := _) (by kernel_rfl) (ref_Number (w := w7) (x := mo) (A := none) (cA := 0) (l := ([] : List UInt8)) (lo := w7.heap.size) (hi := w7.heap.size) (ho := (Own.nil (t := tyU8) (e := 5) (w := w7) (lo := w7.heap.size) (hi := w7.heap.size))) (A_n := fun _ => rfl) (A_c := by simp) (x_r := by omega) (ho_hi := by omega) (hll := by first | omega | (simp only [List.length_cons, List.length_nil, List.length_append, List.length_take, List.length_drop] at *; omega)) (hlo := by first | omega | (simp only [List.length_cons, List.length_nil, List.length_append, List.length_take, List.length_drop] at *; omega))) ?_
  rintro vw15 w15 ⟨l10, A11, c12, lo13, hi14, rfl, A11_n, A11_c, rfl, hdis17, hO_18, hR_19, m20⟩
  have ha21 := (num_len (by omega) : (num mo.toNat).length ≤ 9)
  replace hr := hr.mod m20 (by intro h3; (try simp only [Iv] at h3); omega)
  replace hq := hq.mod m20 (by intro k h1 h2 h3; (try simp only [Iv] at h3); omega)
  replace HM := HM.trans m20 (by intro k h1 h3; (try simp only [Iv] at h3 ⊢); omega)
  have hszw15 := m20.size
  have HC22 : Mod (fun k => Iv w4.heap.size w4.heap.size k) w4 _ := HC8.trans m20 (by intro k h1 h3; (try simp only [Iv] at h3 ⊢); omega)
  have hO_18_b := hO_18.bounds
  have hR_19_l := hR_19.len
  refine st_end (m_after HC22 ?_)
  refine m_p (k := 6) (n := 3) (fuel := 13) (L := [(18, .pointer (some ⟨r, 0, none⟩)), (19, .pointer (some ⟨r, 0, none⟩)), (20, .pointer (some ⟨r, 2, none⟩))]) (by kernel_rfl) (by kernel_rfl) rfl ?_
  refine m_load (d := 21) (t := 2) (b := r) (o := 2) (v := .int .i64 mk) (by kernel_rfl) (by kernel_rfl) (fun wQ (mQ : Mod (fun k => Iv w4.heap.size w4.heap.size k) w4 wQ) => (hr_w7.mod mQ (by intro h3; (try simp only [Iv] at h3); omega)).sub 2) (by kernel_rfl) ?_
  have hwr23 := wu64_lo (mk)
  refine m_p (k := 10) (n := 1) (fuel := 11) (L := [(22, .int .u64 (IntKind.wrap .u64 (mk)))]) (by kernel_rfl) (by kernel_rfl) rfl ?_
  refine m_Q (by kernel_rfl) ?_
  refine st_fn (d := 23) (f := 104) (xs := #[.slice A11 ((([] : List UInt8) ++ num mo.toNat).length) c12, .int .u64 (IntKind.wrap .u64 (mk))]) (R := _) (by kernel_rfl) (ref_Number (w := w15) (x := IntKind.wrap .u64 (mk)) (A := A11) (cA := c12) (l := (([] : List UInt8) ++ num mo.toNat)) (lo := lo13) (hi := hi14) (ho := hO_18) (A_n := A11_n) (A_c := by first | exact A11_c | omega) (x_r := by omega) (ho_hi := by omega) (hll := by first | omega | (simp only [List.length_cons, List.length_nil, List.length_append, List.length_take, List.length_drop] at *; omega)) (hlo := by first | omega | (simp only [List.length_cons, List.length_nil, List.length_append, List.length_take, List.length_drop] at *; omega))) ?_
  rintro vw29 w29 ⟨l24, A25, c26, lo27, hi28, rfl, A25_n, A25_c, rfl, hdis31, hO_32, hR_33, m34⟩
  have ha35 := (num_len (by omega) : (num (IntKind.wrap .u64 (mk)).toNat).length ≤ 9)
  clear hO_18
  clear hR_19
  replace hr := hr.mod m34 (by intro h3; (try simp only [Iv] at h3); omega)
  replace hq := hq.mod m34 (by intro k h1 h2 h3; (try simp only [Iv] at h3); omega)
  replace HM := HM.trans m34 (by intro k h1 h3; (try simp only [Iv] at h3 ⊢); omega)
  have hszw29 := m34.size
  have HC36 : Mod (fun k => Iv w4.heap.size w4.heap.size k) w4 _ := HC22.trans m34 (by intro k h1 h3; (try simp only [Iv] at h3 ⊢); omega)
  have hO_32_b := hO_32.bounds
  have hR_33_l := hR_33.len
  refine st_end (m_after HC36 ?_)
  refine m_p (k := 12) (n := 1) (fuel := 9) (L := [(24, .int .u64 s3_1)]) (by kernel_rfl) (by kernel_rfl) rfl ?_
  refine m_Q (by kernel_rfl) ?_
  refine st_fn (d := 25) (f := 104) (xs := #[.slice A25 (((([] : List UInt8) ++ num mo.toNat) ++ num (IntKind.wrap .u64 (mk)).toNat).length) c26, .int .u64 s3_1]) (R := _) (by kernel_rfl) (ref_Number (w := w29) (x := s3_1) (A := A25) (cA := c26) (l := ((([] : List UInt8) ++ num mo.toNat) ++ num (IntKind.wrap .u64 (mk)).toNat)) (lo := lo27) (hi := hi28) (ho := hO_32) (A_n := A25_n) (A_c := by first | exact A25_c | omega) (x_r := by omega) (ho_hi := by omega) (hll := by first | omega | (simp only [List.length_cons, List.length_nil, List.length_append, List.length_take, List.length_drop] at *; omega)) (hlo := by first | omega | (simp only [List.length_cons, List.length_nil, List.length_append, List.length_take, List.length_drop] at *; omega))) ?_
  rintro vw42 w42 ⟨l37, A38, c39, lo40, hi41, rfl, A38_n, A38_c, rfl, hdis44, hO_45, hR_46, m47⟩
  have ha48 := (num_len (by omega) : (num s3_1.toNat).length ≤ 9)
  clear hO_32
  clear hR_33
  replace hr := hr.mod m47 (by intro h3; (try simp only [Iv] at h3); omega)
  replace hq := hq.mod m47 (by intro k h1 h2 h3; (try simp only [Iv] at h3); omega)
  replace HM := HM.trans m47 (by intro k h1 h3; (try simp only [Iv] at h3 ⊢); omega)
  have hszw42 := m47.size
  have HC49 : Mod (fun k => Iv w4.heap.size w4.heap.size k) w4 _ := HC36.trans m47 (by intro k h1 h3; (try simp only [Iv] at h3 ⊢); omega)
  have hO_45_b := hO_45.bounds
  have hR_46_l := hR_46.len
  refine st_end (m_after HC49 ?_)
  refine m_p (k := 14) (n := 3) (fuel := 5) (L := [(26, .pointer (some ⟨r, 0, none⟩)), (27, .pointer (some ⟨r, 0, none⟩)), (28, .pointer (some ⟨r, 1, none⟩))]) (by kernel_rfl) (by kernel_rfl) rfl ?_
  refine m_load (d := 29) (t := 45) (b := r) (o := 1) (v := .slice A ml.length cA) (by kernel_rfl) (by kernel_rfl) (fun wQ (mQ : Mod (fun k => Iv w4.heap.size w4.heap.size k) w4 wQ) => (hr_w7.mod mQ (by intro h3; (try simp only [Iv] at h3); omega)).sub 1) (by kernel_rfl) ?_
  have hw50 : IntKind.wrap .u64 ((ml.length : Int)) = (ml.length : Int) := wu64 (by omega) (by omega)
  refine m_p (k := 18) (n := 2) (fuel := 2) (L := [(30, .int .i64 (ml.length : Int)), (31, .int .u64 (ml.length : Int))]) (by kernel_rfl) (Eq.trans (b := some [(30, .int .i64 (ml.length : Int)), (31, .int .u64 (IntKind.wrap .u64 ((ml.length : Int))))]) (by kernel_rfl) (by simp only [hw50])) rfl ?_
  refine m_Q (by kernel_rfl) ?_
  refine st_fn (d := 32) (f := 104) (xs := #[.slice A38 ((((([] : List UInt8) ++ num mo.toNat) ++ num (IntKind.wrap .u64 (mk)).toNat) ++ num s3_1.toNat).length) c39, .int .u64 (ml.length : Int)]) (R := _) (by kernel_rfl) (ref_Number (w := w42) (x := (ml.length : Int)) (A := A38) (cA := c39) (l := (((([] : List UInt8) ++ num mo.toNat) ++ num (IntKind.wrap .u64 (mk)).toNat) ++ num s3_1.toNat)) (lo := lo40) (hi := hi41) (ho := hO_45) (A_n := A38_n) (A_c := by first | exact A38_c | omega) (x_r := by omega) (ho_hi := by omega) (hll := by first | omega | (simp only [List.length_cons, List.length_nil, List.length_append, List.length_take, List.length_drop] at *; omega)) (hlo := by first | omega | (simp only [List.length_cons, List.length_nil, List.length_append, List.length_take, List.length_drop] at *; omega))) ?_
  rintro vw56 w56 ⟨l51, A52, c53, lo54, hi55, rfl, A52_n, A52_c, rfl, hdis58, hO_59, hR_60, m61⟩
  have ha62 := (num_len (by omega) : (num (ml.length : Int).toNat).length ≤ 9)
  clear hO_45
  clear hR_46
  replace hr := hr.mod m61 (by intro h3; (try simp only [Iv] at h3); omega)
  replace hq := hq.mod m61 (by intro k h1 h2 h3; (try simp only [Iv] at h3); omega)
  replace HM := HM.trans m61 (by intro k h1 h3; (try simp only [Iv] at h3 ⊢); omega)
  have hszw56 := m61.size
  have HC63 : Mod (fun k => Iv w4.heap.size w4.heap.size k) w4 _ := HC49.trans m61 (by intro k h1 h3; (try simp only [Iv] at h3 ⊢); omega)
  have hO_59_b := hO_59.bounds
  have hR_60_l := hR_60.len
  refine st_end (m_after HC63 ?_)
  refine m_p (k := 21) (n := 1) (fuel := 0) (L := [(4, .slice A52 (((((([] : List UInt8) ++ num mo.toNat) ++ num (IntKind.wrap .u64 (mk)).toNat) ++ num s3_1.toNat) ++ num (ml.length : Int).toNat).length) c53)]) (by kernel_rfl) (by kernel_rfl) rfl ?_
  refine m_end ?_
  refine then_n ?_
  refine wp_seq ?_
  refine c_cut (J := fun a w' => ∃ As4_2 : Option Addr, ∃ cs4_2 : Nat, ∃ s4_2 : List UInt8, ∃ los4_2 : Nat, ∃ his4_2 : Nat, rlbytes_j2 ml mo mk s3_1 = s4_2 ∧ Fr 60 [(4, .slice As4_2 s4_2.length cs4_2)] a ∧ Mod (Nil) w w' ∧ w56.heap.size ≤ w'.heap.size ∧ Blk w' r 47 [.int .i64 mo, .slice A ml.length cA, .int .i64 mk, .bool en] ∧ RdA tyMsg w' lo hi A ml ∧ Own tyU8 5 w' los4_2 his4_2 (.slice As4_2 s4_2.length cs4_2) s4_2 ∧ RdA tyU8 w' los4_2 his4_2 As4_2 s4_2 ∧ ((los4_2 = lo54 ∧ his4_2 = hi55) ∨ (w56.heap.size ≤ los4_2 ∧ los4_2 ≤ his4_2 ∧ his4_2 ≤ w'.heap.size)) ∧ (As4_2 = none → cs4_2 = 0) ∧ (s4_2.length ≤ cs4_2) ∧ (s4_2.length ≤ 300000) ∧ True) ?_ ?_
  ·skip
   refine wp_seq ?_
   refine c_region (L := [0]) (by kernel_rfl) ?_
   refine st_pure (l := [0]) (rest := []) (L := [(5, .int .i64 0)]) rfl (by kernel_rfl) ?_
   refine st_end ?_
   refine then_n ?_
   refine wp_block ?_
   refine c_loop (σ := Nat × Option Addr × Nat × List UInt8 × Int × Nat × Nat) (fun s a w' => match s with | ⟨k_3, As4_3, cs4_3, s4_3, s5_3, los4_3, his4_3⟩ => rlbytes_l3 ml k_3 s4_3 s5_3 = rlbytes_l3 ml (((ml.length : Int) - 0).toNat + 1) ((((([] : List UInt8) ++ num mo.toNat) ++ num (IntKind.wrap .u64 (mk)).toNat) ++ num s3_1.toNat) ++ num (ml.length : Int).toNat) 0 ∧ ((ml.length : Int) - s5_3).toNat < k_3 ∧ Fr 60 [(0, .pointer (some ⟨r, 0, none⟩)), (4, .slice As4_3 s4_3.length cs4_3), (5, .int .i64 s5_3)] a ∧ Mod (Nil) w w' ∧ w56.heap.size ≤ w'.heap.size ∧ Blk w' r 47 [.int .i64 mo, .slice A ml.length cA, .int .i64 mk, .bool en] ∧ RdA tyMsg w' lo hi A ml ∧ Own tyU8 5 w' los4_3 his4_3 (.slice As4_3 s4_3.length cs4_3) s4_3 ∧ RdA tyU8 w' los4_3 his4_3 As4_3 s4_3 ∧ (0 ≤ s5_3 ∧ s5_3 ≤ (ml.length : Int)) ∧ ((los4_3 = lo54 ∧ his4_3 = hi55) ∨ (w56.heap.size ≤ los4_3 ∧ los4_3 ≤ his4_3 ∧ his4_3 ≤ w'.heap.size)) ∧ (As4_3 = none → cs4_3 = 0) ∧ (s4_3.length ≤ cs4_3) ∧ ((s4_3.length : Int) ≤ 36 + 72 * s5_3) ∧ (s4_3.length ≤ 300000) ∧ True) (fun s => s.1) (((ml.length : Int) - 0).toNat + 1, A52, c53, ((((([] : List UInt8) ++ num mo.toNat) ++ num (IntKind.wrap .u64 (mk)).toNat) ++ num s3_1.toNat) ++ num (ml.length : Int).toNat), 0, lo54, hi55) ?_ ?_
   ·refine ⟨rfl, by omega, Fr.mk (by kernel_rfl) (by kernel_rfl), HM, by omega, hr, hq, hO_59, hR_60, ?_, ?_, ?_, ?_, ?_, ?_, trivial⟩
    ·omega
    ·omega
    ·exact A52_n
    ·first | exact A52_c | omega
    ·first | omega | (simp only [List.length_append, List.length_cons, List.length_nil, List.length_take, List.length_drop, List.length_set, List.length_replicate] at *; omega)
    ·first | omega | (simp only [List.length_append, List.length_cons, List.length_nil, List.length_take, List.length_drop, List.length_set, List.length_replicate] at *; omega)
   ·rintro ⟨k_3, As4_3, cs4_3, s4_3, s5_3, los4_3, his4_3⟩ a w64 ⟨hL65, hk66, ⟨Tf, rfl⟩, HM', hszw64, hr', hq', hO_s4_3', hR_s4_3', s5_3_r, hrg_s4_3, As4_3_n, As4_3_c, hi0_3, hi1_3, -⟩
    clear HM hr hq hO_59 hR_60
    have HM := HM'; clear HM'
    have hr := hr'; clear hr'
    have hq := hq'; clear hq'
    have hO_s4_3 := hO_s4_3'; clear hO_s4_3'
    have hR_s4_3 := hR_s4_3'; clear hR_s4_3'
    have hq_l := hq.len
    have hO_s4_3_b := hO_s4_3.bounds
    have hR_s4_3_l := hR_s4_3.len
    obtain ⟨k_3, rfl⟩ : ∃ k, k_3 = k + 1 := ⟨k_3 - 1, by omega⟩
    refine wp_seq ?_
    refine wp_seq ?_
    refine c_region (L := [0, 1, 2, 3, 4, 5, 6]) (by kernel_rfl) ?_
    refine st_pure (l := [0, 1, 2, 3]) (rest := [4, 5, 6]) (L := [(33, .int .i64 s5_3), (34, .pointer (some ⟨r, 0, none⟩)), (35, .pointer (some ⟨r, 0, none⟩)), (36, .pointer (some ⟨r, 1, none⟩))]) rfl (by kernel_rfl) ?_
    refine st_load (d := 37) (t := 45) (cs := _) (v := .slice A ml.length cA) (by kernel_rfl) (hr.sub 1) (by kernel_rfl) ?_
    by_cases h68 : s5_3 < (ml.length : Int)
    ·skip
     have hb69 : (decide (s5_3 < (ml.length : Int))) = true := decide_eq_true h68
     refine st_pure (l := [5, 6]) (rest := []) (L := [(38, .int .i64 (ml.length : Int)), (39, .bool true)]) rfl (Eq.trans (b := some [(38, .int .i64 (ml.length : Int)), (39, .bool (decide (s5_3 < (ml.length : Int))))]) (by kernel_rfl) (by simp only [hb69])) ?_
     refine st_end ?_
     refine then_n ?_
     refine c_true (by kernel_rfl) ?_
     refine wp_skip ?_
     refine then_n ?_
     refine wp_seq ?_
     refine wp_block ?_
     refine wp_seq ?_
     refine c_region (L := [0, 1, 2, 3, 4, 5, 6, 7, 8, 9, 10, 11, 12]) (by kernel_rfl) ?_
     refine st_pure (l := [0, 1, 2]) (rest := [3, 4, 5, 6, 7, 8, 9, 10, 11, 12]) (L := [(43, .pointer (some ⟨r, 0, none⟩)), (44, .pointer (some ⟨r, 0, none⟩)), (45, .pointer (some ⟨r, 1, none⟩))]) rfl (by kernel_rfl) ?_
     refine st_load (d := 46) (t := 45) (cs := _) (v := .slice A ml.length cA) (by kernel_rfl) (hr.sub 1) (by kernel_rfl) ?_
     refine st_pure (l := [4]) (rest := [5, 6, 7, 8, 9, 10, 11, 12]) (L := [(47, .int .i64 s5_3)]) rfl (by kernel_rfl) ?_
     have hi73 : (s5_3).toNat < (ml).length := by omega
     obtain ⟨b70, o71, ehA72, lhA72, uhA72, hA72⟩ := hq.get hi73
     obtain ⟨x74, ex74⟩ : ∃ y, y = (ml)[(s5_3).toNat] := ⟨_, rfl⟩
     rw [← ex74] at hA72
     have dx74 := getD_of (d := Msg.zero) hi73 ex74
     have hrx74_0 := i64_lo x74.kind
     have hrx74_1 := i64_lo x74.time
     have hrx74_2 := i64_lo x74.cls
     have hrx74_4 := i64_lo x74.bank
     have hrx74_5 := i64_lo x74.place
     have hsx74_0 := i64_hi x74.kind
     have hsx74_1 := i64_hi x74.time
     have hsx74_2 := i64_hi x74.cls
     have hsx74_3 := u8_hi x74.high
     have hsx74_4 := i64_hi x74.bank
     have hsx74_5 := i64_hi x74.place
     have hsx74_6 := u8_hi x74.value
     refine st_index (d := 48) (tn := 45) (n := ml.length) (c := cA) (ix := s5_3) (k := .i64) (e := 35) (t := tyMsg) (b := b70) (by kernel_rfl) Try.underlying45 (by kernel_rfl) ehA72 (by omega) (by omega) ?_
     refine st_load (d := 49) (t := 35) (cs := _) (v := .agg #[.int .i64 x74.kind.toInt, .int .i64 x74.time.toInt, .int .i64 x74.cls.toInt, .int .u8 (x74.high.toNat : Int), .int .i64 x74.bank.toInt, .int .i64 x74.place.toInt, .int .u8 (x74.value.toNat : Int)]) (by kernel_rfl) (hA72.dropk 0) (by kernel_rfl) ?_
     refine st_fn (d := 50) (f := 16) (xs := #[.agg #[.int .i64 x74.kind.toInt, .int .i64 x74.time.toInt, .int .i64 x74.cls.toInt, .int .u8 (x74.high.toNat : Int), .int .i64 x74.bank.toInt, .int .i64 x74.place.toInt, .int .u8 (x74.value.toNat : Int)]]) (R := _) (by kernel_rfl) (rBytes_ok (w := w64) (m := x74) ) ?_
     rintro vw79 w79 ⟨l75, e76, A77, c78, hsp80, rfl, A77_n, A77_c, e76_r, l2_b82, hO_83, hR_84, m85⟩
     replace hr := hr.mod m85 (fun q => q)
     replace hq := hq.mod0 m85
     replace hO_s4_3 := hO_s4_3.mod0 m85
     replace hR_s4_3 := hR_s4_3.mod0 m85
     replace hA72 := hA72.mod m85 (fun q => q)
     replace HM := HM.tr0 m85
     have hszw79 := m85.size
     have hO_83_b := hO_83.bounds
     have hR_84_l := hR_84.len
     refine st_pure (l := [8, 9, 10, 11, 12]) (rest := []) (L := [(42, .tuple #[.slice A77 l75.length c78, .int .i64 e76]), (51, .slice A77 l75.length c78), (52, .int .i64 e76), (6, .slice A77 l75.length c78), (7, .int .i64 e76)]) rfl (by kernel_rfl) ?_
     refine st_end ?_
     refine then_n ?_
     refine c_region (L := [0, 1, 2, 3, 4, 5, 6]) (by kernel_rfl) ?_
     refine st_pure (l := [0, 1]) (rest := [2, 3, 4, 5, 6]) (L := [(54, .slice As4_3 s4_3.length cs4_3), (55, .slice A77 l75.length c78)]) rfl (by kernel_rfl) ?_
     refine st_fn (d := 56) (f := 107) (xs := #[.slice As4_3 s4_3.length cs4_3, .slice A77 l75.length c78]) (R := _) (by kernel_rfl) (ref_Block (w := w79) (A := As4_3) (cA := cs4_3) (l := s4_3) (lo := los4_3) (hi := his4_3) (B := A77) (cB := c78) (m := l75) (lo' := w64.heap.size) (hi' := w79.heap.size) (ho := hO_s4_3) (hm := hR_84) (A_n := As4_3_n) (A_c := by first | exact As4_3_c | omega) (B_n := A77_n) (B_c := by first | exact A77_c | omega) (ho_hi := by omega) (hm_hi := by omega) (hll := by first | omega | (simp only [List.length_cons, List.length_nil, List.length_append, List.length_take, List.length_drop] at *; omega)) (hlo := by first | omega | (simp only [List.length_cons, List.length_nil, List.length_append, List.length_take, List.length_drop] at *; omega)) (hsep := by first | omega | (simp only [List.length_cons, List.length_nil, List.length_append, List.length_take, List.length_drop] at *; omega))) ?_
     rintro vw92 w92 ⟨l86, e87, A88, c89, lo90, hi91, hsp93, rfl, A88_n, A88_c, e87_r, l2_b95, hdis96, hO_97, hR_98, m99⟩
     clear hO_s4_3
     clear hR_s4_3
     replace hr := hr.mod m99 (by intro h3; (try simp only [Iv] at h3); omega)
     replace hq := hq.mod m99 (by intro k h1 h2 h3; (try simp only [Iv] at h3); omega)
     replace hA72 := hA72.mod m99 (by intro h3; (try simp only [Iv] at h3); omega)
     replace hO_83 := hO_83.mod m99 (by intro k h1 h2 h3; (try simp only [Iv] at h3); omega)
     replace hR_84 := hR_84.mod m99 (by intro k h1 h2 h3; (try simp only [Iv] at h3); omega)
     replace HM := HM.trans m99 (by intro k h1 h3; (try simp only [Iv] at h3 ⊢); omega)
     have hszw92 := m99.size
     have hO_97_b := hO_97.bounds
     have hR_98_l := hR_98.len
     refine st_pure (l := [3, 4, 5, 6]) (rest := []) (L := [(53, .tuple #[.slice A88 l86.length c89, .int .i64 e87]), (57, .slice A88 l86.length c89), (58, .int .i64 e87), (4, .slice A88 l86.length c89)]) rfl (by kernel_rfl) ?_
     refine st_end ?_
     refine blk_n ?_
     refine then_n ?_
     refine c_region (L := [0, 1, 2]) (by kernel_rfl) ?_
     have hw100 : IntKind.wrap .i64 (s5_3 + 1) = s5_3 + 1 := wi64 (by omega) (by omega)
     refine st_pure (l := [0, 1]) (rest := [2]) (L := [(40, .int .i64 s5_3), (41, .int .i64 (s5_3 + 1))]) rfl (Eq.trans (b := some [(40, .int .i64 s5_3), (41, .int .i64 (IntKind.wrap .i64 (s5_3 + 1)))]) (by kernel_rfl) (by simp only [hw100])) ?_
     refine st_pure (l := [2]) (rest := []) (L := [(5, .int .i64 (s5_3 + 1))]) rfl (by kernel_rfl) ?_
     refine st_end ?_
     refine then_n ?_
     refine ⟨(k_3, A88, c89, l86, s5_3 + 1, lo90, hi91), ⟨?_, by omega, Fr.mk (by kernel_rfl) (by kernel_rfl), HM, by omega, hr, hq, hO_97, hR_98, ?_, ?_, ?_, ?_, ?_, ?_, trivial⟩, by dsimp only; omega⟩
     ·rw [← hL65]
      symm
      rw [rlbytes_l3, if_pos h68]
      try simp only [dx74]
      try simp only [hsp80]
      try simp only [hsp93]
      all_goals (try rfl)
     ·omega
     ·omega
     ·exact A88_n
     ·first | exact A88_c | omega
     ·first | omega | (simp only [List.length_append, List.length_cons, List.length_nil, List.length_take, List.length_drop, List.length_set, List.length_replicate] at *; omega)
     ·first | omega | (simp only [List.length_append, List.length_cons, List.length_nil, List.length_take, List.length_drop, List.length_set, List.length_replicate] at *; omega)
    ·skip
     have hb101 : (decide (s5_3 < (ml.length : Int))) = false := decide_eq_false h68
     refine st_pure (l := [5, 6]) (rest := []) (L := [(38, .int .i64 (ml.length : Int)), (39, .bool false)]) rfl (Eq.trans (b := some [(38, .int .i64 (ml.length : Int)), (39, .bool (decide (s5_3 < (ml.length : Int))))]) (by kernel_rfl) (by simp only [hb101])) ?_
     refine st_end ?_
     refine then_n ?_
     refine c_false (by kernel_rfl) ?_
     refine wp_exit ?_
     refine then_x ?_
     refine then_x ?_
     refine blk_hit ?_
     refine then_n ?_
     refine ⟨As4_3, cs4_3, s4_3, los4_3, his4_3, ?_, Fr.mk (by kernel_rfl) (by kernel_rfl), HM, by omega, hr, hq, hO_s4_3, hR_s4_3, ?_, ?_, ?_, ?_, trivial⟩
     ·rw [rlbytes_j2]
      rw [← hL65]
      rw [rlbytes_l3, if_neg h68]
      all_goals (try rfl)
     ·omega
     ·exact As4_3_n
     ·first | exact As4_3_c | omega
     ·first | omega | (simp only [List.length_append, List.length_cons, List.length_nil, List.length_take, List.length_drop, List.length_set, List.length_replicate] at *; omega)
  ·rintro a w102 ⟨As4_2, cs4_2, s4_2, los4_2, his4_2, hJ103, ⟨Tf, rfl⟩, HM', hszw102, hr', hq', hO_s4_2', hR_s4_2', hrg_s4_2, As4_2_n, As4_2_c, hi0_2, -⟩
   clear HM hr hq hO_59 hR_60
   have HM := HM'; clear HM'
   have hr := hr'; clear hr'
   have hq := hq'; clear hq'
   have hO_s4_2 := hO_s4_2'; clear hO_s4_2'
   have hR_s4_2 := hR_s4_2'; clear hR_s4_2'
   have hq_l := hq.len
   have hO_s4_2_b := hO_s4_2.bounds
   have hR_s4_2_l := hR_s4_2.len
   refine wp_seq ?_
   refine c_region (L := [0, 1]) (by kernel_rfl) ?_
   refine st_pure (l := [0, 1]) (rest := []) (L := [(59, .slice As4_2 s4_2.length cs4_2), (2, .slice As4_2 s4_2.length cs4_2)]) rfl (by kernel_rfl) ?_
   refine st_end ?_
   refine then_n ?_
   refine wp_ret ?_
   refine post_ret (v := .slice As4_2 s4_2.length cs4_2) (by kernel_rfl) ?_
   refine ⟨s4_2, As4_2, cs4_2, ?_, rfl, ?_, ?_, ?_, (hO_s4_2.wide (by omega) (by omega)), (hR_s4_2.wide (by omega) (by omega)), HM⟩
   ·rw [rlbytes]
    try simp only [hJ5]
    try simp only [hJ103]
    all_goals (try rfl)
   ·exact As4_2_n
   ·first | exact As4_2_c | omega
   ·omega

def rmsg (l : List UInt8) : Msg × Bool :=
  match rcnt l 0 9 with
  | (x16, l19, e20) =>
   match rcnt l19 e20 1099511627776 with
   | (x28, l31, e32) =>
    match rcnt l31 e32 9 with
    | (x40, l43, e44) =>
     match rcnt l43 e44 255 with
     | (x52, l55, e56) =>
      match rcnt l55 e56 9 with
      | (x65, l68, e69) =>
       match rcnt l68 e69 16384 with
       | (x77, l80, e81) =>
        match rcnt l80 e81 255 with
        | (x89, l92, e93) =>
         match rrend l92 e93 with
         | e110 =>
          if e110 = 0 then
           match Msg.of x16 x28 x40 (IntKind.wrap .u8 (x52)) x65 x77 (IntKind.wrap .u8 (x89)) with
           | m119 =>
            match rchk m119 with
            | e129 =>
             (m119, e129 == 0)
          else
           match Msg.of x16 x28 x40 (IntKind.wrap .u8 (x52)) x65 x77 (IntKind.wrap .u8 (x89)) with
           | m142 =>
            (m142, false)

theorem rmessage_ok {w : World} {A : Option Addr} {cA : Nat} {l : List UInt8} {lo : Nat} {hi : Nat} (hl : RdA tyU8 w lo hi A l) (A_n : A = none → cA = 0) (A_c : l.length ≤ cA) (hl_hi : hi ≤ w.heap.size) :
  Ret Try.prog 118 #[.slice A l.length cA] w fun v w' => ∃ m2 : Msg, ∃ d : Bool, rmsg l = (m2, d) ∧ v = .tuple #[.agg #[.int .i64 m2.kind.toInt, .int .i64 m2.time.toInt, .int .i64 m2.cls.toInt, .int .u8 (m2.high.toNat : Int), .int .i64 m2.bank.toInt, .int .i64 m2.place.toInt, .int .u8 (m2.value.toNat : Int)], .bool d] ∧ Mod (Nil) w w' := by
 have hl_l := hl.len
 have HM : Mod (Nil) w w := Mod.refl _ w
 refine ret_of Try.func118 rfl rfl ?_
 refine wp_seq ?_
 refine c_region (L := [0, 1]) (by kernel_rfl) ?_
 refine st_new (d := 2) (e := 35) (C := [.int .i64 0, .int .i64 0, .int .i64 0, .int .u8 0, .int .i64 0, .int .i64 0, .int .u8 0]) (V := fun r => .pointer (some ⟨r, 0, none⟩)) (by kernel_rfl) ?_
 intro b1 w2 m3 lb1 ub1 hB4
 replace hl := hl.mod0 m3
 replace HM := HM.tr0 m3
 have hszw2 := m3.size
 refine st_pure (l := [1]) (rest := []) (L := [(3, .bool false)]) rfl (by kernel_rfl) ?_
 refine st_end ?_
 refine then_n ?_
 refine wp_seq ?_
 refine c_region (L := [0, 1, 2]) (by kernel_rfl) ?_
 refine st_pure (l := [0]) (rest := [1, 2]) (L := [(6, .slice A l.length cA)]) rfl (by kernel_rfl) ?_
 refine st_fn (d := 7) (f := 116) (xs := #[.slice A l.length cA]) (R := _) (by kernel_rfl) (ref_New (w := w2) (A := A) (cA := cA) (l := l) (lo := lo) (hi := hi) (hl := hl) (A_n := A_n) (A_c := by first | exact A_c | omega) (hl_hi := by omega)) ?_
 rintro vw10 w10 ⟨r5, A6, c7, lo8, hi9, rfl, A6_n, A6_c, hlr12, hr_13, hR_14, m15⟩
 replace hl := hl.mod0 m15
 replace hB4 := hB4.mod m15 (fun q => q)
 replace HM := HM.tr0 m15
 have hszw10 := m15.size
 have lt_hr_13 := hr_13.lt
 have hR_14_l := hR_14.len
 refine st_pure (l := [2]) (rest := []) (L := [(4, .pointer (some ⟨r5, 0, none⟩))]) rfl (by kernel_rfl) ?_
 refine st_end ?_
 refine then_n ?_
 refine wp_seq ?_
 refine c_region (L := [0, 1, 2, 3, 4, 5, 6, 7, 8, 9, 10, 11, 12, 13, 14, 15, 16, 17, 18]) (by kernel_rfl) ?_
 refine st_pure (l := [0]) (rest := [1, 2, 3, 4, 5, 6, 7, 8, 9, 10, 11, 12, 13, 14, 15, 16, 17, 18]) (L := [(8, .pointer (some ⟨r5, 0, none⟩))]) rfl (by kernel_rfl) ?_
 refine st_fn (d := 9) (f := 117) (xs := #[.pointer (some ⟨r5, 0, none⟩), .int .i64 9]) (R := _) (by kernel_rfl) (ref_RCount (w := w10) (r := r5) (A := A6) (cA := c7) (l := l) (e := 0) (lo := lo8) (hi := hi9) (most := 9) (hr := hr_13) (hR := hR_14) (most_r := by omega) (A_n := A6_n) (A_c := by first | exact A6_c | omega) (e_r := by omega) (hR_hi := by omega) (hsep := by first | omega | (simp only [List.length_cons, List.length_nil, List.length_append, List.length_take, List.length_drop] at *; omega))) ?_
 rintro vw21 w21 ⟨x16, A17, c18, l19, e20, hsp22, rfl, x16_r, A17_n, A17_c, e20_r, x2_b24, hr_25, hR_26, m27⟩
 clear hr_13
 clear hR_14
 replace hl := hl.mod m27 (by intro k h1 h2 h3; (try simp only [Iv] at h3); omega)
 replace hB4 := hB4.mod m27 (by intro h3; (try simp only [Iv] at h3); omega)
 replace HM := HM.trans m27 (by intro k h1 h3; (try simp only [Iv] at h3 ⊢); omega)
 have hszw21 := m27.size
 have lt_hr_25 := hr_25.lt
 have hR_26_l := hR_26.len
 refine st_pure (l := [2]) (rest := [3, 4, 5, 6, 7, 8, 9, 10, 11, 12, 13, 14, 15, 16, 17, 18]) (L := [(10, .pointer (some ⟨r5, 0, none⟩))]) rfl (by kernel_rfl) ?_
 refine st_fn (d := 11) (f := 117) (xs := #[.pointer (some ⟨r5, 0, none⟩), .int .i64 1099511627776]) (R := _) (by kernel_rfl) (ref_RCount (w := w21) (r := r5) (A := A17) (cA := c18) (l := l19) (e := e20) (lo := lo8) (hi := hi9) (most := 1099511627776) (hr := hr_25) (hR := hR_26) (most_r := by omega) (A_n := A17_n) (A_c := by first | exact A17_c | omega) (e_r := by omega) (hR_hi := by omega) (hsep := by first | omega | (simp only [List.length_cons, List.length_nil, List.length_append, List.length_take, List.length_drop] at *; omega))) ?_
 rintro vw33 w33 ⟨x28, A29, c30, l31, e32, hsp34, rfl, x28_r, A29_n, A29_c, e32_r, x2_b36, hr_37, hR_38, m39⟩
 clear hr_25
 clear hR_26
 replace hl := hl.mod m39 (by intro k h1 h2 h3; (try simp only [Iv] at h3); omega)
 replace hB4 := hB4.mod m39 (by intro h3; (try simp only [Iv] at h3); omega)
 replace HM := HM.trans m39 (by intro k h1 h3; (try simp only [Iv] at h3 ⊢); omega)
 have hszw33 := m39.size
 have lt_hr_37 := hr_37.lt
 have hR_38_l := hR_38.len
 refine st_pure (l := [4]) (rest := [5, 6, 7, 8, 9, 10, 11, 12, 13, 14, 15, 16, 17, 18]) (L := [(12, .pointer (some ⟨r5, 0, none⟩))]) rfl (by kernel_rfl) ?_
 refine st_fn (d := 13) (f := 117) (xs := #[.pointer (some ⟨r5, 0, none⟩), .int .i64 9]) (R := _) (by kernel_rfl) (ref_RCount (w := w33) (r := r5) (A := A29) (cA := c30) (l := l31) (e := e32) (lo := lo8) (hi := hi9) (most := 9) (hr := hr_37) (hR := hR_38) (most_r := by omega) (A_n := A29_n) (A_c := by first | exact A29_c | omega) (e_r := by omega) (hR_hi := by omega) (hsep := by first | omega | (simp only [List.length_cons, List.length_nil, List.length_append, List.length_take, List.length_drop] at *; omega))) ?_
 rintro vw45 w45 ⟨x40, A41, c42, l43, e44, hsp46, rfl, x40_r, A41_n, A41_c, e44_r, x2_b48, hr_49, hR_50, m51⟩
 clear hr_37
 clear hR_38
 replace hl := hl.mod m51 (by intro k h1 h2 h3; (try simp only [Iv] at h3); omega)
 replace hB4 := hB4.mod m51 (by intro h3; (try simp only [Iv] at h3); omega)
 replace HM := HM.trans m51 (by intro k h1 h3; (try simp only [Iv] at h3 ⊢); omega)
 have hszw45 := m51.size
 have lt_hr_49 := hr_49.lt
 have hR_50_l := hR_50.len
 refine st_pure (l := [6]) (rest := [7, 8, 9, 10, 11, 12, 13, 14, 15, 16, 17, 18]) (L := [(14, .pointer (some ⟨r5, 0, none⟩))]) rfl (by kernel_rfl) ?_
 refine st_fn (d := 15) (f := 117) (xs := #[.pointer (some ⟨r5, 0, none⟩), .int .i64 255]) (R := _) (by kernel_rfl) (ref_RCount (w := w45) (r := r5) (A := A41) (cA := c42) (l := l43) (e := e44) (lo := lo8) (hi := hi9) (most := 255) (hr := hr_49) (hR := hR_50) (most_r := by omega) (A_n := A41_n) (A_c := by first | exact A41_c | omega) (e_r := by omega) (hR_hi := by omega) (hsep := by first | omega | (simp only [List.length_cons, List.length_nil, List.length_append, List.length_take, List.length_drop] at *; omega))) ?_
 rintro vw57 w57 ⟨x52, A53, c54, l55, e56, hsp58, rfl, x52_r, A53_n, A53_c, e56_r, x2_b60, hr_61, hR_62, m63⟩
 clear hr_49
 clear hR_50
 replace hl := hl.mod m63 (by intro k h1 h2 h3; (try simp only [Iv] at h3); omega)
 replace hB4 := hB4.mod m63 (by intro h3; (try simp only [Iv] at h3); omega)
 replace HM := HM.trans m63 (by intro k h1 h3; (try simp only [Iv] at h3 ⊢); omega)
 have hszw57 := m63.size
 have lt_hr_61 := hr_61.lt
 have hR_62_l := hR_62.len
 have hwr64 := wu8_lo (x52)
 refine st_pure (l := [8, 9]) (rest := [10, 11, 12, 13, 14, 15, 16, 17, 18]) (L := [(16, .int .u8 (IntKind.wrap .u8 (x52))), (17, .pointer (some ⟨r5, 0, none⟩))]) rfl (by kernel_rfl) ?_
 refine st_fn (d := 18) (f := 117) (xs := #[.pointer (some ⟨r5, 0, none⟩), .int .i64 9]) (R := _) (by kernel_rfl) (ref_RCount (w := w57) (r := r5) (A := A53) (cA := c54) (l := l55) (e := e56) (lo := lo8) (hi := hi9) (most := 9) (hr := hr_61) (hR := hR_62) (most_r := by omega) (A_n := A53_n) (A_c := by first | exact A53_c | omega) (e_r := by omega) (hR_hi := by omega) (hsep := by first | omega | (simp only [List.length_cons, List.length_nil, List.length_append, List.length_take, List.length_drop] at *; omega))) ?_
 rintro vw70 w70 ⟨x65, A66, c67, l68, e69, hsp71, rfl, x65_r, A66_n, A66_c, e69_r, x2_b73, hr_74, hR_75, m76⟩
 clear hr_61
 clear hR_62
 replace hl := hl.mod m76 (by intro k h1 h2 h3; (try simp only [Iv] at h3); omega)
 replace hB4 := hB4.mod m76 (by intro h3; (try simp only [Iv] at h3); omega)
 replace HM := HM.trans m76 (by intro k h1 h3; (try simp only [Iv] at h3 ⊢); omega)
 have hszw70 := m76.size
 have lt_hr_74 := hr_74.lt
 have hR_75_l := hR_75.len
 refine st_pure (l := [11]) (rest := [12, 13, 14, 15, 16, 17, 18]) (L := [(19, .pointer (some ⟨r5, 0, none⟩))]) rfl (by kernel_rfl) ?_
 refine st_fn (d := 20) (f := 117) (xs := #[.pointer (some ⟨r5, 0, none⟩), .int .i64 16384]) (R := _) (by kernel_rfl) (ref_RCount (w := w70) (r := r5) (A := A66) (cA := c67) (l := l68) (e := e69) (lo := lo8) (hi := hi9) (most := 16384) (hr := hr_74) (hR := hR_75) (most_r := by omega) (A_n := A66_n) (A_c := by first | exact A66_c | omega) (e_r := by omega) (hR_hi := by omega) (hsep := by first | omega | (simp only [List.length_cons, List.length_nil, List.length_append, List.length_take, List.length_drop] at *; omega))) ?_
 rintro vw82 w82 ⟨x77, A78, c79, l80, e81, hsp83, rfl, x77_r, A78_n, A78_c, e81_r, x2_b85, hr_86, hR_87, m88⟩
 clear hr_74
 clear hR_75
 replace hl := hl.mod m88 (by intro k h1 h2 h3; (try simp only [Iv] at h3); omega)
 replace hB4 := hB4.mod m88 (by intro h3; (try simp only [Iv] at h3); omega)
 replace HM := HM.trans m88 (by intro k h1 h3; (try simp only [Iv] at h3 ⊢); omega)
 have hszw82 := m88.size
 have lt_hr_86 := hr_86.lt
 have hR_87_l := hR_87.len
 refine st_pure (l := [13]) (rest := [14, 15, 16, 17, 18]) (L := [(21, .pointer (some ⟨r5, 0, none⟩))]) rfl (by kernel_rfl) ?_
 refine st_fn (d := 22) (f := 117) (xs := #[.pointer (some ⟨r5, 0, none⟩), .int .i64 255]) (R := _) (by kernel_rfl) (ref_RCount (w := w82) (r := r5) (A := A78) (cA := c79) (l := l80) (e := e81) (lo := lo8) (hi := hi9) (most := 255) (hr := hr_86) (hR := hR_87) (most_r := by omega) (A_n := A78_n) (A_c := by first | exact A78_c | omega) (e_r := by omega) (hR_hi := by omega) (hsep := by first | omega | (simp only [List.length_cons, List.length_nil, List.length_append, List.length_take, List.length_drop] at *; omega))) ?_
 rintro vw94 w94 ⟨x89, A90, c91, l92, e93, hsp95, rfl, x89_r, A90_n, A90_c, e93_r, x2_b97, hr_98, hR_99, m100⟩
 clear hr_86
 clear hR_87
 replace hl := hl.mod m100 (by intro k h1 h2 h3; (try simp only [Iv] at h3); omega)
 replace hB4 := hB4.mod m100 (by intro h3; (try simp only [Iv] at h3); omega)
 replace HM := HM.trans m100 (by intro k h1 h3; (try simp only [Iv] at h3 ⊢); omega)
 have hszw94 := m100.size
 have lt_hr_98 := hr_98.lt
 have hR_99_l := hR_99.len
 have hwr101 := wu8_lo (x89)
 refine st_pure (l := [15, 16]) (rest := [17, 18]) (L := [(23, .int .u8 (IntKind.wrap .u8 (x89))), (24, .agg #[.int .i64 x16, .int .i64 x28, .int .i64 x40, .int .u8 (IntKind.wrap .u8 (x52)), .int .i64 x65, .int .i64 x77, .int .u8 (IntKind.wrap .u8 (x89))])]) rfl (by kernel_rfl) ?_
 refine st_new (d := 5) (e := 35) (C := [.int .i64 0, .int .i64 0, .int .i64 0, .int .u8 0, .int .i64 0, .int .i64 0, .int .u8 0]) (V := fun r => .pointer (some ⟨r, 0, none⟩)) (by kernel_rfl) ?_
 intro b102 w103 m104 lb102 ub102 hB105
 replace hl := hl.mod0 m104
 replace hB4 := hB4.mod m104 (fun q => q)
 replace hr_98 := hr_98.mod m104 (fun q => q)
 replace hR_99 := hR_99.mod0 m104
 replace HM := HM.tr0 m104
 have hszw103 := m104.size
 refine st_store (t := 35) (v := .agg #[.int .i64 x16, .int .i64 x28, .int .i64 x40, .int .u8 (IntKind.wrap .u8 (x52)), .int .i64 x65, .int .i64 x77, .int .u8 (IntKind.wrap .u8 (x89))]) (o := 0) (C' := [.int .i64 x16, .int .i64 x28, .int .i64 x40, .int .u8 (IntKind.wrap .u8 (x52)), .int .i64 x65, .int .i64 x77, .int .u8 (IntKind.wrap .u8 (x89))]) (by kernel_rfl) hB105 (by kernel_rfl) ?_
 intro w106 m107 zm107 NhB105
 clear hB105; have hB105 := NhB105; clear NhB105
 replace hl := hl.mod m107 (by intro k h1 h2 h3; (try simp only [Iv] at h3); omega)
 replace hB4 := hB4.mod m107 (by intro h3; (try simp only [Iv] at h3); omega)
 replace hr_98 := hr_98.mod m107 (by intro h3; (try simp only [Iv] at h3); omega)
 replace hR_99 := hR_99.mod m107 (by intro k h1 h2 h3; (try simp only [Iv] at h3); omega)
 replace HM := HM.trans m107 (by intro k h1 h3; (try simp only [Iv] at h3 ⊢); omega)
 have hszw106 := m107.size
 refine st_end ?_
 refine then_n ?_
 refine wp_seq ?_
 refine c_drawS (fun k => k = b1 ∨ k = r5) (fun k => k = b1 ∨ k = r5) [0, 1, 3, 4, 5, 7, 8, 10] [] 0 (fun _ q => q) (by kernel_rfl) (n := 11) (by kernel_rfl) (by kernel_rfl) ?_
 intro w108 HGw108
 have hl_w108 := hl
 have hB4_w108 := hB4
 have hr_98_w108 := hr_98
 have hR_99_w108 := hR_99
 have hB105_w108 := hB105
 have HC109 : Mod (fun k => k = b1 ∨ k = r5) w106 w108 := Mod.weaken HGw108 fun _ _ q => q.elim
 replace hl := hl.mod0 HGw108
 replace hB4 := hB4.mod HGw108 (fun q => q)
 replace hr_98 := hr_98.mod HGw108 (fun q => q)
 replace hR_99 := hR_99.mod0 HGw108
 replace hB105 := hB105.mod HGw108 (fun q => q)
 replace HM := HM.tr0 HGw108
 have hszw108 := HGw108.size
 refine m_load (d := 25) (t := 35) (b := b102) (o := 0) (v := .agg #[.int .i64 x16, .int .i64 x28, .int .i64 x40, .int .u8 (IntKind.wrap .u8 (x52)), .int .i64 x65, .int .i64 x77, .int .u8 (IntKind.wrap .u8 (x89))]) (by kernel_rfl) (by kernel_rfl) (fun wQ (mQ : Mod (fun k => k = b1 ∨ k = r5) w106 wQ) => (hB105_w108.mod mQ (by intro h3; (try simp only [Iv] at h3); omega)).sub 0) (by kernel_rfl) ?_
 refine m_p (k := 1) (n := 1) (fuel := 9) (L := [(26, .pointer (some ⟨r5, 0, none⟩))]) (by kernel_rfl) (by kernel_rfl) rfl ?_
 refine m_Q (by kernel_rfl) ?_
 refine st_fn (d := 27) (f := 120) (xs := #[.pointer (some ⟨r5, 0, none⟩)]) (R := _) (by kernel_rfl) (ref_REnd (w := w108) (r := r5) (A := A90) (cA := c91) (l := l92) (e := e93) (hr := hr_98) (A_n := A90_n) (A_c := by first | exact A90_c | omega) (e_r := by omega)) ?_
 rintro vw111 w111 ⟨e110, hsp112, rfl, e110_r, hr_114, m115⟩
 clear hr_98
 replace hl := hl.mod m115 (by intro k h1 h2 h3; (try simp only [Iv] at h3); omega)
 replace hB4 := hB4.mod m115 (by intro h3; (try simp only [Iv] at h3); omega)
 replace hR_99 := hR_99.mod m115 (by intro k h1 h2 h3; (try simp only [Iv] at h3); omega)
 replace hB105 := hB105.mod m115 (by intro h3; (try simp only [Iv] at h3); omega)
 replace HM := HM.trans m115 (by intro k h1 h3; (try simp only [Iv] at h3 ⊢); omega)
 have hszw111 := m115.size
 have HC116 : Mod (fun k => k = b1 ∨ k = r5) w106 _ := HC109.trans m115 (by intro k h1 h3; (try simp only [Iv] at h3 ⊢); omega)
 have lt_hr_114 := hr_114.lt
 refine st_end (m_after HC116 ?_)
 by_cases h117 : e110 = 0
 ·skip
  have hb118 : (e110 == 0) = true := beq_iff_eq.2 h117
  refine m_p (k := 3) (n := 2) (fuel := 6) (L := [(28, .bool (e110 == 0)), (29, .bool true)]) (by kernel_rfl) (Eq.trans (b := some [(28, .bool (e110 == 0)), (29, .bool (e110 == 0))]) (by kernel_rfl) (by simp only [hb118])) rfl ?_
  refine m_load (d := 30) (t := 35) (b := b102) (o := 0) (v := .agg #[.int .i64 x16, .int .i64 x28, .int .i64 x40, .int .u8 (IntKind.wrap .u8 (x52)), .int .i64 x65, .int .i64 x77, .int .u8 (IntKind.wrap .u8 (x89))]) (by kernel_rfl) (by kernel_rfl) (fun wQ (mQ : Mod (fun k => k = b1 ∨ k = r5) w106 wQ) => (hB105_w108.mod mQ (by intro h3; (try simp only [Iv] at h3); omega)).sub 0) (by kernel_rfl) ?_
  refine m_Q (by kernel_rfl) ?_
  obtain ⟨m119, hm120⟩ : ∃ y, Msg.of x16 x28 x40 (IntKind.wrap .u8 (x52)) x65 x77 (IntKind.wrap .u8 (x89)) = y := ⟨_, rfl⟩
  have em121 : m119.kind.toInt = x16 := by rw [← hm120]; first | rfl | exact i64_val (by omega) (by omega) | decide
  have em122 : m119.time.toInt = x28 := by rw [← hm120]; first | rfl | exact i64_val (by omega) (by omega) | decide
  have em123 : m119.cls.toInt = x40 := by rw [← hm120]; first | rfl | exact i64_val (by omega) (by omega) | decide
  have em124 : (m119.high.toNat : Int) = IntKind.wrap .u8 (x52) := by rw [← hm120]; first | rfl | exact u8_val (by omega) (by omega) | decide
  have em125 : m119.bank.toInt = x65 := by rw [← hm120]; first | rfl | exact i64_val (by omega) (by omega) | decide
  have em126 : m119.place.toInt = x77 := by rw [← hm120]; first | rfl | exact i64_val (by omega) (by omega) | decide
  have em127 : (m119.value.toNat : Int) = IntKind.wrap .u8 (x89) := by rw [← hm120]; first | rfl | exact u8_val (by omega) (by omega) | decide
  have hE128 : Value.agg #[.int .i64 m119.kind.toInt, .int .i64 m119.time.toInt, .int .i64 m119.cls.toInt, .int .u8 (m119.high.toNat : Int), .int .i64 m119.bank.toInt, .int .i64 m119.place.toInt, .int .u8 (m119.value.toNat : Int)] = Value.agg #[.int .i64 x16, .int .i64 x28, .int .i64 x40, .int .u8 (IntKind.wrap .u8 (x52)), .int .i64 x65, .int .i64 x77, .int .u8 (IntKind.wrap .u8 (x89))] := by rw [em121, em122, em123, em124, em125, em126, em127]
  refine st_fn (d := 31) (f := 19) (xs := #[.agg #[.int .i64 x16, .int .i64 x28, .int .i64 x40, .int .u8 (IntKind.wrap .u8 (x52)), .int .i64 x65, .int .i64 x77, .int .u8 (IntKind.wrap .u8 (x89))]]) (R := _) (by kernel_rfl) (by have hh := rCheck_ok (w := w111) (m := m119) ; rw [hE128] at hh; exact hh) ?_
  rintro vw130 w130 ⟨e129, hsp131, rfl, e129_r, m133⟩
  replace hl := hl.mod0 m133
  replace hB4 := hB4.mod m133 (fun q => q)
  replace hR_99 := hR_99.mod0 m133
  replace hB105 := hB105.mod m133 (fun q => q)
  replace hr_114 := hr_114.mod m133 (fun q => q)
  replace HM := HM.tr0 m133
  have hszw130 := m133.size
  have HC134 := HC116.tr0 m133
  refine st_end (m_after HC134 ?_)
  refine m_p (k := 7) (n := 2) (fuel := 2) (L := [(32, .bool (e129 == 0)), (33, .bool (e129 == 0))]) (by kernel_rfl) (by kernel_rfl) rfl ?_
  refine m_Q (by kernel_rfl) ?_
  refine st_store (t := 35) (v := .agg #[.int .i64 x16, .int .i64 x28, .int .i64 x40, .int .u8 (IntKind.wrap .u8 (x52)), .int .i64 x65, .int .i64 x77, .int .u8 (IntKind.wrap .u8 (x89))]) (o := 0) (C' := [.int .i64 x16, .int .i64 x28, .int .i64 x40, .int .u8 (IntKind.wrap .u8 (x52)), .int .i64 x65, .int .i64 x77, .int .u8 (IntKind.wrap .u8 (x89))]) (by kernel_rfl) hB4 (by kernel_rfl) ?_
  intro w135 m136 zm136 NhB4
  clear hB4; have hB4 := NhB4; clear NhB4
  replace hl := hl.mod m136 (by intro k h1 h2 h3; (try simp only [Iv] at h3); omega)
  replace hR_99 := hR_99.mod m136 (by intro k h1 h2 h3; (try simp only [Iv] at h3); omega)
  replace hB105 := hB105.mod m136 (by intro h3; (try simp only [Iv] at h3); omega)
  replace hr_114 := hr_114.mod m136 (by intro h3; (try simp only [Iv] at h3); omega)
  replace HM := HM.trans m136 (by intro k h1 h3; (try simp only [Iv] at h3 ⊢); omega)
  have hszw135 := m136.size
  have HC137 : Mod (fun k => k = b1 ∨ k = r5) w106 _ := HC134.trans m136 (by intro k h1 h3; (try simp only [Iv] at h3 ⊢); omega)
  refine st_end (m_after HC137 ?_)
  refine m_p (k := 10) (n := 1) (fuel := 0) (L := [(3, .bool (e129 == 0))]) (by kernel_rfl) (by kernel_rfl) rfl ?_
  refine m_end ?_
  refine then_n ?_
  refine wp_ret ?_
  refine post_run (v := .tuple #[.agg #[.int .i64 x16, .int .i64 x28, .int .i64 x40, .int .u8 (IntKind.wrap .u8 (x52)), .int .i64 x65, .int .i64 x77, .int .u8 (IntKind.wrap .u8 (x89))], .bool (e129 == 0)]) (res_cell2 (p := 2) (t := 35) (b := b1) (e := 35) (k := 0) (q := 3) (v := .agg #[.int .i64 x16, .int .i64 x28, .int .i64 x40, .int .u8 (IntKind.wrap .u8 (x52)), .int .i64 x65, .int .i64 x77, .int .u8 (IntKind.wrap .u8 (x89))]) (u := .bool (e129 == 0)) (by kernel_rfl) (by kernel_rfl) (by kernel_rfl) hB4 (by kernel_rfl)) ?_
  refine ⟨m119, e129 == 0, ?_, (by simp only [hE128]), HM⟩
  ·rw [rmsg]
   try simp only [hsp22]
   try simp only [hsp34]
   try simp only [hsp46]
   try simp only [hsp58]
   try simp only [hsp71]
   try simp only [hsp83]
   try simp only [hsp95]
   try simp only [hsp112]
   rw [if_pos h117]
   try simp only [hm120]
   try simp only [hsp131]
   all_goals (try rfl)
 ·skip
  have hb138 : (e110 == 0) = false := beq_eq_false_iff_ne.2 h117
  refine m_p (k := 3) (n := 2) (fuel := 6) (L := [(28, .bool (e110 == 0)), (29, .bool false)]) (by kernel_rfl) (Eq.trans (b := some [(28, .bool (e110 == 0)), (29, .bool (e110 == 0))]) (by kernel_rfl) (by simp only [hb138])) rfl ?_
  refine m_p (k := 5) (n := 1) (fuel := 5) (L := [(30, undef)]) (by kernel_rfl) (by kernel_rfl) rfl ?_
  refine m_Q (by kernel_rfl) ?_
  refine st_unwanted (some 31) (by kernel_rfl) ?_
  refine st_end (m_after HC116 ?_)
  refine m_p (k := 7) (n := 2) (fuel := 2) (L := [(32, undef), (33, .bool false)]) (by kernel_rfl) (by kernel_rfl) rfl ?_
  refine m_Q (by kernel_rfl) ?_
  refine st_store (t := 35) (v := .agg #[.int .i64 x16, .int .i64 x28, .int .i64 x40, .int .u8 (IntKind.wrap .u8 (x52)), .int .i64 x65, .int .i64 x77, .int .u8 (IntKind.wrap .u8 (x89))]) (o := 0) (C' := [.int .i64 x16, .int .i64 x28, .int .i64 x40, .int .u8 (IntKind.wrap .u8 (x52)), .int .i64 x65, .int .i64 x77, .int .u8 (IntKind.wrap .u8 (x89))]) (by kernel_rfl) hB4 (by kernel_rfl) ?_
  intro w139 m140 zm140 NhB4
  clear hB4; have hB4 := NhB4; clear NhB4
  replace hl := hl.mod m140 (by intro k h1 h2 h3; (try simp only [Iv] at h3); omega)
  replace hR_99 := hR_99.mod m140 (by intro k h1 h2 h3; (try simp only [Iv] at h3); omega)
  replace hB105 := hB105.mod m140 (by intro h3; (try simp only [Iv] at h3); omega)
  replace hr_114 := hr_114.mod m140 (by intro h3; (try simp only [Iv] at h3); omega)
  replace HM := HM.trans m140 (by intro k h1 h3; (try simp only [Iv] at h3 ⊢); omega)
  have hszw139 := m140.size
  have HC141 : Mod (fun k => k = b1 ∨ k = r5) w106 _ := HC116.trans m140 (by intro k h1 h3; (try simp only [Iv] at h3 ⊢); omega)
  refine st_end (m_after HC141 ?_)
  refine m_p (k := 10) (n := 1) (fuel := 0) (L := [(3, .bool false)]) (by kernel_rfl) (by kernel_rfl) rfl ?_
  refine m_end ?_
  refine then_n ?_
  refine wp_ret ?_
  refine post_run (v := .tuple #[.agg #[.int .i64 x16, .int .i64 x28, .int .i64 x40, .int .u8 (IntKind.wrap .u8 (x52)), .int .i64 x65, .int .i64 x77, .int .u8 (IntKind.wrap .u8 (x89))], .bool false]) (res_cell2 (p := 2) (t := 35) (b := b1) (e := 35) (k := 0) (q := 3) (v := .agg #[.int .i64 x16, .int .i64 x28, .int .i64 x40, .int .u8 (IntKind.wrap .u8 (x52)), .int .i64 x65, .int .i64 x77, .int .u8 (IntKind.wrap .u8 (x89))]) (u := .bool false) (by kernel_rfl) (by kernel_rfl) (by kernel_rfl) hB4 (by kernel_rfl)) ?_
  obtain ⟨m142, hm143⟩ : ∃ y, Msg.of x16 x28 x40 (IntKind.wrap .u8 (x52)) x65 x77 (IntKind.wrap .u8 (x89)) = y := ⟨_, rfl⟩
  have em144 : m142.kind.toInt = x16 := by rw [← hm143]; first | rfl | exact i64_val (by omega) (by omega) | decide
  have em145 : m142.time.toInt = x28 := by rw [← hm143]; first | rfl | exact i64_val (by omega) (by omega) | decide
  have em146 : m142.cls.toInt = x40 := by rw [← hm143]; first | rfl | exact i64_val (by omega) (by omega) | decide
  have em147 : (m142.high.toNat : Int) = IntKind.wrap .u8 (x52) := by rw [← hm143]; first | rfl | exact u8_val (by omega) (by omega) | decide
  have em148 : m142.bank.toInt = x65 := by rw [← hm143]; first | rfl | exact i64_val (by omega) (by omega) | decide
  have em149 : m142.place.toInt = x77 := by rw [← hm143]; first | rfl | exact i64_val (by omega) (by omega) | decide
  have em150 : (m142.value.toNat : Int) = IntKind.wrap .u8 (x89) := by rw [← hm143]; first | rfl | exact u8_val (by omega) (by omega) | decide
  have hE151 : Value.agg #[.int .i64 m142.kind.toInt, .int .i64 m142.time.toInt, .int .i64 m142.cls.toInt, .int .u8 (m142.high.toNat : Int), .int .i64 m142.bank.toInt, .int .i64 m142.place.toInt, .int .u8 (m142.value.toNat : Int)] = Value.agg #[.int .i64 x16, .int .i64 x28, .int .i64 x40, .int .u8 (IntKind.wrap .u8 (x52)), .int .i64 x65, .int .i64 x77, .int .u8 (IntKind.wrap .u8 (x89))] := by rw [em144, em145, em146, em147, em148, em149, em150]
  refine ⟨m142, false, ?_, (by simp only [hE151]), HM⟩
  ·rw [rmsg]
   try simp only [hsp22]
   try simp only [hsp34]
   try simp only [hsp46]
   try simp only [hsp58]
   try simp only [hsp71]
   try simp only [hsp83]
   try simp only [hsp95]
   try simp only [hsp112]
   rw [if_neg h117]
   try simp only [hm143]
   all_goals (try rfl)

def rread_j4 (x24 : Int) (x40 : Int) (x54 : Int) (s7_1 : Int) (hB391_1 : List Msg) (hr_630_1 : List UInt8) (hr_631_1 : Int) : ((Int × List Msg × Int × Bool) ⊕ (Unit)) ⊕ (Int) :=
  match rrend hr_630_1 hr_631_1 with
  | e168 =>
   if e168 ≠ 0 then
    .inl (.inr ())
   else
    if x54 > 0 then
     if s7_1 ≠ x24 then
      .inl (.inr ())
     else
      match hB391_1.getD ((x54 - 1).toNat) Msg.zero with
      | x190 =>
       if x190.kind.toInt = 5 then
        if x40 = 1 then
         .inr e168
        else
         .inl (.inr ())
       else
        if x40 = 1 then
         .inl (.inr ())
        else
         .inr e168
    else
     .inr e168

def rread_j3 (x40 : Int) (x54 : Int) (e87 : Int) (m95 : Msg) (d96 : Bool) (s7_2 : Int) (s8_2 : Int) : ((Int × List Msg × Int × Bool) ⊕ (Unit)) ⊕ (Unit) :=
  if e87 ≠ 0 then
   .inl (.inr ())
  else
   if d96 = true then
    if m95.time.toInt < s7_2 then
     .inl (.inr ())
    else
     if m95.kind.toInt = 5 then
      if s8_2 < (x54 - 1) then
       .inl (.inr ())
      else
       if x40 = 1 then
        .inr ()
       else
        .inl (.inr ())
     else
      .inr ()
   else
    .inl (.inr ())

def rread_l2 (x40 : Int) (x54 : Int) : Nat → Int → Int → (List Msg) → (List UInt8) → Int → ((Int × List Msg × Int × Bool) ⊕ (Unit)) ⊕ (Int × List Msg × List UInt8 × Int)
 | 0, _, _, _, _, _ => default
 | k_2 + 1, s7_2, s8_2, hB391_2, hr_630_2, hr_631_2 =>
  if s8_2 < x54 then
   match rblk hr_630_2 hr_631_2 with
   | (p81, l86, e87) =>
    match rmsg p81 with
    | (m95, d96) =>
     match rread_j3 x40 x54 e87 m95 d96 s7_2 s8_2 with
     | .inr () =>
      rread_l2 x40 x54 k_2 m95.time.toInt (s8_2 + 1) (hB391_2 ++ [m95]) l86 e87
     | .inl o => .inl o
  else
   .inr (s7_2, hB391_2, hr_630_2, hr_631_2)

def rread_j1 (x40 : Int) (x54 : Int) (l57 : List UInt8) (e58 : Int) : ((Int × List Msg × Int × Bool) ⊕ (Unit)) ⊕ (Int × List Msg × List UInt8 × Int) :=
  rread_l2 x40 x54 ((x54 - 0).toNat + 1) 0 0 ([]) l57 e58

def rread (l : List UInt8) : (Int × List Msg × Int × Bool) ⊕ (Unit) :=
  match rcnt l 0 4096 with
  | (x12, l15, e16) =>
   match rcnt l15 e16 1099511627776 with
   | (x24, l27, e28) =>
    match rcnt l27 e28 1 with
    | (x40, l43, e44) =>
     match rcnt l43 e44 4096 with
     | (x54, l57, e58) =>
      if e58 ≠ 0 then
       .inr ()
      else
       if x12 < 1 then
        .inr ()
       else
        if x54 > x12 then
         .inr ()
        else
         match rread_j1 x40 x54 l57 e58 with
         | .inr (s7_1, hB391_1, hr_630_1, hr_631_1) =>
          match rread_j4 x24 x40 x54 s7_1 hB391_1 hr_630_1 hr_631_1 with
          | .inr hr_631_4 =>
           .inl (x12, hB391_1, x24, x40 == 1)
          | .inl o => o
         | .inl o => o

theorem rRead_ok {w : World} {A : Option Addr} {cA : Nat} {l : List UInt8} {lo : Nat} {hi : Nat} (hl : RdA tyU8 w lo hi A l) (A_n : A = none → cA = 0) (A_c : l.length ≤ cA) (hl_hi : hi ≤ w.heap.size) :
  Ret Try.prog 37 #[.slice A l.length cA] w fun v w' => (∃ r : Nat, ∃ A2 : Option Addr, ∃ c2 : Nat, ∃ mo : Int, ∃ l2 : List Msg, ∃ mk : Int, ∃ en : Bool, ∃ lo2 : Nat, ∃ hi2 : Nat, rread l = .inl (mo, l2, mk, en) ∧ v = .tuple #[.pointer (some ⟨r, 0, none⟩), .int .i64 0] ∧ (0 ≤ mo ∧ mo ≤ 4096) ∧ (A2 = none → c2 = 0) ∧ (l2.length ≤ c2) ∧ (-9223372036854775808 ≤ mk ∧ mk ≤ 9223372036854775807) ∧ (l2.length ≤ 4096) ∧ (w.heap.size ≤ lo2 ∧ lo2 ≤ hi2 ∧ w.heap.size ≤ r ∧ r < w'.heap.size ∧ (hi2 ≤ r ∨ r < lo2)) ∧ Blk w' r 47 [.int .i64 mo, .slice A2 l2.length c2, .int .i64 mk, .bool en] ∧ Own tyMsg 35 w' lo2 hi2 (.slice A2 l2.length c2) l2 ∧ Mod (Nil) w w') ∨ (rread l = .inr () ∧ v = .tuple #[.pointer none, .int .i64 4] ∧ Mod (Nil) w w') := by
 have hl_l := hl.len
 have HM : Mod (Nil) w w := Mod.refl _ w
 refine ret_of Try.func37 rfl rfl ?_
 refine wp_seq ?_
 refine c_region (L := [0, 1]) (by kernel_rfl) ?_
 refine st_pure (l := [0, 1]) (rest := []) (L := [(2, .pointer none), (3, .int .i64 0)]) rfl (by kernel_rfl) ?_
 refine st_end ?_
 refine then_n ?_
 refine wp_seq ?_
 refine c_region (L := [0, 1, 2]) (by kernel_rfl) ?_
 refine st_pure (l := [0]) (rest := [1, 2]) (L := [(11, .slice A l.length cA)]) rfl (by kernel_rfl) ?_
 refine st_fn (d := 12) (f := 116) (xs := #[.slice A l.length cA]) (R := _) (by kernel_rfl) (ref_New (w := w) (A := A) (cA := cA) (l := l) (lo := lo) (hi := hi) (hl := hl) (A_n := A_n) (A_c := by first | exact A_c | omega) (hl_hi := by omega)) ?_
 rintro vw6 w6 ⟨r1, A2, c3, lo4, hi5, rfl, A2_n, A2_c, hlr8, hr_9, hR_10, m11⟩
 replace hl := hl.mod0 m11
 replace HM := HM.tr0 m11
 have hszw6 := m11.size
 have lt_hr_9 := hr_9.lt
 have hR_10_l := hR_10.len
 refine st_pure (l := [2]) (rest := []) (L := [(4, .pointer (some ⟨r1, 0, none⟩))]) rfl (by kernel_rfl) ?_
 refine st_end ?_
 refine then_n ?_
 refine wp_seq ?_
 refine c_region (L := [0, 1, 2, 3, 4, 5, 6]) (by kernel_rfl) ?_
 refine st_pure (l := [0]) (rest := [1, 2, 3, 4, 5, 6]) (L := [(13, .pointer (some ⟨r1, 0, none⟩))]) rfl (by kernel_rfl) ?_
 refine st_fn (d := 14) (f := 117) (xs := #[.pointer (some ⟨r1, 0, none⟩), .int .i64 4096]) (R := _) (by kernel_rfl) (ref_RCount (w := w6) (r := r1) (A := A2) (cA := c3) (l := l) (e := 0) (lo := lo4) (hi := hi5) (most := 4096) (hr := hr_9) (hR := hR_10) (most_r := by omega) (A_n := A2_n) (A_c := by first | exact A2_c | omega) (e_r := by omega) (hR_hi := by omega) (hsep := by first | omega | (simp only [List.length_cons, List.length_nil, List.length_append, List.length_take, List.length_drop] at *; omega))) ?_
 rintro vw17 w17 ⟨x12, A13, c14, l15, e16, hsp18, rfl, x12_r, A13_n, A13_c, e16_r, x2_b20, hr_21, hR_22, m23⟩
 clear hr_9
 clear hR_10
 replace hl := hl.mod m23 (by intro k h1 h2 h3; (try simp only [Iv] at h3); omega)
 replace HM := HM.trans m23 (by intro k h1 h3; (try simp only [Iv] at h3 ⊢); omega)
 have hszw17 := m23.size
 have lt_hr_21 := hr_21.lt
 have hR_22_l := hR_22.len
 refine st_pure (l := [2]) (rest := [3, 4, 5, 6]) (L := [(15, .pointer (some ⟨r1, 0, none⟩))]) rfl (by kernel_rfl) ?_
 refine st_fn (d := 16) (f := 117) (xs := #[.pointer (some ⟨r1, 0, none⟩), .int .i64 1099511627776]) (R := _) (by kernel_rfl) (ref_RCount (w := w17) (r := r1) (A := A13) (cA := c14) (l := l15) (e := e16) (lo := lo4) (hi := hi5) (most := 1099511627776) (hr := hr_21) (hR := hR_22) (most_r := by omega) (A_n := A13_n) (A_c := by first | exact A13_c | omega) (e_r := by omega) (hR_hi := by omega) (hsep := by first | omega | (simp only [List.length_cons, List.length_nil, List.length_append, List.length_take, List.length_drop] at *; omega))) ?_
 rintro vw29 w29 ⟨x24, A25, c26, l27, e28, hsp30, rfl, x24_r, A25_n, A25_c, e28_r, x2_b32, hr_33, hR_34, m35⟩
 clear hr_21
 clear hR_22
 replace hl := hl.mod m35 (by intro k h1 h2 h3; (try simp only [Iv] at h3); omega)
 replace HM := HM.trans m35 (by intro k h1 h3; (try simp only [Iv] at h3 ⊢); omega)
 have hszw29 := m35.size
 have lt_hr_33 := hr_33.lt
 have hR_34_l := hR_34.len
 refine st_pure (l := [4]) (rest := [5, 6]) (L := [(17, .agg #[.int .i64 x12, .slice none 0 0, .int .i64 x24, .bool false])]) rfl (by kernel_rfl) ?_
 refine st_new (d := 18) (e := 47) (C := [.int .i64 x12, .slice none 0 0, .int .i64 x24, .bool false]) (V := fun r => .pointer (some ⟨r, 0, none⟩)) (by kernel_rfl) ?_
 intro b36 w37 m38 lb36 ub36 hB39
 replace hl := hl.mod0 m38
 replace hr_33 := hr_33.mod m38 (fun q => q)
 replace hR_34 := hR_34.mod0 m38
 replace HM := HM.tr0 m38
 have hszw37 := m38.size
 refine st_pure (l := [6]) (rest := []) (L := [(5, .pointer (some ⟨b36, 0, none⟩))]) rfl (by kernel_rfl) ?_
 refine st_end ?_
 refine then_n ?_
 refine wp_seq ?_
 refine c_region (L := [0, 1, 2, 3, 4, 5, 6]) (by kernel_rfl) ?_
 refine st_pure (l := [0, 1]) (rest := [2, 3, 4, 5, 6]) (L := [(19, .pointer (some ⟨b36, 0, none⟩)), (20, .pointer (some ⟨r1, 0, none⟩))]) rfl (by kernel_rfl) ?_
 refine st_fn (d := 21) (f := 117) (xs := #[.pointer (some ⟨r1, 0, none⟩), .int .i64 1]) (R := _) (by kernel_rfl) (ref_RCount (w := w37) (r := r1) (A := A25) (cA := c26) (l := l27) (e := e28) (lo := lo4) (hi := hi5) (most := 1) (hr := hr_33) (hR := hR_34) (most_r := by omega) (A_n := A25_n) (A_c := by first | exact A25_c | omega) (e_r := by omega) (hR_hi := by omega) (hsep := by first | omega | (simp only [List.length_cons, List.length_nil, List.length_append, List.length_take, List.length_drop] at *; omega))) ?_
 rintro vw45 w45 ⟨x40, A41, c42, l43, e44, hsp46, rfl, x40_r, A41_n, A41_c, e44_r, x2_b48, hr_49, hR_50, m51⟩
 clear hr_33
 clear hR_34
 replace hl := hl.mod m51 (by intro k h1 h2 h3; (try simp only [Iv] at h3); omega)
 replace hB39 := hB39.mod m51 (by intro h3; (try simp only [Iv] at h3); omega)
 replace HM := HM.trans m51 (by intro k h1 h3; (try simp only [Iv] at h3 ⊢); omega)
 have hszw45 := m51.size
 have lt_hr_49 := hr_49.lt
 have hR_50_l := hR_50.len
 refine st_pure (l := [3, 4, 5]) (rest := [6]) (L := [(22, .bool (x40 == 1)), (23, .pointer (some ⟨b36, 0, none⟩)), (24, .pointer (some ⟨b36, 3, none⟩))]) rfl (by kernel_rfl) ?_
 refine st_store (t := 4) (v := .bool (x40 == 1)) (o := 3) (C' := [.int .i64 x12, .slice none 0 0, .int .i64 x24, .bool (x40 == 1)]) (by kernel_rfl) hB39 (by kernel_rfl) ?_
 intro w52 m53 zm53 NhB39
 clear hB39; have hB39 := NhB39; clear NhB39
 replace hl := hl.mod m53 (by intro k h1 h2 h3; (try simp only [Iv] at h3); omega)
 replace hr_49 := hr_49.mod m53 (by intro h3; (try simp only [Iv] at h3); omega)
 replace hR_50 := hR_50.mod m53 (by intro k h1 h2 h3; (try simp only [Iv] at h3); omega)
 replace HM := HM.trans m53 (by intro k h1 h3; (try simp only [Iv] at h3 ⊢); omega)
 have hszw52 := m53.size
 refine st_end ?_
 refine then_n ?_
 refine wp_seq ?_
 refine c_region (L := [0, 1, 2]) (by kernel_rfl) ?_
 refine st_pure (l := [0]) (rest := [1, 2]) (L := [(25, .pointer (some ⟨r1, 0, none⟩))]) rfl (by kernel_rfl) ?_
 refine st_fn (d := 26) (f := 117) (xs := #[.pointer (some ⟨r1, 0, none⟩), .int .i64 4096]) (R := _) (by kernel_rfl) (ref_RCount (w := w52) (r := r1) (A := A41) (cA := c42) (l := l43) (e := e44) (lo := lo4) (hi := hi5) (most := 4096) (hr := hr_49) (hR := hR_50) (most_r := by omega) (A_n := A41_n) (A_c := by first | exact A41_c | omega) (e_r := by omega) (hR_hi := by omega) (hsep := by first | omega | (simp only [List.length_cons, List.length_nil, List.length_append, List.length_take, List.length_drop] at *; omega))) ?_
 rintro vw59 w59 ⟨x54, A55, c56, l57, e58, hsp60, rfl, x54_r, A55_n, A55_c, e58_r, x2_b62, hr_63, hR_64, m65⟩
 clear hr_49
 clear hR_50
 replace hl := hl.mod m65 (by intro k h1 h2 h3; (try simp only [Iv] at h3); omega)
 replace hB39 := hB39.mod m65 (by intro h3; (try simp only [Iv] at h3); omega)
 replace HM := HM.trans m65 (by intro k h1 h3; (try simp only [Iv] at h3 ⊢); omega)
 have hszw59 := m65.size
 have lt_hr_63 := hr_63.lt
 have hR_64_l := hR_64.len
 refine st_pure (l := [2]) (rest := []) (L := [(6, .int .i64 x54)]) rfl (by kernel_rfl) ?_
 refine st_end ?_
 refine then_n ?_
 refine wp_seq ?_
 refine wp_seq ?_
 refine c_region (L := [0, 1, 2, 3, 4, 5, 6, 7, 8, 9, 10, 11, 12, 13, 14, 15, 16, 17, 18, 19]) (by kernel_rfl) ?_
 refine st_pure (l := [0, 1, 2]) (rest := [3, 4, 5, 6, 7, 8, 9, 10, 11, 12, 13, 14, 15, 16, 17, 18, 19]) (L := [(27, .pointer (some ⟨r1, 0, none⟩)), (28, .pointer (some ⟨r1, 0, none⟩)), (29, .pointer (some ⟨r1, 1, none⟩))]) rfl (by kernel_rfl) ?_
 refine st_load (d := 30) (t := 26) (cs := _) (v := .int .i64 e58) (by kernel_rfl) (hr_63.sub 1) (by kernel_rfl) ?_
 by_cases h66 : e58 ≠ 0
 ·skip
  have hb67 : (e58 != 0) = true := by first | (rw [bne_iff_ne]; exact h66) | (rw [bne_eq_false_iff_eq]; omega)
  refine st_pure (l := [4, 5]) (rest := [6, 7, 8, 9, 10, 11, 12, 13, 14, 15, 16, 17, 18, 19]) (L := [(31, .bool (e58 != 0)), (32, .bool true)]) rfl (Eq.trans (b := some [(31, .bool (e58 != 0)), (32, .bool (e58 != 0))]) (by kernel_rfl) (by simp only [hb67])) ?_
  refine st_pure (l := [6, 7, 8, 9, 10, 11, 12, 13, 14, 15, 16, 17, 18, 19]) (rest := []) (L := [(33, undef), (34, undef), (35, undef), (36, undef), (37, undef), (38, .bool true), (39, .bool true), (40, undef), (41, undef), (42, undef), (43, undef), (44, undef), (45, undef), (46, .bool true)]) rfl (by kernel_rfl) ?_
  refine st_end ?_
  refine then_n ?_
  refine c_true (by kernel_rfl) ?_
  refine wp_seq ?_
  refine c_region (L := [0, 1]) (by kernel_rfl) ?_
  refine st_pure (l := [0, 1]) (rest := []) (L := [(2, .pointer none), (3, .int .i64 4)]) rfl (by kernel_rfl) ?_
  refine st_end ?_
  refine then_n ?_
  refine wp_ret ?_
  refine then_r ?_
  refine post_ret (v := .tuple #[.pointer none, .int .i64 4]) (by kernel_rfl) ?_
  refine .inr ?_
  refine ⟨?_, rfl, HM⟩
  ·rw [rread]
   try simp only [hsp18]
   try simp only [hsp30]
   try simp only [hsp46]
   try simp only [hsp60]
   rw [if_pos h66]
   all_goals (try rfl)
 ·skip
  have hb68 : (e58 != 0) = false := by rw [bne_eq_false_iff_eq]; exact Decidable.not_not.1 h66
  refine st_pure (l := [4, 5]) (rest := [6, 7, 8, 9, 10, 11, 12, 13, 14, 15, 16, 17, 18, 19]) (L := [(31, .bool (e58 != 0)), (32, .bool false)]) rfl (Eq.trans (b := some [(31, .bool (e58 != 0)), (32, .bool (e58 != 0))]) (by kernel_rfl) (by simp only [hb68])) ?_
  refine st_pure (l := [6, 7, 8]) (rest := [9, 10, 11, 12, 13, 14, 15, 16, 17, 18, 19]) (L := [(33, .pointer (some ⟨b36, 0, none⟩)), (34, .pointer (some ⟨b36, 0, none⟩)), (35, .pointer (some ⟨b36, 0, none⟩))]) rfl (by kernel_rfl) ?_
  refine st_load (d := 36) (t := 3) (cs := _) (v := .int .i64 x12) (by kernel_rfl) (hB39.sub 0) (by kernel_rfl) ?_
  by_cases h69 : x12 < 1
  ·skip
   have hb70 : (decide (x12 < 1)) = true := decide_eq_true h69
   refine st_pure (l := [10, 11, 12]) (rest := [13, 14, 15, 16, 17, 18, 19]) (L := [(37, .bool (decide (x12 < 1))), (38, .bool (decide (x12 < 1))), (39, .bool true)]) rfl (Eq.trans (b := some [(37, .bool (decide (x12 < 1))), (38, .bool (decide (x12 < 1))), (39, .bool (decide (x12 < 1)))]) (by kernel_rfl) (by simp only [hb70])) ?_
   refine st_pure (l := [13, 14, 15, 16, 17, 18, 19]) (rest := []) (L := [(40, undef), (41, undef), (42, undef), (43, undef), (44, undef), (45, undef), (46, .bool true)]) rfl (by kernel_rfl) ?_
   refine st_end ?_
   refine then_n ?_
   refine c_true (by kernel_rfl) ?_
   refine wp_seq ?_
   refine c_region (L := [0, 1]) (by kernel_rfl) ?_
   refine st_pure (l := [0, 1]) (rest := []) (L := [(2, .pointer none), (3, .int .i64 4)]) rfl (by kernel_rfl) ?_
   refine st_end ?_
   refine then_n ?_
   refine wp_ret ?_
   refine then_r ?_
   refine post_ret (v := .tuple #[.pointer none, .int .i64 4]) (by kernel_rfl) ?_
   refine .inr ?_
   refine ⟨?_, rfl, HM⟩
   ·rw [rread]
    try simp only [hsp18]
    try simp only [hsp30]
    try simp only [hsp46]
    try simp only [hsp60]
    rw [if_neg h66, if_pos h69]
    all_goals (try rfl)
  ·skip
   have hb71 : (decide (x12 < 1)) = false := decide_eq_false h69
   refine st_pure (l := [10, 11, 12]) (rest := [13, 14, 15, 16, 17, 18, 19]) (L := [(37, .bool (decide (x12 < 1))), (38, .bool (decide (x12 < 1))), (39, .bool false)]) rfl (Eq.trans (b := some [(37, .bool (decide (x12 < 1))), (38, .bool (decide (x12 < 1))), (39, .bool (decide (x12 < 1)))]) (by kernel_rfl) (by simp only [hb71])) ?_
   refine st_pure (l := [13, 14, 15, 16]) (rest := [17, 18, 19]) (L := [(40, .int .i64 x54), (41, .pointer (some ⟨b36, 0, none⟩)), (42, .pointer (some ⟨b36, 0, none⟩)), (43, .pointer (some ⟨b36, 0, none⟩))]) rfl (by kernel_rfl) ?_
   refine st_load (d := 44) (t := 3) (cs := _) (v := .int .i64 x12) (by kernel_rfl) (hB39.sub 0) (by kernel_rfl) ?_
   by_cases h72 : x54 > x12
   ·skip
    have hb73 : (decide (x54 > x12)) = true := decide_eq_true h72
    refine st_pure (l := [18, 19]) (rest := []) (L := [(45, .bool (decide (x54 > x12))), (46, .bool true)]) rfl (Eq.trans (b := some [(45, .bool (decide (x54 > x12))), (46, .bool (decide (x54 > x12)))]) (by kernel_rfl) (by simp only [hb73])) ?_
    refine st_end ?_
    refine then_n ?_
    refine c_true (by kernel_rfl) ?_
    refine wp_seq ?_
    refine c_region (L := [0, 1]) (by kernel_rfl) ?_
    refine st_pure (l := [0, 1]) (rest := []) (L := [(2, .pointer none), (3, .int .i64 4)]) rfl (by kernel_rfl) ?_
    refine st_end ?_
    refine then_n ?_
    refine wp_ret ?_
    refine then_r ?_
    refine post_ret (v := .tuple #[.pointer none, .int .i64 4]) (by kernel_rfl) ?_
    refine .inr ?_
    refine ⟨?_, rfl, HM⟩
    ·rw [rread]
     try simp only [hsp18]
     try simp only [hsp30]
     try simp only [hsp46]
     try simp only [hsp60]
     rw [if_neg h66, if_neg h69, if_pos h72]
     all_goals (try rfl)
   ·skip
    have hb74 : (decide (x54 > x12)) = false := decide_eq_false h72
    refine st_pure (l := [18, 19]) (rest := []) (L := [(45, .bool (decide (x54 > x12))), (46, .bool false)]) rfl (Eq.trans (b := some [(45, .bool (decide (x54 > x12))), (46, .bool (decide (x54 > x12)))]) (by kernel_rfl) (by simp only [hb74])) ?_
    refine st_end ?_
    refine then_n ?_
    refine c_false (by kernel_rfl) ?_
    refine wp_skip ?_
    refine then_n ?_
    refine wp_seq ?_
    refine c_region (L := [0]) (by kernel_rfl) ?_
    refine st_pure (l := [0]) (rest := []) (L := [(7, .int .i64 0)]) rfl (by kernel_rfl) ?_
    refine st_end ?_
    refine then_n ?_
    refine wp_seq ?_
    refine c_cut (J := fun a w' => ∃ s7_1 : Int, ∃ AhB391_1 : Option Addr, ∃ chB391_1 : Nat, ∃ hB391_1 : List Msg, ∃ Ahr_630_1 : Option Addr, ∃ chr_630_1 : Nat, ∃ hr_630_1 : List UInt8, ∃ hr_631_1 : Int, ∃ lohB391_1 : Nat, ∃ hihB391_1 : Nat, rread_j1 x40 x54 l57 e58 = .inr (s7_1, hB391_1, hr_630_1, hr_631_1) ∧ Fr 136 [(4, .pointer (some ⟨r1, 0, none⟩)), (5, .pointer (some ⟨b36, 0, none⟩)), (6, .int .i64 x54), (7, .int .i64 s7_1)] a ∧ Mod (Nil) w w' ∧ w59.heap.size ≤ w'.heap.size ∧ RdA tyU8 w' lo hi A l ∧ Blk w' b36 47 [.int .i64 x12, .slice AhB391_1 hB391_1.length chB391_1, .int .i64 x24, .bool (x40 == 1)] ∧ Blk w' r1 165 [.slice Ahr_630_1 hr_630_1.length chr_630_1, .int .i64 hr_631_1] ∧ Own tyMsg 35 w' lohB391_1 hihB391_1 (.slice AhB391_1 hB391_1.length chB391_1) hB391_1 ∧ RdA tyMsg w' lohB391_1 hihB391_1 AhB391_1 hB391_1 ∧ RdA tyU8 w' lo4 hi5 Ahr_630_1 hr_630_1 ∧ (-9223372036854775808 ≤ s7_1 ∧ s7_1 ≤ 9223372036854775807) ∧ (-9223372036854775808 ≤ hr_631_1 ∧ hr_631_1 ≤ 9223372036854775807) ∧ (w59.heap.size ≤ lohB391_1 ∧ lohB391_1 ≤ hihB391_1 ∧ hihB391_1 ≤ w'.heap.size) ∧ (AhB391_1 = none → chB391_1 = 0) ∧ (hB391_1.length ≤ chB391_1) ∧ (Ahr_630_1 = none → chr_630_1 = 0) ∧ (hr_630_1.length ≤ chr_630_1) ∧ ((hB391_1.length : Int) = x54) ∧ True) ?_ ?_
    ·skip
     refine wp_seq ?_
     refine c_region (L := [0]) (by kernel_rfl) ?_
     refine st_pure (l := [0]) (rest := []) (L := [(8, .int .i64 0)]) rfl (by kernel_rfl) ?_
     refine st_end ?_
     refine then_n ?_
     refine wp_block ?_
     refine c_loop (σ := Nat × Int × Int × Option Addr × Nat × List Msg × Option Addr × Nat × List UInt8 × Int × Nat × Nat) (fun s a w' => match s with | ⟨k_2, s7_2, s8_2, AhB391_2, chB391_2, hB391_2, Ahr_630_2, chr_630_2, hr_630_2, hr_631_2, lohB391_2, hihB391_2⟩ => rread_l2 x40 x54 k_2 s7_2 s8_2 hB391_2 hr_630_2 hr_631_2 = rread_l2 x40 x54 ((x54 - 0).toNat + 1) 0 0 ([]) l57 e58 ∧ (x54 - s8_2).toNat < k_2 ∧ Fr 136 [(4, .pointer (some ⟨r1, 0, none⟩)), (5, .pointer (some ⟨b36, 0, none⟩)), (6, .int .i64 x54), (7, .int .i64 s7_2), (8, .int .i64 s8_2)] a ∧ Mod (Nil) w w' ∧ w59.heap.size ≤ w'.heap.size ∧ RdA tyU8 w' lo hi A l ∧ Blk w' b36 47 [.int .i64 x12, .slice AhB391_2 hB391_2.length chB391_2, .int .i64 x24, .bool (x40 == 1)] ∧ Blk w' r1 165 [.slice Ahr_630_2 hr_630_2.length chr_630_2, .int .i64 hr_631_2] ∧ Own tyMsg 35 w' lohB391_2 hihB391_2 (.slice AhB391_2 hB391_2.length chB391_2) hB391_2 ∧ RdA tyMsg w' lohB391_2 hihB391_2 AhB391_2 hB391_2 ∧ RdA tyU8 w' lo4 hi5 Ahr_630_2 hr_630_2 ∧ (-9223372036854775808 ≤ s7_2 ∧ s7_2 ≤ 9223372036854775807) ∧ (0 ≤ s8_2 ∧ s8_2 ≤ x54) ∧ (-9223372036854775808 ≤ hr_631_2 ∧ hr_631_2 ≤ 9223372036854775807) ∧ (w59.heap.size ≤ lohB391_2 ∧ lohB391_2 ≤ hihB391_2 ∧ hihB391_2 ≤ w'.heap.size) ∧ (AhB391_2 = none → chB391_2 = 0) ∧ (hB391_2.length ≤ chB391_2) ∧ (Ahr_630_2 = none → chr_630_2 = 0) ∧ (hr_630_2.length ≤ chr_630_2) ∧ ((hB391_2.length : Int) = s8_2) ∧ True) (fun s => s.1) ((x54 - 0).toNat + 1, 0, 0, none, 0, [], A55, c56, l57, e58, w59.heap.size, w59.heap.size) ?_ ?_
     ·refine ⟨rfl, by omega, Fr.mk (by kernel_rfl) (by kernel_rfl), HM, by omega, hl, hB39, hr_63, Own.nil, RdA.nil, hR_64, ?_, ?_, ?_, ?_, ?_, ?_, ?_, ?_, ?_, trivial⟩
      ·omega
      ·omega
      ·omega
      ·omega
      ·exact fun _ => rfl
      ·exact Nat.zero_le _
      ·exact A55_n
      ·first | exact A55_c | omega
      ·first | omega | (simp only [List.length_append, List.length_cons, List.length_nil, List.length_take, List.length_drop, List.length_set, List.length_replicate] at *; omega)
     ·rintro ⟨k_2, s7_2, s8_2, AhB391_2, chB391_2, hB391_2, Ahr_630_2, chr_630_2, hr_630_2, hr_631_2, lohB391_2, hihB391_2⟩ a w75 ⟨hL76, hk77, ⟨Tf, rfl⟩, HM', hszw75, hl', hB39', hr_63', hO_hB391_2', hR_hB391_2', hR_hr_630_2', s7_2_r, s8_2_r, hr_631_2_r, hrg_hB391_2, AhB391_2_n, AhB391_2_c, Ahr_630_2_n, Ahr_630_2_c, hi0_2, -⟩
      clear HM hl hB39 hr_63 hR_64
      have HM := HM'; clear HM'
      have hl := hl'; clear hl'
      have hB39 := hB39'; clear hB39'
      have hr_63 := hr_63'; clear hr_63'
      have hO_hB391_2 := hO_hB391_2'; clear hO_hB391_2'
      have hR_hB391_2 := hR_hB391_2'; clear hR_hB391_2'
      have hR_hr_630_2 := hR_hr_630_2'; clear hR_hr_630_2'
      have hl_l := hl.len
      have hO_hB391_2_b := hO_hB391_2.bounds
      have hR_hB391_2_l := hR_hB391_2.len
      have hR_hr_630_2_l := hR_hr_630_2.len
      obtain ⟨k_2, rfl⟩ : ∃ k, k_2 = k + 1 := ⟨k_2 - 1, by omega⟩
      refine wp_seq ?_
      refine wp_seq ?_
      refine c_region (L := [0, 1, 2]) (by kernel_rfl) ?_
      by_cases h79 : s8_2 < x54
      ·skip
       have hb80 : (decide (s8_2 < x54)) = true := decide_eq_true h79
       refine st_pure (l := [0, 1, 2]) (rest := []) (L := [(47, .int .i64 s8_2), (48, .int .i64 x54), (49, .bool true)]) rfl (Eq.trans (b := some [(47, .int .i64 s8_2), (48, .int .i64 x54), (49, .bool (decide (s8_2 < x54)))]) (by kernel_rfl) (by simp only [hb80])) ?_
       refine st_end ?_
       refine then_n ?_
       refine c_true (by kernel_rfl) ?_
       refine wp_skip ?_
       refine then_n ?_
       refine wp_seq ?_
       refine wp_block ?_
       refine wp_seq ?_
       refine c_region (L := [0, 1, 2, 3, 4, 5, 6, 7, 8]) (by kernel_rfl) ?_
       refine st_pure (l := [0]) (rest := [1, 2, 3, 4, 5, 6, 7, 8]) (L := [(53, .pointer (some ⟨r1, 0, none⟩))]) rfl (by kernel_rfl) ?_
       refine st_fn (d := 54) (f := 119) (xs := #[.pointer (some ⟨r1, 0, none⟩)]) (R := _) (by kernel_rfl) (ref_RBlock (w := w75) (r := r1) (A := Ahr_630_2) (cA := chr_630_2) (l := hr_630_2) (e := hr_631_2) (lo := lo4) (hi := hi5) (hr := hr_63) (hR := hR_hr_630_2) (A_n := Ahr_630_2_n) (A_c := by first | exact Ahr_630_2_c | omega) (e_r := by omega) (hR_hi := by omega) (hsep := by first | omega | (simp only [List.length_cons, List.length_nil, List.length_append, List.length_take, List.length_drop] at *; omega))) ?_
       rintro vw88 w88 ⟨p81, A82, c83, A84, c85, l86, e87, hsp89, rfl, A82_n, A82_c, A84_n, A84_c, e87_r, hr_91, hR_92, hp_93, m94⟩
       clear hr_63
       clear hR_hr_630_2
       replace hl := hl.mod m94 (by intro k h1 h2 h3; (try simp only [Iv] at h3); omega)
       replace hB39 := hB39.mod m94 (by intro h3; (try simp only [Iv] at h3); omega)
       replace hO_hB391_2 := hO_hB391_2.mod m94 (by intro k h1 h2 h3; (try simp only [Iv] at h3); omega)
       replace hR_hB391_2 := hR_hB391_2.mod m94 (by intro k h1 h2 h3; (try simp only [Iv] at h3); omega)
       replace HM := HM.trans m94 (by intro k h1 h3; (try simp only [Iv] at h3 ⊢); omega)
       have hszw88 := m94.size
       have lt_hr_91 := hr_91.lt
       have hR_92_l := hR_92.len
       have hp_93_l := hp_93.len
       refine st_fn (d := 55) (f := 118) (xs := #[.slice A82 p81.length c83]) (R := _) (by kernel_rfl) (rmessage_ok (w := w88) (A := A82) (cA := c83) (l := p81) (lo := w75.heap.size) (hi := w88.heap.size) (hl := hp_93) (A_n := A82_n) (A_c := by first | exact A82_c | omega) (hl_hi := by omega)) ?_
       rintro vw97 w97 ⟨m95, d96, hsp98, rfl, m100⟩
       have hrm95_0 := i64_lo m95.kind
       have hrm95_1 := i64_lo m95.time
       have hrm95_2 := i64_lo m95.cls
       have hrm95_4 := i64_lo m95.bank
       have hrm95_5 := i64_lo m95.place
       have hsm95_0 := i64_hi m95.kind
       have hsm95_1 := i64_hi m95.time
       have hsm95_2 := i64_hi m95.cls
       have hsm95_3 := u8_hi m95.high
       have hsm95_4 := i64_hi m95.bank
       have hsm95_5 := i64_hi m95.place
       have hsm95_6 := u8_hi m95.value
       replace hl := hl.mod0 m100
       replace hB39 := hB39.mod m100 (fun q => q)
       replace hO_hB391_2 := hO_hB391_2.mod0 m100
       replace hR_hB391_2 := hR_hB391_2.mod0 m100
       replace hr_91 := hr_91.mod m100 (fun q => q)
       replace hR_92 := hR_92.mod0 m100
       replace hp_93 := hp_93.mod0 m100
       replace HM := HM.tr0 m100
       have hszw97 := m100.size
       refine st_pure (l := [3, 4, 5]) (rest := [6, 7, 8]) (L := [(52, .tuple #[.agg #[.int .i64 m95.kind.toInt, .int .i64 m95.time.toInt, .int .i64 m95.cls.toInt, .int .u8 (m95.high.toNat : Int), .int .i64 m95.bank.toInt, .int .i64 m95.place.toInt, .int .u8 (m95.value.toNat : Int)], .bool d96]), (56, .agg #[.int .i64 m95.kind.toInt, .int .i64 m95.time.toInt, .int .i64 m95.cls.toInt, .int .u8 (m95.high.toNat : Int), .int .i64 m95.bank.toInt, .int .i64 m95.place.toInt, .int .u8 (m95.value.toNat : Int)]), (57, .bool d96)]) rfl (by kernel_rfl) ?_
       refine st_new (d := 9) (e := 35) (C := [.int .i64 0, .int .i64 0, .int .i64 0, .int .u8 0, .int .i64 0, .int .i64 0, .int .u8 0]) (V := fun r => .pointer (some ⟨r, 0, none⟩)) (by kernel_rfl) ?_
       intro b101 w102 m103 lb101 ub101 hB104
       replace hl := hl.mod0 m103
       replace hB39 := hB39.mod m103 (fun q => q)
       replace hO_hB391_2 := hO_hB391_2.mod0 m103
       replace hR_hB391_2 := hR_hB391_2.mod0 m103
       replace hr_91 := hr_91.mod m103 (fun q => q)
       replace hR_92 := hR_92.mod0 m103
       replace hp_93 := hp_93.mod0 m103
       replace HM := HM.tr0 m103
       have hszw102 := m103.size
       refine st_store (t := 35) (v := .agg #[.int .i64 m95.kind.toInt, .int .i64 m95.time.toInt, .int .i64 m95.cls.toInt, .int .u8 (m95.high.toNat : Int), .int .i64 m95.bank.toInt, .int .i64 m95.place.toInt, .int .u8 (m95.value.toNat : Int)]) (o := 0) (C' := [.int .i64 m95.kind.toInt, .int .i64 m95.time.toInt, .int .i64 m95.cls.toInt, .int .u8 (m95.high.toNat : Int), .int .i64 m95.bank.toInt, .int .i64 m95.place.toInt, .int .u8 (m95.value.toNat : Int)]) (by kernel_rfl) hB104 (by kernel_rfl) ?_
       intro w105 m106 zm106 NhB104
       clear hB104; have hB104 := NhB104; clear NhB104
       replace hl := hl.mod m106 (by intro k h1 h2 h3; (try simp only [Iv] at h3); omega)
       replace hB39 := hB39.mod m106 (by intro h3; (try simp only [Iv] at h3); omega)
       replace hO_hB391_2 := hO_hB391_2.mod m106 (by intro k h1 h2 h3; (try simp only [Iv] at h3); omega)
       replace hR_hB391_2 := hR_hB391_2.mod m106 (by intro k h1 h2 h3; (try simp only [Iv] at h3); omega)
       replace hr_91 := hr_91.mod m106 (by intro h3; (try simp only [Iv] at h3); omega)
       replace hR_92 := hR_92.mod m106 (by intro k h1 h2 h3; (try simp only [Iv] at h3); omega)
       replace hp_93 := hp_93.mod m106 (by intro k h1 h2 h3; (try simp only [Iv] at h3); omega)
       replace HM := HM.trans m106 (by intro k h1 h3; (try simp only [Iv] at h3 ⊢); omega)
       have hszw105 := m106.size
       refine st_pure (l := [8]) (rest := []) (L := [(10, .bool d96)]) rfl (by kernel_rfl) ?_
       refine st_end ?_
       refine then_n ?_
       refine wp_seq ?_
       refine c_cut (J := fun a w' => rread_j3 x40 x54 e87 m95 d96 s7_2 s8_2 = .inr () ∧ Fr 136 [(4, .pointer (some ⟨r1, 0, none⟩)), (5, .pointer (some ⟨b36, 0, none⟩)), (6, .int .i64 x54), (8, .int .i64 s8_2), (9, .pointer (some ⟨b101, 0, none⟩))] a ∧ Mod (Nil) w w' ∧ w105.heap.size ≤ w'.heap.size ∧ RdA tyU8 w' lo hi A l ∧ Blk w' b36 47 [.int .i64 x12, .slice AhB391_2 hB391_2.length chB391_2, .int .i64 x24, .bool (x40 == 1)] ∧ Own tyMsg 35 w' lohB391_2 hihB391_2 (.slice AhB391_2 hB391_2.length chB391_2) hB391_2 ∧ RdA tyMsg w' lohB391_2 hihB391_2 AhB391_2 hB391_2 ∧ Blk w' r1 165 [.slice A84 l86.length c85, .int .i64 e87] ∧ RdA tyU8 w' lo4 hi5 A84 l86 ∧ RdA tyU8 w' w75.heap.size w88.heap.size A82 p81 ∧ Blk w' b101 35 [.int .i64 m95.kind.toInt, .int .i64 m95.time.toInt, .int .i64 m95.cls.toInt, .int .u8 (m95.high.toNat : Int), .int .i64 m95.bank.toInt, .int .i64 m95.place.toInt, .int .u8 (m95.value.toNat : Int)] ∧ True) ?_ ?_
       ·skip
        refine wp_seq ?_
        refine c_region (L := [0, 1, 2, 3, 4, 5, 6, 7, 8, 9, 10, 11, 12, 13, 14, 15, 16, 17, 18, 19, 20, 21, 22, 23, 24, 25, 26, 27, 28, 29, 30, 31, 32]) (by kernel_rfl) ?_
        refine st_pure (l := [0, 1, 2]) (rest := [3, 4, 5, 6, 7, 8, 9, 10, 11, 12, 13, 14, 15, 16, 17, 18, 19, 20, 21, 22, 23, 24, 25, 26, 27, 28, 29, 30, 31, 32]) (L := [(58, .pointer (some ⟨r1, 0, none⟩)), (59, .pointer (some ⟨r1, 0, none⟩)), (60, .pointer (some ⟨r1, 1, none⟩))]) rfl (by kernel_rfl) ?_
        refine st_load (d := 61) (t := 26) (cs := _) (v := .int .i64 e87) (by kernel_rfl) (hr_91.sub 1) (by kernel_rfl) ?_
        by_cases h107 : e87 ≠ 0
        ·skip
         have hb108 : (e87 != 0) = true := by first | (rw [bne_iff_ne]; exact h107) | (rw [bne_eq_false_iff_eq]; omega)
         refine st_pure (l := [4, 5]) (rest := [6, 7, 8, 9, 10, 11, 12, 13, 14, 15, 16, 17, 18, 19, 20, 21, 22, 23, 24, 25, 26, 27, 28, 29, 30, 31, 32]) (L := [(62, .bool (e87 != 0)), (63, .bool true)]) rfl (Eq.trans (b := some [(62, .bool (e87 != 0)), (63, .bool (e87 != 0))]) (by kernel_rfl) (by simp only [hb108])) ?_
         refine st_pure (l := [6, 7, 8, 9, 10, 11, 12, 13, 14, 15, 16, 17, 18, 19, 20, 21, 22, 23, 24, 25, 26, 27, 28, 29, 30, 31, 32]) (rest := []) (L := [(64, undef), (65, undef), (66, .bool true), (67, .bool true), (68, undef), (69, undef), (70, undef), (71, undef), (72, .bool true), (73, .bool true), (74, undef), (75, undef), (76, undef), (77, undef), (78, undef), (79, undef), (80, undef), (81, undef), (82, undef), (83, undef), (84, undef), (85, undef), (86, undef), (87, undef), (88, undef), (89, undef), (90, .bool true)]) rfl (by kernel_rfl) ?_
         refine st_end ?_
         refine then_n ?_
         refine c_true (by kernel_rfl) ?_
         refine wp_seq ?_
         refine c_region (L := [0, 1]) (by kernel_rfl) ?_
         refine st_pure (l := [0, 1]) (rest := []) (L := [(2, .pointer none), (3, .int .i64 4)]) rfl (by kernel_rfl) ?_
         refine st_end ?_
         refine then_n ?_
         refine wp_ret ?_
         refine then_r ?_
         refine blk_r ?_
         refine then_r ?_
         refine then_r ?_
         refine blk_r ?_
         refine then_r ?_
         refine post_ret (v := .tuple #[.pointer none, .int .i64 4]) (by kernel_rfl) ?_
         refine .inr ?_
         refine ⟨?_, rfl, HM⟩
         ·rw [rread]
          try simp only [hsp18]
          try simp only [hsp30]
          try simp only [hsp46]
          try simp only [hsp60]
          rw [if_neg h66, if_neg h69, if_neg h72]
          have hq110 : rread_j1 x40 x54 l57 e58 = .inl (.inr ()) := by
            rw [rread_j1]
            rw [← hL76]
            rw [rread_l2, if_pos h79]
            try simp only [hsp89]
            try simp only [hsp98]
            have hq109 : rread_j3 x40 x54 e87 m95 d96 s7_2 s8_2 = .inl (.inr ()) := by
              rw [rread_j3, if_pos h107]
              all_goals (try rfl)
            simp only [hq109]
            all_goals (try rfl)
          simp only [hq110]
          all_goals (try rfl)
        ·skip
         have hb111 : (e87 != 0) = false := by rw [bne_eq_false_iff_eq]; exact Decidable.not_not.1 h107
         refine st_pure (l := [4, 5]) (rest := [6, 7, 8, 9, 10, 11, 12, 13, 14, 15, 16, 17, 18, 19, 20, 21, 22, 23, 24, 25, 26, 27, 28, 29, 30, 31, 32]) (L := [(62, .bool (e87 != 0)), (63, .bool false)]) rfl (Eq.trans (b := some [(62, .bool (e87 != 0)), (63, .bool (e87 != 0))]) (by kernel_rfl) (by simp only [hb111])) ?_
         by_cases h112 : d96 = true
         ·skip
          have hb113 : (d96) = true := by simpa using h112
          refine st_pure (l := [6]) (rest := [7, 8, 9, 10, 11, 12, 13, 14, 15, 16, 17, 18, 19, 20, 21, 22, 23, 24, 25, 26, 27, 28, 29, 30, 31, 32]) (L := [(64, .bool true)]) rfl (Eq.trans (b := some [(64, .bool d96)]) (by kernel_rfl) (by simp only [hb113])) ?_
          refine st_pure (l := [7, 8, 9, 10]) (rest := [11, 12, 13, 14, 15, 16, 17, 18, 19, 20, 21, 22, 23, 24, 25, 26, 27, 28, 29, 30, 31, 32]) (L := [(65, .bool false), (66, .bool false), (67, .bool false), (68, .pointer (some ⟨b101, 1, none⟩))]) rfl (by kernel_rfl) ?_
          refine st_load (d := 69) (t := 2) (cs := _) (v := .int .i64 m95.time.toInt) (by kernel_rfl) (hB104.sub 1) (by kernel_rfl) ?_
          by_cases h114 : m95.time.toInt < s7_2
          ·skip
           have hb115 : (decide (m95.time.toInt < s7_2)) = true := decide_eq_true h114
           refine st_pure (l := [12, 13, 14, 15]) (rest := [16, 17, 18, 19, 20, 21, 22, 23, 24, 25, 26, 27, 28, 29, 30, 31, 32]) (L := [(70, .int .i64 s7_2), (71, .bool (decide (m95.time.toInt < s7_2))), (72, .bool (decide (m95.time.toInt < s7_2))), (73, .bool true)]) rfl (Eq.trans (b := some [(70, .int .i64 s7_2), (71, .bool (decide (m95.time.toInt < s7_2))), (72, .bool (decide (m95.time.toInt < s7_2))), (73, .bool (decide (m95.time.toInt < s7_2)))]) (by kernel_rfl) (by simp only [hb115])) ?_
           refine st_pure (l := [16, 17, 18, 19, 20, 21, 22, 23, 24, 25, 26, 27, 28, 29, 30, 31, 32]) (rest := []) (L := [(74, undef), (75, undef), (76, undef), (77, undef), (78, undef), (79, undef), (80, undef), (81, undef), (82, undef), (83, undef), (84, undef), (85, undef), (86, undef), (87, undef), (88, undef), (89, undef), (90, .bool true)]) rfl (by kernel_rfl) ?_
           refine st_end ?_
           refine then_n ?_
           refine c_true (by kernel_rfl) ?_
           refine wp_seq ?_
           refine c_region (L := [0, 1]) (by kernel_rfl) ?_
           refine st_pure (l := [0, 1]) (rest := []) (L := [(2, .pointer none), (3, .int .i64 4)]) rfl (by kernel_rfl) ?_
           refine st_end ?_
           refine then_n ?_
           refine wp_ret ?_
           refine then_r ?_
           refine blk_r ?_
           refine then_r ?_
           refine then_r ?_
           refine blk_r ?_
           refine then_r ?_
           refine post_ret (v := .tuple #[.pointer none, .int .i64 4]) (by kernel_rfl) ?_
           refine .inr ?_
           refine ⟨?_, rfl, HM⟩
           ·rw [rread]
            try simp only [hsp18]
            try simp only [hsp30]
            try simp only [hsp46]
            try simp only [hsp60]
            rw [if_neg h66, if_neg h69, if_neg h72]
            have hq117 : rread_j1 x40 x54 l57 e58 = .inl (.inr ()) := by
              rw [rread_j1]
              rw [← hL76]
              rw [rread_l2, if_pos h79]
              try simp only [hsp89]
              try simp only [hsp98]
              have hq116 : rread_j3 x40 x54 e87 m95 d96 s7_2 s8_2 = .inl (.inr ()) := by
                rw [rread_j3, if_neg h107, if_pos h112, if_pos h114]
                all_goals (try rfl)
              simp only [hq116]
              all_goals (try rfl)
            simp only [hq117]
            all_goals (try rfl)
          ·skip
           have hb118 : (decide (m95.time.toInt < s7_2)) = false := decide_eq_false h114
           refine st_pure (l := [12, 13, 14, 15]) (rest := [16, 17, 18, 19, 20, 21, 22, 23, 24, 25, 26, 27, 28, 29, 30, 31, 32]) (L := [(70, .int .i64 s7_2), (71, .bool (decide (m95.time.toInt < s7_2))), (72, .bool (decide (m95.time.toInt < s7_2))), (73, .bool false)]) rfl (Eq.trans (b := some [(70, .int .i64 s7_2), (71, .bool (decide (m95.time.toInt < s7_2))), (72, .bool (decide (m95.time.toInt < s7_2))), (73, .bool (decide (m95.time.toInt < s7_2)))]) (by kernel_rfl) (by simp only [hb118])) ?_
           refine st_pure (l := [16]) (rest := [17, 18, 19, 20, 21, 22, 23, 24, 25, 26, 27, 28, 29, 30, 31, 32]) (L := [(74, .pointer (some ⟨b101, 0, none⟩))]) rfl (by kernel_rfl) ?_
           refine st_load (d := 75) (t := 3) (cs := _) (v := .int .i64 m95.kind.toInt) (by kernel_rfl) (hB104.sub 0) (by kernel_rfl) ?_
           by_cases h119 : m95.kind.toInt = 5
           ·skip
            have hb120 : (m95.kind.toInt == 5) = true := beq_iff_eq.2 h119
            refine st_pure (l := [18, 19]) (rest := [20, 21, 22, 23, 24, 25, 26, 27, 28, 29, 30, 31, 32]) (L := [(76, .bool (m95.kind.toInt == 5)), (77, .bool true)]) rfl (Eq.trans (b := some [(76, .bool (m95.kind.toInt == 5)), (77, .bool (m95.kind.toInt == 5))]) (by kernel_rfl) (by simp only [hb120])) ?_
            have hw121 : IntKind.wrap .i64 (x54 - 1) = x54 - 1 := wi64 (by omega) (by omega)
            refine st_pure (l := [20, 21, 22]) (rest := [23, 24, 25, 26, 27, 28, 29, 30, 31, 32]) (L := [(78, .int .i64 s8_2), (79, .int .i64 x54), (80, .int .i64 (x54 - 1))]) rfl (Eq.trans (b := some [(78, .int .i64 s8_2), (79, .int .i64 x54), (80, .int .i64 (IntKind.wrap .i64 (x54 - 1)))]) (by kernel_rfl) (by simp only [hw121])) ?_
            by_cases h122 : s8_2 < (x54 - 1)
            ·skip
             have hb123 : (decide (s8_2 < (x54 - 1))) = true := decide_eq_true h122
             refine st_pure (l := [23, 24]) (rest := [25, 26, 27, 28, 29, 30, 31, 32]) (L := [(81, .bool (decide (s8_2 < (x54 - 1)))), (82, .bool true)]) rfl (Eq.trans (b := some [(81, .bool (decide (s8_2 < (x54 - 1)))), (82, .bool (decide (s8_2 < (x54 - 1))))]) (by kernel_rfl) (by simp only [hb123])) ?_
             refine st_pure (l := [25, 26, 27, 28, 29, 30, 31, 32]) (rest := []) (L := [(83, undef), (84, undef), (85, undef), (86, undef), (87, undef), (88, .bool true), (89, .bool true), (90, .bool true)]) rfl (by kernel_rfl) ?_
             refine st_end ?_
             refine then_n ?_
             refine c_true (by kernel_rfl) ?_
             refine wp_seq ?_
             refine c_region (L := [0, 1]) (by kernel_rfl) ?_
             refine st_pure (l := [0, 1]) (rest := []) (L := [(2, .pointer none), (3, .int .i64 4)]) rfl (by kernel_rfl) ?_
             refine st_end ?_
             refine then_n ?_
             refine wp_ret ?_
             refine then_r ?_
             refine blk_r ?_
             refine then_r ?_
             refine then_r ?_
             refine blk_r ?_
             refine then_r ?_
             refine post_ret (v := .tuple #[.pointer none, .int .i64 4]) (by kernel_rfl) ?_
             refine .inr ?_
             refine ⟨?_, rfl, HM⟩
             ·rw [rread]
              try simp only [hsp18]
              try simp only [hsp30]
              try simp only [hsp46]
              try simp only [hsp60]
              rw [if_neg h66, if_neg h69, if_neg h72]
              have hq125 : rread_j1 x40 x54 l57 e58 = .inl (.inr ()) := by
                rw [rread_j1]
                rw [← hL76]
                rw [rread_l2, if_pos h79]
                try simp only [hsp89]
                try simp only [hsp98]
                have hq124 : rread_j3 x40 x54 e87 m95 d96 s7_2 s8_2 = .inl (.inr ()) := by
                  rw [rread_j3, if_neg h107, if_pos h112, if_neg h114, if_pos h119, if_pos h122]
                  all_goals (try rfl)
                simp only [hq124]
                all_goals (try rfl)
              simp only [hq125]
              all_goals (try rfl)
            ·skip
             have hb126 : (decide (s8_2 < (x54 - 1))) = false := decide_eq_false h122
             refine st_pure (l := [23, 24]) (rest := [25, 26, 27, 28, 29, 30, 31, 32]) (L := [(81, .bool (decide (s8_2 < (x54 - 1)))), (82, .bool false)]) rfl (Eq.trans (b := some [(81, .bool (decide (s8_2 < (x54 - 1)))), (82, .bool (decide (s8_2 < (x54 - 1))))]) (by kernel_rfl) (by simp only [hb126])) ?_
             refine st_pure (l := [25, 26, 27]) (rest := [28, 29, 30, 31, 32]) (L := [(83, .pointer (some ⟨b36, 0, none⟩)), (84, .pointer (some ⟨b36, 0, none⟩)), (85, .pointer (some ⟨b36, 3, none⟩))]) rfl (by kernel_rfl) ?_
             by_cases h127 : x40 = 1
             ·skip
              have hb128 : (x40 == 1) = true := beq_iff_eq.2 h127
              refine st_load (d := 86) (t := 4) (cs := _) (v := .bool true) (by kernel_rfl) (hB39.sub 3) (Eq.trans (b := some (.bool (x40 == 1))) (by kernel_rfl) (by rw [hb128])) ?_
              refine st_pure (l := [29, 30, 31, 32]) (rest := []) (L := [(87, .bool false), (88, .bool false), (89, .bool false), (90, .bool false)]) rfl (by kernel_rfl) ?_
              refine st_end ?_
              refine then_n ?_
              refine c_false (by kernel_rfl) ?_
              refine wp_skip ?_
              refine then_n ?_
              refine ⟨?_, Fr.mk (by kernel_rfl) (by kernel_rfl), HM, by omega, hl, hB39, hO_hB391_2, hR_hB391_2, hr_91, hR_92, hp_93, hB104, trivial⟩
              ·rw [rread_j3, if_neg h107, if_pos h112, if_neg h114, if_pos h119, if_neg h122, if_pos h127]
               all_goals (try rfl)
             ·skip
              have hb129 : (x40 == 1) = false := beq_eq_false_iff_ne.2 h127
              refine st_load (d := 86) (t := 4) (cs := _) (v := .bool false) (by kernel_rfl) (hB39.sub 3) (Eq.trans (b := some (.bool (x40 == 1))) (by kernel_rfl) (by rw [hb129])) ?_
              refine st_pure (l := [29, 30, 31, 32]) (rest := []) (L := [(87, .bool true), (88, .bool true), (89, .bool true), (90, .bool true)]) rfl (by kernel_rfl) ?_
              refine st_end ?_
              refine then_n ?_
              refine c_true (by kernel_rfl) ?_
              refine wp_seq ?_
              refine c_region (L := [0, 1]) (by kernel_rfl) ?_
              refine st_pure (l := [0, 1]) (rest := []) (L := [(2, .pointer none), (3, .int .i64 4)]) rfl (by kernel_rfl) ?_
              refine st_end ?_
              refine then_n ?_
              refine wp_ret ?_
              refine then_r ?_
              refine blk_r ?_
              refine then_r ?_
              refine then_r ?_
              refine blk_r ?_
              refine then_r ?_
              refine post_ret (v := .tuple #[.pointer none, .int .i64 4]) (by kernel_rfl) ?_
              refine .inr ?_
              refine ⟨?_, rfl, HM⟩
              ·rw [rread]
               try simp only [hsp18]
               try simp only [hsp30]
               try simp only [hsp46]
               try simp only [hsp60]
               rw [if_neg h66, if_neg h69, if_neg h72]
               have hq131 : rread_j1 x40 x54 l57 e58 = .inl (.inr ()) := by
                 rw [rread_j1]
                 rw [← hL76]
                 rw [rread_l2, if_pos h79]
                 try simp only [hsp89]
                 try simp only [hsp98]
                 have hq130 : rread_j3 x40 x54 e87 m95 d96 s7_2 s8_2 = .inl (.inr ()) := by
                   rw [rread_j3, if_neg h107, if_pos h112, if_neg h114, if_pos h119, if_neg h122, if_neg h127]
                   all_goals (try rfl)
                 simp only [hq130]
                 all_goals (try rfl)
               simp only [hq131]
               all_goals (try rfl)
           ·skip
            have hb132 : (m95.kind.toInt == 5) = false := beq_eq_false_iff_ne.2 h119
            refine st_pure (l := [18, 19]) (rest := [20, 21, 22, 23, 24, 25, 26, 27, 28, 29, 30, 31, 32]) (L := [(76, .bool (m95.kind.toInt == 5)), (77, .bool false)]) rfl (Eq.trans (b := some [(76, .bool (m95.kind.toInt == 5)), (77, .bool (m95.kind.toInt == 5))]) (by kernel_rfl) (by simp only [hb132])) ?_
            refine st_pure (l := [20, 21, 22, 23, 24, 25, 26, 27, 28, 29, 30, 31, 32]) (rest := []) (L := [(78, undef), (79, undef), (80, undef), (81, undef), (82, undef), (83, undef), (84, undef), (85, undef), (86, undef), (87, undef), (88, undef), (89, .bool false), (90, .bool false)]) rfl (by kernel_rfl) ?_
            refine st_end ?_
            refine then_n ?_
            refine c_false (by kernel_rfl) ?_
            refine wp_skip ?_
            refine then_n ?_
            refine ⟨?_, Fr.mk (by kernel_rfl) (by kernel_rfl), HM, by omega, hl, hB39, hO_hB391_2, hR_hB391_2, hr_91, hR_92, hp_93, hB104, trivial⟩
            ·rw [rread_j3, if_neg h107, if_pos h112, if_neg h114, if_neg h119]
             all_goals (try rfl)
         ·skip
          have hb133 : (d96) = false := by simpa using h112
          refine st_pure (l := [6]) (rest := [7, 8, 9, 10, 11, 12, 13, 14, 15, 16, 17, 18, 19, 20, 21, 22, 23, 24, 25, 26, 27, 28, 29, 30, 31, 32]) (L := [(64, .bool false)]) rfl (Eq.trans (b := some [(64, .bool d96)]) (by kernel_rfl) (by simp only [hb133])) ?_
          refine st_pure (l := [7, 8, 9, 10, 11, 12, 13, 14, 15, 16, 17, 18, 19, 20, 21, 22, 23, 24, 25, 26, 27, 28, 29, 30, 31, 32]) (rest := []) (L := [(65, .bool true), (66, .bool true), (67, .bool true), (68, undef), (69, undef), (70, undef), (71, undef), (72, .bool true), (73, .bool true), (74, undef), (75, undef), (76, undef), (77, undef), (78, undef), (79, undef), (80, undef), (81, undef), (82, undef), (83, undef), (84, undef), (85, undef), (86, undef), (87, undef), (88, undef), (89, undef), (90, .bool true)]) rfl (by kernel_rfl) ?_
          refine st_end ?_
          refine then_n ?_
          refine c_true (by kernel_rfl) ?_
          refine wp_seq ?_
          refine c_region (L := [0, 1]) (by kernel_rfl) ?_
          refine st_pure (l := [0, 1]) (rest := []) (L := [(2, .pointer none), (3, .int .i64 4)]) rfl (by kernel_rfl) ?_
          refine st_end ?_
          refine then_n ?_
          refine wp_ret ?_
          refine then_r ?_
          refine blk_r ?_
          refine then_r ?_
          refine then_r ?_
          refine blk_r ?_
          refine then_r ?_
          refine post_ret (v := .tuple #[.pointer none, .int .i64 4]) (by kernel_rfl) ?_
          refine .inr ?_
          refine ⟨?_, rfl, HM⟩
          ·rw [rread]
           try simp only [hsp18]
           try simp only [hsp30]
           try simp only [hsp46]
           try simp only [hsp60]
           rw [if_neg h66, if_neg h69, if_neg h72]
           have hq135 : rread_j1 x40 x54 l57 e58 = .inl (.inr ()) := by
             rw [rread_j1]
             rw [← hL76]
             rw [rread_l2, if_pos h79]
             try simp only [hsp89]
             try simp only [hsp98]
             have hq134 : rread_j3 x40 x54 e87 m95 d96 s7_2 s8_2 = .inl (.inr ()) := by
               rw [rread_j3, if_neg h107, if_neg h112]
               all_goals (try rfl)
             simp only [hq134]
             all_goals (try rfl)
           simp only [hq135]
           all_goals (try rfl)
       ·rintro a w136 ⟨hJ137, ⟨Tf, rfl⟩, HM', hszw136, hl', hB39', hO_hB391_2', hR_hB391_2', hr_91', hR_92', hp_93', hB104', -⟩
        clear HM hl hB39 hO_hB391_2 hR_hB391_2 hr_91 hR_92 hp_93 hB104
        have HM := HM'; clear HM'
        have hl := hl'; clear hl'
        have hB39 := hB39'; clear hB39'
        have hO_hB391_2 := hO_hB391_2'; clear hO_hB391_2'
        have hR_hB391_2 := hR_hB391_2'; clear hR_hB391_2'
        have hr_91 := hr_91'; clear hr_91'
        have hR_92 := hR_92'; clear hR_92'
        have hp_93 := hp_93'; clear hp_93'
        have hB104 := hB104'; clear hB104'
        have hl_l := hl.len
        have hO_hB391_2_b := hO_hB391_2.bounds
        have hR_hB391_2_l := hR_hB391_2.len
        have hR_92_l := hR_92.len
        have hp_93_l := hp_93.len
        refine wp_seq ?_
        refine c_region (L := [0, 1, 2]) (by kernel_rfl) ?_
        refine st_pure (l := [0]) (rest := [1, 2]) (L := [(91, .pointer (some ⟨b101, 1, none⟩))]) rfl (by kernel_rfl) ?_
        refine st_load (d := 92) (t := 2) (cs := _) (v := .int .i64 m95.time.toInt) (by kernel_rfl) (hB104.sub 1) (by kernel_rfl) ?_
        refine st_pure (l := [2]) (rest := []) (L := [(7, .int .i64 m95.time.toInt)]) rfl (by kernel_rfl) ?_
        refine st_end ?_
        refine then_n ?_
        refine c_drawS (fun k => Iv lohB391_2 hihB391_2 k) (fun k => Iv lohB391_2 hihB391_2 k ∨ k = b36) [0, 1, 2, 3, 4, 5, 8, 9] [4] 10 (by intro k h3; (try simp only [Iv] at h3 ⊢); omega) (by kernel_rfl) (n := 11) (by kernel_rfl) (by kernel_rfl) ?_
        intro w139 HGw139
        have hl_w139 := hl
        have hB39_w139 := hB39
        have hO_hB391_2_w139 := hO_hB391_2
        have hR_hB391_2_w139 := hR_hB391_2
        have hr_91_w139 := hr_91
        have hR_92_w139 := hR_92
        have hp_93_w139 := hp_93
        have hB104_w139 := hB104
        have HC140 : Mod (fun k => Iv lohB391_2 hihB391_2 k) w136 w139 := Mod.weaken HGw139 fun _ _ q => q.elim
        replace hl := hl.mod0 HGw139
        replace hB39 := hB39.mod HGw139 (fun q => q)
        replace hO_hB391_2 := hO_hB391_2.mod0 HGw139
        replace hR_hB391_2 := hR_hB391_2.mod0 HGw139
        replace hr_91 := hr_91.mod HGw139 (fun q => q)
        replace hR_92 := hR_92.mod0 HGw139
        replace hp_93 := hp_93.mod0 HGw139
        replace hB104 := hB104.mod HGw139 (fun q => q)
        replace HM := HM.tr0 HGw139
        have hszw139 := HGw139.size
        refine m_p (k := 0) (n := 4) (fuel := 7) (L := [(93, .pointer (some ⟨b36, 0, none⟩)), (94, .pointer (some ⟨b36, 0, none⟩)), (95, .pointer (some ⟨b36, 0, none⟩)), (96, .pointer (some ⟨b36, 1, none⟩))]) (by kernel_rfl) (by kernel_rfl) rfl ?_
        refine m_load (d := 97) (t := 45) (b := b36) (o := 1) (v := .slice AhB391_2 hB391_2.length chB391_2) (by kernel_rfl) (by kernel_rfl) (fun wQ (mQ : Mod (fun k => Iv lohB391_2 hihB391_2 k) w136 wQ) => (hB39_w139.mod mQ (by intro h3; (try simp only [Iv] at h3); omega)).sub 1) (by kernel_rfl) ?_
        refine m_load (d := 98) (t := 35) (b := b101) (o := 0) (v := .agg #[.int .i64 m95.kind.toInt, .int .i64 m95.time.toInt, .int .i64 m95.cls.toInt, .int .u8 (m95.high.toNat : Int), .int .i64 m95.bank.toInt, .int .i64 m95.place.toInt, .int .u8 (m95.value.toNat : Int)]) (by kernel_rfl) (by kernel_rfl) (fun wQ (mQ : Mod (fun k => Iv lohB391_2 hihB391_2 k ∨ k = b36) w136 wQ) => (hB104_w139.mod mQ (by intro h3; (try simp only [Iv] at h3); omega)).sub 0) (by kernel_rfl) ?_
        refine m_Q (by kernel_rfl) ?_
        refine st_new (d := 99) (e := 35) (C := [.int .i64 m95.kind.toInt, .int .i64 m95.time.toInt, .int .i64 m95.cls.toInt, .int .u8 (m95.high.toNat : Int), .int .i64 m95.bank.toInt, .int .i64 m95.place.toInt, .int .u8 (m95.value.toNat : Int)]) (V := fun r => .slice (some ⟨r, 0, none⟩) 1 1) (by kernel_rfl) ?_
        intro b141 w142 m143 lb141 ub141 hB144
        replace hl := hl.mod0 m143
        replace hB39 := hB39.mod m143 (fun q => q)
        replace hO_hB391_2 := hO_hB391_2.mod0 m143
        replace hR_hB391_2 := hR_hB391_2.mod0 m143
        replace hr_91 := hr_91.mod m143 (fun q => q)
        replace hR_92 := hR_92.mod0 m143
        replace hp_93 := hp_93.mod0 m143
        replace hB104 := hB104.mod m143 (fun q => q)
        replace HM := HM.tr0 m143
        have hszw142 := m143.size
        have HC145 := HC140.tr0 m143
        refine st_end (m_after HC145 ?_)
        refine m_Q (by kernel_rfl) ?_
        refine st_append2 (d := 100) (tn := 45) (e := 35) (ty := 45) (t := tyMsg) (v := .slice AhB391_2 hB391_2.length chB391_2) (A := some ⟨b141, 0, none⟩) (n := 1) (c := 1) (l := hB391_2) (m := [m95]) (z := .agg #[.int .i64 0, .int .i64 0, .int .i64 0, .int .u8 0, .int .i64 0, .int .i64 0, .int .u8 0]) (bytes := 56) (by kernel_rfl) Try.underlying45 (by kernel_rfl) rfl (by decide) hO_hB391_2 (Blk.rd (t := tyMsg) (l := [m95]) hB144 rfl (by simp) b141 (b141 + 1) (Nat.le_refl _) (by omega)) (by simp) (by simp only [List.length_append, List.length_cons, List.length_nil, List.length_take, List.length_drop] at *; omega) (by omega) (by intro h; cases h) ?_
        intro v146 w147 lo150 hi151 m148 hdis152 hO149
        clear hO_hB391_2
        clear hR_hB391_2
        clear hB144
        replace hl := hl.mod m148 (by intro k h1 h2 h3; (try simp only [Iv] at h3); omega)
        replace hB39 := hB39.mod m148 (by intro h3; (try simp only [Iv] at h3); omega)
        replace hr_91 := hr_91.mod m148 (by intro h3; (try simp only [Iv] at h3); omega)
        replace hR_92 := hR_92.mod m148 (by intro k h1 h2 h3; (try simp only [Iv] at h3); omega)
        replace hp_93 := hp_93.mod m148 (by intro k h1 h2 h3; (try simp only [Iv] at h3); omega)
        replace hB104 := hB104.mod m148 (by intro h3; (try simp only [Iv] at h3); omega)
        replace HM := HM.trans m148 (by intro k h1 h3; (try simp only [Iv] at h3 ⊢); omega)
        have hszw147 := m148.size
        have HC153 : Mod (fun k => Iv lohB391_2 hihB391_2 k) w136 _ := HC145.trans m148 (by intro k h1 h3; (try simp only [Iv] at h3 ⊢); omega)
        refine st_end (m_after HC153 ?_)
        obtain ⟨A154, c155, rfl, A154_c, A154_n, hR157⟩ := hO149.rd
        have hR157_l := hR157.len
        refine m_p (k := 8) (n := 2) (fuel := 1) (L := [(101, .pointer (some ⟨b36, 0, none⟩)), (102, .pointer (some ⟨b36, 1, none⟩))]) (by kernel_rfl) (by kernel_rfl) rfl ?_
        refine m_Q (by kernel_rfl) ?_
        refine st_store (t := 45) (v := .slice A154 ((hB391_2 ++ [m95]).length) c155) (o := 1) (C' := [.int .i64 x12, .slice A154 ((hB391_2 ++ [m95]).length) c155, .int .i64 x24, .bool (x40 == 1)]) (by kernel_rfl) hB39 (by kernel_rfl) ?_
        intro w158 m159 zm159 NhB39
        clear hB39; have hB39 := NhB39; clear NhB39
        replace hl := hl.mod m159 (by intro k h1 h2 h3; (try simp only [Iv] at h3); omega)
        replace hr_91 := hr_91.mod m159 (by intro h3; (try simp only [Iv] at h3); omega)
        replace hR_92 := hR_92.mod m159 (by intro k h1 h2 h3; (try simp only [Iv] at h3); omega)
        replace hp_93 := hp_93.mod m159 (by intro k h1 h2 h3; (try simp only [Iv] at h3); omega)
        replace hB104 := hB104.mod m159 (by intro h3; (try simp only [Iv] at h3); omega)
        replace hO149 := hO149.mod m159 (by intro k h1 h2 h3; (try simp only [Iv] at h3); omega)
        replace hR157 := hR157.mod m159 (by intro k h1 h2 h3; (try simp only [Iv] at h3); omega)
        replace HM := HM.trans m159 (by intro k h1 h3; (try simp only [Iv] at h3 ⊢); omega)
        have hszw158 := m159.size
        have HC160 : Mod (fun k => Iv lohB391_2 hihB391_2 k ∨ k = b36) w136 _ := (HC153.weaken (by intro k h1 h3; (try simp only [Iv] at h3 ⊢); omega)).trans m159 (by intro k h1 h3; (try simp only [Iv] at h3 ⊢); omega)
        refine st_end (m_after HC160 ?_)
        refine m_end ?_
        refine blk_n ?_
        refine then_n ?_
        refine c_region (L := [0, 1, 2]) (by kernel_rfl) ?_
        have hw161 : IntKind.wrap .i64 (s8_2 + 1) = s8_2 + 1 := wi64 (by omega) (by omega)
        refine st_pure (l := [0, 1]) (rest := [2]) (L := [(50, .int .i64 s8_2), (51, .int .i64 (s8_2 + 1))]) rfl (Eq.trans (b := some [(50, .int .i64 s8_2), (51, .int .i64 (IntKind.wrap .i64 (s8_2 + 1)))]) (by kernel_rfl) (by simp only [hw161])) ?_
        refine st_pure (l := [2]) (rest := []) (L := [(8, .int .i64 (s8_2 + 1))]) rfl (by kernel_rfl) ?_
        refine st_end ?_
        refine then_n ?_
        refine ⟨(k_2, m95.time.toInt, s8_2 + 1, A154, c155, hB391_2 ++ [m95], A84, c85, l86, e87, lo150, hi151), ⟨?_, by omega, Fr.mk (by kernel_rfl) (by kernel_rfl), HM, by omega, hl, hB39, hr_91, hO149, hR157, hR_92, ?_, ?_, ?_, ?_, ?_, ?_, ?_, ?_, ?_, trivial⟩, by dsimp only; omega⟩
        ·rw [← hL76]
         symm
         rw [rread_l2, if_pos h79]
         try simp only [hsp89]
         try simp only [hsp98]
         try simp only [hJ137]
         all_goals (try rfl)
        ·omega
        ·omega
        ·omega
        ·omega
        ·exact A154_n
        ·first | exact A154_c | omega
        ·exact A84_n
        ·first | exact A84_c | omega
        ·first | omega | (simp only [List.length_append, List.length_cons, List.length_nil, List.length_take, List.length_drop, List.length_set, List.length_replicate] at *; omega)
      ·skip
       have hb162 : (decide (s8_2 < x54)) = false := decide_eq_false h79
       refine st_pure (l := [0, 1, 2]) (rest := []) (L := [(47, .int .i64 s8_2), (48, .int .i64 x54), (49, .bool false)]) rfl (Eq.trans (b := some [(47, .int .i64 s8_2), (48, .int .i64 x54), (49, .bool (decide (s8_2 < x54)))]) (by kernel_rfl) (by simp only [hb162])) ?_
       refine st_end ?_
       refine then_n ?_
       refine c_false (by kernel_rfl) ?_
       refine wp_exit ?_
       refine then_x ?_
       refine then_x ?_
       refine blk_hit ?_
       refine then_n ?_
       refine ⟨s7_2, AhB391_2, chB391_2, hB391_2, Ahr_630_2, chr_630_2, hr_630_2, hr_631_2, lohB391_2, hihB391_2, ?_, Fr.mk (by kernel_rfl) (by kernel_rfl), HM, by omega, hl, hB39, hr_63, hO_hB391_2, hR_hB391_2, hR_hr_630_2, ?_, ?_, ?_, ?_, ?_, ?_, ?_, ?_, trivial⟩
       ·rw [rread_j1]
        rw [← hL76]
        rw [rread_l2, if_neg h79]
        all_goals (try rfl)
       ·omega
       ·omega
       ·omega
       ·exact AhB391_2_n
       ·first | exact AhB391_2_c | omega
       ·exact Ahr_630_2_n
       ·first | exact Ahr_630_2_c | omega
       ·first | omega | (simp only [List.length_append, List.length_cons, List.length_nil, List.length_take, List.length_drop, List.length_set, List.length_replicate] at *; omega)
    ·rintro a w163 ⟨s7_1, AhB391_1, chB391_1, hB391_1, Ahr_630_1, chr_630_1, hr_630_1, hr_631_1, lohB391_1, hihB391_1, hJ164, ⟨Tf, rfl⟩, HM', hszw163, hl', hB39', hr_63', hO_hB391_1', hR_hB391_1', hR_hr_630_1', s7_1_r, hr_631_1_r, hrg_hB391_1, AhB391_1_n, AhB391_1_c, Ahr_630_1_n, Ahr_630_1_c, hi1_1, -⟩
     clear HM hl hB39 hr_63 hR_64
     have HM := HM'; clear HM'
     have hl := hl'; clear hl'
     have hB39 := hB39'; clear hB39'
     have hr_63 := hr_63'; clear hr_63'
     have hO_hB391_1 := hO_hB391_1'; clear hO_hB391_1'
     have hR_hB391_1 := hR_hB391_1'; clear hR_hB391_1'
     have hR_hr_630_1 := hR_hr_630_1'; clear hR_hr_630_1'
     have hl_l := hl.len
     have hO_hB391_1_b := hO_hB391_1.bounds
     have hR_hB391_1_l := hR_hB391_1.len
     have hR_hr_630_1_l := hR_hr_630_1.len
     refine wp_seq ?_
     refine c_cut (J := fun a w' => ∃ hr_631_4 : Int, rread_j4 x24 x40 x54 s7_1 hB391_1 hr_630_1 hr_631_1 = .inr hr_631_4 ∧ Fr 136 [(5, .pointer (some ⟨b36, 0, none⟩))] a ∧ Mod (Nil) w w' ∧ w163.heap.size ≤ w'.heap.size ∧ RdA tyU8 w' lo hi A l ∧ Blk w' b36 47 [.int .i64 x12, .slice AhB391_1 hB391_1.length chB391_1, .int .i64 x24, .bool (x40 == 1)] ∧ Blk w' r1 165 [.slice Ahr_630_1 hr_630_1.length chr_630_1, .int .i64 hr_631_4] ∧ Own tyMsg 35 w' lohB391_1 hihB391_1 (.slice AhB391_1 hB391_1.length chB391_1) hB391_1 ∧ RdA tyMsg w' lohB391_1 hihB391_1 AhB391_1 hB391_1 ∧ RdA tyU8 w' lo4 hi5 Ahr_630_1 hr_630_1 ∧ (0 ≤ hr_631_4 ∧ hr_631_4 ≤ 0) ∧ True) ?_ ?_
     ·skip
      refine wp_seq ?_
      refine c_drawS (fun k => k = r1) (fun k => k = r1) [0, 2, 3, 4, 5, 6, 7, 8, 9, 10, 11, 12, 13, 14, 15, 16, 17, 18, 19, 20, 21, 22, 23, 24, 25, 26, 27, 28, 29, 30, 31] [] 0 (fun _ q => q) (by kernel_rfl) (n := 32) (by kernel_rfl) (by kernel_rfl) ?_
      intro w166 HGw166
      have hl_w166 := hl
      have hB39_w166 := hB39
      have hr_63_w166 := hr_63
      have hO_hB391_1_w166 := hO_hB391_1
      have hR_hB391_1_w166 := hR_hB391_1
      have hR_hr_630_1_w166 := hR_hr_630_1
      have HC167 : Mod (fun k => k = r1) w163 w166 := Mod.weaken HGw166 fun _ _ q => q.elim
      replace hl := hl.mod0 HGw166
      replace hB39 := hB39.mod HGw166 (fun q => q)
      replace hr_63 := hr_63.mod HGw166 (fun q => q)
      replace hO_hB391_1 := hO_hB391_1.mod0 HGw166
      replace hR_hB391_1 := hR_hB391_1.mod0 HGw166
      replace hR_hr_630_1 := hR_hr_630_1.mod0 HGw166
      replace HM := HM.tr0 HGw166
      have hszw166 := HGw166.size
      refine m_p (k := 0) (n := 1) (fuel := 31) (L := [(103, .pointer (some ⟨r1, 0, none⟩))]) (by kernel_rfl) (by kernel_rfl) rfl ?_
      refine m_Q (by kernel_rfl) ?_
      refine st_fn (d := 104) (f := 120) (xs := #[.pointer (some ⟨r1, 0, none⟩)]) (R := _) (by kernel_rfl) (ref_REnd (w := w166) (r := r1) (A := Ahr_630_1) (cA := chr_630_1) (l := hr_630_1) (e := hr_631_1) (hr := hr_63) (A_n := Ahr_630_1_n) (A_c := by first | exact Ahr_630_1_c | omega) (e_r := by omega)) ?_
      rintro vw169 w169 ⟨e168, hsp170, rfl, e168_r, hr_172, m173⟩
      clear hr_63
      replace hl := hl.mod m173 (by intro k h1 h2 h3; (try simp only [Iv] at h3); omega)
      replace hB39 := hB39.mod m173 (by intro h3; (try simp only [Iv] at h3); omega)
      replace hO_hB391_1 := hO_hB391_1.mod m173 (by intro k h1 h2 h3; (try simp only [Iv] at h3); omega)
      replace hR_hB391_1 := hR_hB391_1.mod m173 (by intro k h1 h2 h3; (try simp only [Iv] at h3); omega)
      replace hR_hr_630_1 := hR_hr_630_1.mod m173 (by intro k h1 h2 h3; (try simp only [Iv] at h3); omega)
      replace HM := HM.trans m173 (by intro k h1 h3; (try simp only [Iv] at h3 ⊢); omega)
      have hszw169 := m173.size
      have HC174 : Mod (fun k => k = r1) w163 _ := HC167.trans m173 (by intro k h1 h3; (try simp only [Iv] at h3 ⊢); omega)
      have lt_hr_172 := hr_172.lt
      refine st_end (m_after HC174 ?_)
      by_cases h175 : e168 ≠ 0
      ·skip
       have hb176 : (e168 != 0) = true := by first | (rw [bne_iff_ne]; exact h175) | (rw [bne_eq_false_iff_eq]; omega)
       refine m_p (k := 2) (n := 2) (fuel := 28) (L := [(105, .bool (e168 != 0)), (106, .bool true)]) (by kernel_rfl) (Eq.trans (b := some [(105, .bool (e168 != 0)), (106, .bool (e168 != 0))]) (by kernel_rfl) (by simp only [hb176])) rfl ?_
       refine m_p (k := 4) (n := 28) (fuel := 0) (L := [(107, undef), (108, undef), (109, undef), (110, undef), (111, undef), (112, undef), (113, undef), (114, undef), (115, undef), (116, undef), (117, undef), (118, undef), (119, undef), (120, undef), (121, undef), (122, undef), (123, undef), (124, undef), (125, undef), (126, undef), (127, undef), (128, undef), (129, undef), (130, undef), (131, undef), (132, undef), (133, undef), (134, .bool true)]) (by kernel_rfl) (by kernel_rfl) rfl ?_
       refine m_end ?_
       refine then_n ?_
       refine c_true (by kernel_rfl) ?_
       refine wp_seq ?_
       refine c_region (L := [0, 1]) (by kernel_rfl) ?_
       refine st_pure (l := [0, 1]) (rest := []) (L := [(2, .pointer none), (3, .int .i64 4)]) rfl (by kernel_rfl) ?_
       refine st_end ?_
       refine then_n ?_
       refine wp_ret ?_
       refine then_r ?_
       refine post_ret (v := .tuple #[.pointer none, .int .i64 4]) (by kernel_rfl) ?_
       refine .inr ?_
       refine ⟨?_, rfl, HM⟩
       ·rw [rread]
        try simp only [hsp18]
        try simp only [hsp30]
        try simp only [hsp46]
        try simp only [hsp60]
        rw [if_neg h66, if_neg h69, if_neg h72]
        try simp only [hJ164]
        have hq177 : rread_j4 x24 x40 x54 s7_1 hB391_1 hr_630_1 hr_631_1 = .inl (.inr ()) := by
          rw [rread_j4]
          try simp only [hsp170]
          rw [if_pos h175]
          all_goals (try rfl)
        simp only [hq177]
        all_goals (try rfl)
      ·skip
       have hb178 : (e168 != 0) = false := by rw [bne_eq_false_iff_eq]; exact Decidable.not_not.1 h175
       refine m_p (k := 2) (n := 2) (fuel := 28) (L := [(105, .bool (e168 != 0)), (106, .bool false)]) (by kernel_rfl) (Eq.trans (b := some [(105, .bool (e168 != 0)), (106, .bool (e168 != 0))]) (by kernel_rfl) (by simp only [hb178])) rfl ?_
       by_cases h179 : x54 > 0
       ·skip
        have hb180 : (decide (x54 > 0)) = true := decide_eq_true h179
        refine m_p (k := 4) (n := 3) (fuel := 25) (L := [(107, .int .i64 x54), (108, .bool (decide (x54 > 0))), (109, .bool true)]) (by kernel_rfl) (Eq.trans (b := some [(107, .int .i64 x54), (108, .bool (decide (x54 > 0))), (109, .bool (decide (x54 > 0)))]) (by kernel_rfl) (by simp only [hb180])) rfl ?_
        refine m_p (k := 7) (n := 4) (fuel := 21) (L := [(110, .int .i64 s7_1), (111, .pointer (some ⟨b36, 0, none⟩)), (112, .pointer (some ⟨b36, 0, none⟩)), (113, .pointer (some ⟨b36, 2, none⟩))]) (by kernel_rfl) (by kernel_rfl) rfl ?_
        refine m_load (d := 114) (t := 2) (b := b36) (o := 2) (v := .int .i64 x24) (by kernel_rfl) (by kernel_rfl) (fun wQ (mQ : Mod (fun k => k = r1) w163 wQ) => (hB39_w166.mod mQ (by intro h3; (try simp only [Iv] at h3); omega)).sub 2) (by kernel_rfl) ?_
        by_cases h181 : s7_1 ≠ x24
        ·skip
         have hb182 : (s7_1 != x24) = true := by first | (rw [bne_iff_ne]; exact h181) | (rw [bne_eq_false_iff_eq]; omega)
         refine m_p (k := 12) (n := 2) (fuel := 18) (L := [(115, .bool (s7_1 != x24)), (116, .bool true)]) (by kernel_rfl) (Eq.trans (b := some [(115, .bool (s7_1 != x24)), (116, .bool (s7_1 != x24))]) (by kernel_rfl) (by simp only [hb182])) rfl ?_
         refine m_p (k := 14) (n := 18) (fuel := 0) (L := [(117, undef), (118, undef), (119, undef), (120, undef), (121, undef), (122, undef), (123, undef), (124, undef), (125, undef), (126, undef), (127, undef), (128, undef), (129, undef), (130, undef), (131, undef), (132, .bool true), (133, .bool true), (134, .bool true)]) (by kernel_rfl) (by kernel_rfl) rfl ?_
         refine m_end ?_
         refine then_n ?_
         refine c_true (by kernel_rfl) ?_
         refine wp_seq ?_
         refine c_region (L := [0, 1]) (by kernel_rfl) ?_
         refine st_pure (l := [0, 1]) (rest := []) (L := [(2, .pointer none), (3, .int .i64 4)]) rfl (by kernel_rfl) ?_
         refine st_end ?_
         refine then_n ?_
         refine wp_ret ?_
         refine then_r ?_
         refine post_ret (v := .tuple #[.pointer none, .int .i64 4]) (by kernel_rfl) ?_
         refine .inr ?_
         refine ⟨?_, rfl, HM⟩
         ·rw [rread]
          try simp only [hsp18]
          try simp only [hsp30]
          try simp only [hsp46]
          try simp only [hsp60]
          rw [if_neg h66, if_neg h69, if_neg h72]
          try simp only [hJ164]
          have hq183 : rread_j4 x24 x40 x54 s7_1 hB391_1 hr_630_1 hr_631_1 = .inl (.inr ()) := by
            rw [rread_j4]
            try simp only [hsp170]
            rw [if_neg h175, if_pos h179, if_pos h181]
            all_goals (try rfl)
          simp only [hq183]
          all_goals (try rfl)
        ·skip
         have hb184 : (s7_1 != x24) = false := by rw [bne_eq_false_iff_eq]; exact Decidable.not_not.1 h181
         refine m_p (k := 12) (n := 2) (fuel := 18) (L := [(115, .bool (s7_1 != x24)), (116, .bool false)]) (by kernel_rfl) (Eq.trans (b := some [(115, .bool (s7_1 != x24)), (116, .bool (s7_1 != x24))]) (by kernel_rfl) (by simp only [hb184])) rfl ?_
         refine m_p (k := 14) (n := 3) (fuel := 15) (L := [(117, .pointer (some ⟨b36, 0, none⟩)), (118, .pointer (some ⟨b36, 0, none⟩)), (119, .pointer (some ⟨b36, 1, none⟩))]) (by kernel_rfl) (by kernel_rfl) rfl ?_
         refine m_load (d := 120) (t := 45) (b := b36) (o := 1) (v := .slice AhB391_1 hB391_1.length chB391_1) (by kernel_rfl) (by kernel_rfl) (fun wQ (mQ : Mod (fun k => k = r1) w163 wQ) => (hB39_w166.mod mQ (by intro h3; (try simp only [Iv] at h3); omega)).sub 1) (by kernel_rfl) ?_
         have hw185 : IntKind.wrap .i64 (x54 - 1) = x54 - 1 := wi64 (by omega) (by omega)
         refine m_p (k := 18) (n := 2) (fuel := 12) (L := [(121, .int .i64 x54), (122, .int .i64 (x54 - 1))]) (by kernel_rfl) (Eq.trans (b := some [(121, .int .i64 x54), (122, .int .i64 (IntKind.wrap .i64 (x54 - 1)))]) (by kernel_rfl) (by simp only [hw185])) rfl ?_
         have hi189 : (x54 - 1).toNat < (hB391_1).length := by omega
         obtain ⟨b186, o187, ehA188, lhA188, uhA188, hA188⟩ := hR_hB391_1_w166.get hi189
         obtain ⟨x190, ex190⟩ : ∃ y, y = (hB391_1)[(x54 - 1).toNat] := ⟨_, rfl⟩
         rw [← ex190] at hA188
         have dx190 := getD_of (d := Msg.zero) hi189 ex190
         have hrx190_0 := i64_lo x190.kind
         have hrx190_1 := i64_lo x190.time
         have hrx190_2 := i64_lo x190.cls
         have hrx190_4 := i64_lo x190.bank
         have hrx190_5 := i64_lo x190.place
         have hsx190_0 := i64_hi x190.kind
         have hsx190_1 := i64_hi x190.time
         have hsx190_2 := i64_hi x190.cls
         have hsx190_3 := u8_hi x190.high
         have hsx190_4 := i64_hi x190.bank
         have hsx190_5 := i64_hi x190.place
         have hsx190_6 := u8_hi x190.value
         refine m_index (d := 123) (tn := 45) (n := hB391_1.length) (c := chB391_1) (ix := x54 - 1) (kd := .i64) (e := 35) (t := tyMsg) (b := b186) (by kernel_rfl) (by kernel_rfl) Try.underlying45 (by kernel_rfl) ehA188 (by omega) (by omega) ?_
         refine m_p (k := 21) (n := 1) (fuel := 10) (L := [(124, .pointer (some ⟨b186, o187 + (x54 - 1).toNat * 7, none⟩))]) (by kernel_rfl) (by kernel_rfl) rfl ?_
         refine m_load (d := 125) (t := 3) (b := b186) (o := o187 + (x54 - 1).toNat * 7) (v := .int .i64 x190.kind.toInt) (by kernel_rfl) (by kernel_rfl) (fun wQ (mQ : Mod (fun k => k = r1) w163 wQ) => (hA188.mod mQ (by intro h3; (try simp only [Iv] at h3); omega)).dropk 0) (by kernel_rfl) ?_
         by_cases h191 : x190.kind.toInt = 5
         ·skip
          have hb192 : (x190.kind.toInt == 5) = true := beq_iff_eq.2 h191
          refine m_p (k := 23) (n := 1) (fuel := 8) (L := [(126, .bool true)]) (by kernel_rfl) (Eq.trans (b := some [(126, .bool (x190.kind.toInt == 5))]) (by kernel_rfl) (by simp only [hb192])) rfl ?_
          refine m_p (k := 24) (n := 3) (fuel := 5) (L := [(127, .pointer (some ⟨b36, 0, none⟩)), (128, .pointer (some ⟨b36, 0, none⟩)), (129, .pointer (some ⟨b36, 3, none⟩))]) (by kernel_rfl) (by kernel_rfl) rfl ?_
          by_cases h193 : x40 = 1
          ·skip
           have hb194 : (x40 == 1) = true := beq_iff_eq.2 h193
           refine m_load (d := 130) (t := 4) (b := b36) (o := 3) (v := .bool true) (by kernel_rfl) (by kernel_rfl) (fun wQ (mQ : Mod (fun k => k = r1) w163 wQ) => (hB39_w166.mod mQ (by intro h3; (try simp only [Iv] at h3); omega)).sub 3) (Eq.trans (b := some (.bool (x40 == 1))) (by kernel_rfl) (by rw [hb194])) ?_
           refine m_p (k := 28) (n := 4) (fuel := 0) (L := [(131, .bool false), (132, .bool false), (133, .bool false), (134, .bool false)]) (by kernel_rfl) (by kernel_rfl) rfl ?_
           refine m_end ?_
           clear hA188
           refine then_n ?_
           refine c_false (by kernel_rfl) ?_
           refine wp_skip ?_
           refine then_n ?_
           refine ⟨e168, ?_, Fr.mk (by kernel_rfl) (by kernel_rfl), HM, by omega, hl, hB39, hr_172, hO_hB391_1, hR_hB391_1, hR_hr_630_1, ?_, trivial⟩
           ·rw [rread_j4]
            try simp only [hsp170]
            rw [if_neg h175, if_pos h179, if_neg h181]
            try simp only [dx190]
            rw [if_pos h191, if_pos h193]
            all_goals (try rfl)
           ·omega
          ·skip
           have hb195 : (x40 == 1) = false := beq_eq_false_iff_ne.2 h193
           refine m_load (d := 130) (t := 4) (b := b36) (o := 3) (v := .bool false) (by kernel_rfl) (by kernel_rfl) (fun wQ (mQ : Mod (fun k => k = r1) w163 wQ) => (hB39_w166.mod mQ (by intro h3; (try simp only [Iv] at h3); omega)).sub 3) (Eq.trans (b := some (.bool (x40 == 1))) (by kernel_rfl) (by rw [hb195])) ?_
           refine m_p (k := 28) (n := 4) (fuel := 0) (L := [(131, .bool true), (132, .bool true), (133, .bool true), (134, .bool true)]) (by kernel_rfl) (by kernel_rfl) rfl ?_
           refine m_end ?_
           clear hA188
           refine then_n ?_
           refine c_true (by kernel_rfl) ?_
           refine wp_seq ?_
           refine c_region (L := [0, 1]) (by kernel_rfl) ?_
           refine st_pure (l := [0, 1]) (rest := []) (L := [(2, .pointer none), (3, .int .i64 4)]) rfl (by kernel_rfl) ?_
           refine st_end ?_
           refine then_n ?_
           refine wp_ret ?_
           refine then_r ?_
           refine post_ret (v := .tuple #[.pointer none, .int .i64 4]) (by kernel_rfl) ?_
           refine .inr ?_
           refine ⟨?_, rfl, HM⟩
           ·rw [rread]
            try simp only [hsp18]
            try simp only [hsp30]
            try simp only [hsp46]
            try simp only [hsp60]
            rw [if_neg h66, if_neg h69, if_neg h72]
            try simp only [hJ164]
            have hq196 : rread_j4 x24 x40 x54 s7_1 hB391_1 hr_630_1 hr_631_1 = .inl (.inr ()) := by
              rw [rread_j4]
              try simp only [hsp170]
              rw [if_neg h175, if_pos h179, if_neg h181]
              try simp only [dx190]
              rw [if_pos h191, if_neg h193]
              all_goals (try rfl)
            simp only [hq196]
            all_goals (try rfl)
         ·skip
          have hb197 : (x190.kind.toInt == 5) = false := beq_eq_false_iff_ne.2 h191
          refine m_p (k := 23) (n := 1) (fuel := 8) (L := [(126, .bool false)]) (by kernel_rfl) (Eq.trans (b := some [(126, .bool (x190.kind.toInt == 5))]) (by kernel_rfl) (by simp only [hb197])) rfl ?_
          refine m_p (k := 24) (n := 3) (fuel := 5) (L := [(127, .pointer (some ⟨b36, 0, none⟩)), (128, .pointer (some ⟨b36, 0, none⟩)), (129, .pointer (some ⟨b36, 3, none⟩))]) (by kernel_rfl) (by kernel_rfl) rfl ?_
          by_cases h198 : x40 = 1
          ·skip
           have hb199 : (x40 == 1) = true := beq_iff_eq.2 h198
           refine m_load (d := 130) (t := 4) (b := b36) (o := 3) (v := .bool true) (by kernel_rfl) (by kernel_rfl) (fun wQ (mQ : Mod (fun k => k = r1) w163 wQ) => (hB39_w166.mod mQ (by intro h3; (try simp only [Iv] at h3); omega)).sub 3) (Eq.trans (b := some (.bool (x40 == 1))) (by kernel_rfl) (by rw [hb199])) ?_
           refine m_p (k := 28) (n := 4) (fuel := 0) (L := [(131, .bool true), (132, .bool true), (133, .bool true), (134, .bool true)]) (by kernel_rfl) (by kernel_rfl) rfl ?_
           refine m_end ?_
           clear hA188
           refine then_n ?_
           refine c_true (by kernel_rfl) ?_
           refine wp_seq ?_
           refine c_region (L := [0, 1]) (by kernel_rfl) ?_
           refine st_pure (l := [0, 1]) (rest := []) (L := [(2, .pointer none), (3, .int .i64 4)]) rfl (by kernel_rfl) ?_
           refine st_end ?_
           refine then_n ?_
           refine wp_ret ?_
           refine then_r ?_
           refine post_ret (v := .tuple #[.pointer none, .int .i64 4]) (by kernel_rfl) ?_
           refine .inr ?_
           refine ⟨?_, rfl, HM⟩
           ·rw [rread]
            try simp only [hsp18]
            try simp only [hsp30]
            try simp only [hsp46]
            try simp only [hsp60]
            rw [if_neg h66, if_neg h69, if_neg h72]
            try simp only [hJ164]
            have hq200 : rread_j4 x24 x40 x54 s7_1 hB391_1 hr_630_1 hr_631_1 = .inl (.inr ()) := by
              rw [rread_j4]
              try simp only [hsp170]
              rw [if_neg h175, if_pos h179, if_neg h181]
              try simp only [dx190]
              rw [if_neg h191, if_pos h198]
              all_goals (try rfl)
            simp only [hq200]
            all_goals (try rfl)
          ·skip
           have hb201 : (x40 == 1) = false := beq_eq_false_iff_ne.2 h198
           refine m_load (d := 130) (t := 4) (b := b36) (o := 3) (v := .bool false) (by kernel_rfl) (by kernel_rfl) (fun wQ (mQ : Mod (fun k => k = r1) w163 wQ) => (hB39_w166.mod mQ (by intro h3; (try simp only [Iv] at h3); omega)).sub 3) (Eq.trans (b := some (.bool (x40 == 1))) (by kernel_rfl) (by rw [hb201])) ?_
           refine m_p (k := 28) (n := 4) (fuel := 0) (L := [(131, .bool false), (132, .bool false), (133, .bool false), (134, .bool false)]) (by kernel_rfl) (by kernel_rfl) rfl ?_
           refine m_end ?_
           clear hA188
           refine then_n ?_
           refine c_false (by kernel_rfl) ?_
           refine wp_skip ?_
           refine then_n ?_
           refine ⟨e168, ?_, Fr.mk (by kernel_rfl) (by kernel_rfl), HM, by omega, hl, hB39, hr_172, hO_hB391_1, hR_hB391_1, hR_hr_630_1, ?_, trivial⟩
           ·rw [rread_j4]
            try simp only [hsp170]
            rw [if_neg h175, if_pos h179, if_neg h181]
            try simp only [dx190]
            rw [if_neg h191, if_neg h198]
            all_goals (try rfl)
           ·omega
       ·skip
        have hb202 : (decide (x54 > 0)) = false := decide_eq_false h179
        refine m_p (k := 4) (n := 3) (fuel := 25) (L := [(107, .int .i64 x54), (108, .bool (decide (x54 > 0))), (109, .bool false)]) (by kernel_rfl) (Eq.trans (b := some [(107, .int .i64 x54), (108, .bool (decide (x54 > 0))), (109, .bool (decide (x54 > 0)))]) (by kernel_rfl) (by simp only [hb202])) rfl ?_
        refine m_p (k := 7) (n := 25) (fuel := 0) (L := [(110, undef), (111, undef), (112, undef), (113, undef), (114, undef), (115, undef), (116, undef), (117, undef), (118, undef), (119, undef), (120, undef), (121, undef), (122, undef), (123, undef), (124, undef), (125, undef), (126, undef), (127, undef), (128, undef), (129, undef), (130, undef), (131, undef), (132, undef), (133, .bool false), (134, .bool false)]) (by kernel_rfl) (by kernel_rfl) rfl ?_
        refine m_end ?_
        refine then_n ?_
        refine c_false (by kernel_rfl) ?_
        refine wp_skip ?_
        refine then_n ?_
        refine ⟨e168, ?_, Fr.mk (by kernel_rfl) (by kernel_rfl), HM, by omega, hl, hB39, hr_172, hO_hB391_1, hR_hB391_1, hR_hr_630_1, ?_, trivial⟩
        ·rw [rread_j4]
         try simp only [hsp170]
         rw [if_neg h175, if_neg h179]
         all_goals (try rfl)
        ·omega
     ·rintro a w203 ⟨hr_631_4, hJ204, ⟨Tf, rfl⟩, HM', hszw203, hl', hB39', hr_63', hO_hB391_1', hR_hB391_1', hR_hr_630_1', hr_631_4_r, -⟩
      clear HM hl hB39 hr_63 hO_hB391_1 hR_hB391_1 hR_hr_630_1
      have HM := HM'; clear HM'
      have hl := hl'; clear hl'
      have hB39 := hB39'; clear hB39'
      have hr_63 := hr_63'; clear hr_63'
      have hO_hB391_1 := hO_hB391_1'; clear hO_hB391_1'
      have hR_hB391_1 := hR_hB391_1'; clear hR_hB391_1'
      have hR_hr_630_1 := hR_hr_630_1'; clear hR_hr_630_1'
      have hl_l := hl.len
      have hO_hB391_1_b := hO_hB391_1.bounds
      have hR_hB391_1_l := hR_hB391_1.len
      have hR_hr_630_1_l := hR_hr_630_1.len
      refine wp_seq ?_
      refine c_region (L := [0, 1, 2]) (by kernel_rfl) ?_
      refine st_pure (l := [0, 1, 2]) (rest := []) (L := [(135, .pointer (some ⟨b36, 0, none⟩)), (2, .pointer (some ⟨b36, 0, none⟩)), (3, .int .i64 0)]) rfl (by kernel_rfl) ?_
      refine st_end ?_
      refine then_n ?_
      refine wp_ret ?_
      refine post_ret (v := .tuple #[.pointer (some ⟨b36, 0, none⟩), .int .i64 0]) (by kernel_rfl) ?_
      refine .inl ?_
      refine ⟨b36, AhB391_1, chB391_1, x12, hB391_1, x24, x40 == 1, lohB391_1, hihB391_1, ?_, rfl, ?_, ?_, ?_, ?_, ?_, ?_, hB39, hO_hB391_1, HM⟩
      ·rw [rread]
       try simp only [hsp18]
       try simp only [hsp30]
       try simp only [hsp46]
       try simp only [hsp60]
       rw [if_neg h66, if_neg h69, if_neg h72]
       try simp only [hJ164]
       try simp only [hJ204]
       all_goals (try rfl)
      ·omega
      ·exact AhB391_1_n
      ·first | exact AhB391_1_c | omega
      ·omega
      ·omega
      ·omega

end Go.Proofs.Ytjkapifbinmjhaa
