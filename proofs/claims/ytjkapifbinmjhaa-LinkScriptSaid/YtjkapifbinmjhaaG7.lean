import Derived.Test.YtjkapifbinmjhaaG6
import Derived.Test.YtjkapifbinmjhaaVxG
namespace Go.Proofs.Ytjkapifbinmjhaa
open Go.Vx Go.RowKit
set_option linter.unusedVariables false
set_option linter.unusedSimpArgs false
set_option maxRecDepth 100000
set_option maxHeartbeats 4000000
def kmsgs_l2 (l : List Msg) (m : List Msg) : Nat → Int → (Bool) ⊕ (Unit)
 | 0, _ => default
 | k_2 + 1, s5_2 =>
  if s5_2 < (l.length : Int) then
   match l.getD s5_2.toNat Msg.zero with
   | x17 =>
    match m.getD s5_2.toNat Msg.zero with
    | x23 =>
     if ¬ (x17 = x23) then
      .inl false
     else
      kmsgs_l2 l m k_2 (s5_2 + 1)
  else
   .inr ()

def kmsgs_j1 (l : List Msg) (m : List Msg) : (Bool) ⊕ (Unit) :=
  kmsgs_l2 l m (((l.length : Int) - 0).toNat + 1) 0

def kmsgs (l : List Msg) (m : List Msg) : Bool :=
  if (l.length : Int) ≠ (m.length : Int) then
   false
  else
   match kmsgs_j1 l m with
   | .inr () =>
    true
   | .inl o => o

theorem kMsgs_ok {w : World} {A : Option Addr} {cA : Nat} {l : List Msg} {lo : Nat} {hi : Nat} {B : Option Addr} {cB : Nat} {m : List Msg} {lo' : Nat} {hi' : Nat} (hl : RdA tyMsg w lo hi A l) (hm : RdA tyMsg w lo' hi' B m) (A_n : A = none → cA = 0) (A_c : l.length ≤ cA) (B_n : B = none → cB = 0) (B_c : m.length ≤ cB) (hl_hi : hi ≤ w.heap.size) (hm_hi : hi' ≤ w.heap.size) :
  Ret Try.prog 35 #[.slice A l.length cA, .slice B m.length cB] w fun v w' => ∃ d : Bool, kmsgs l m = d ∧ v = .bool d ∧ Mod (Nil) w w' := by
 have hl_l := hl.len
 have hm_l := hm.len
 have HM : Mod (Nil) w w := Mod.refl _ w
 refine ret_of Try.func35 rfl rfl ?_
 refine wp_seq ?_
 refine c_region (L := [0]) (by kernel_rfl) ?_
 refine st_pure (l := [0]) (rest := []) (L := [(4, .bool false)]) rfl (by kernel_rfl) ?_
 refine st_end ?_
 refine then_n ?_
 refine wp_seq ?_
 refine wp_seq ?_
 refine c_region (L := [0, 1, 2, 3, 4]) (by kernel_rfl) ?_
 by_cases h1 : (l.length : Int) ≠ (m.length : Int)
 ·skip
  have hb2 : ((l.length : Int) != (m.length : Int)) = true := by first | (rw [bne_iff_ne]; exact h1) | (rw [bne_eq_false_iff_eq]; omega)
  refine st_pure (l := [0, 1, 2, 3, 4]) (rest := []) (L := [(6, .slice A l.length cA), (7, .int .i64 (l.length : Int)), (8, .slice B m.length cB), (9, .int .i64 (m.length : Int)), (10, .bool true)]) rfl (Eq.trans (b := some [(6, .slice A l.length cA), (7, .int .i64 (l.length : Int)), (8, .slice B m.length cB), (9, .int .i64 (m.length : Int)), (10, .bool ((l.length : Int) != (m.length : Int)))]) (by kernel_rfl) (by simp only [hb2])) ?_
  refine st_end ?_
  refine then_n ?_
  refine c_true (by kernel_rfl) ?_
  refine wp_seq ?_
  refine c_region (L := [0]) (by kernel_rfl) ?_
  refine st_pure (l := [0]) (rest := []) (L := [(4, .bool false)]) rfl (by kernel_rfl) ?_
  refine st_end ?_
  refine then_n ?_
  refine wp_ret ?_
  refine then_r ?_
  refine post_ret (v := .bool false) (by kernel_rfl) ?_
  refine ⟨false, ?_, rfl, HM⟩
  ·rw [kmsgs, if_pos h1]
   all_goals (try rfl)
 ·skip
  have hb3 : ((l.length : Int) != (m.length : Int)) = false := by rw [bne_eq_false_iff_eq]; exact Decidable.not_not.1 h1
  refine st_pure (l := [0, 1, 2, 3, 4]) (rest := []) (L := [(6, .slice A l.length cA), (7, .int .i64 (l.length : Int)), (8, .slice B m.length cB), (9, .int .i64 (m.length : Int)), (10, .bool false)]) rfl (Eq.trans (b := some [(6, .slice A l.length cA), (7, .int .i64 (l.length : Int)), (8, .slice B m.length cB), (9, .int .i64 (m.length : Int)), (10, .bool ((l.length : Int) != (m.length : Int)))]) (by kernel_rfl) (by simp only [hb3])) ?_
  refine st_end ?_
  refine then_n ?_
  refine c_false (by kernel_rfl) ?_
  refine wp_skip ?_
  refine then_n ?_
  refine wp_seq ?_
  refine c_cut (J := fun a w' => kmsgs_j1 l m = .inr () ∧ Fr 26 [] a ∧ Mod (Nil) w w' ∧ w.heap.size ≤ w'.heap.size ∧ RdA tyMsg w' lo hi A l ∧ RdA tyMsg w' lo' hi' B m ∧ True) ?_ ?_
  ·skip
   refine wp_seq ?_
   refine c_region (L := [0]) (by kernel_rfl) ?_
   refine st_pure (l := [0]) (rest := []) (L := [(5, .int .i64 0)]) rfl (by kernel_rfl) ?_
   refine st_end ?_
   refine then_n ?_
   refine wp_block ?_
   refine c_loop (σ := Nat × Int) (fun s a w' => match s with | ⟨k_2, s5_2⟩ => kmsgs_l2 l m k_2 s5_2 = kmsgs_l2 l m (((l.length : Int) - 0).toNat + 1) 0 ∧ ((l.length : Int) - s5_2).toNat < k_2 ∧ Fr 26 [(0, .slice A l.length cA), (1, .slice B m.length cB), (5, .int .i64 s5_2)] a ∧ Mod (Nil) w w' ∧ w.heap.size ≤ w'.heap.size ∧ RdA tyMsg w' lo hi A l ∧ RdA tyMsg w' lo' hi' B m ∧ (0 ≤ s5_2 ∧ s5_2 ≤ (l.length : Int)) ∧ True) (fun s => s.1) (((l.length : Int) - 0).toNat + 1, 0) ?_ ?_
   ·refine ⟨rfl, by omega, Fr.mk (by kernel_rfl) (by kernel_rfl), HM, by omega, hl, hm, ?_, trivial⟩
    ·omega
   ·rintro ⟨k_2, s5_2⟩ a w4 ⟨hL5, hk6, ⟨Tf, rfl⟩, HM', hszw4, hl', hm', s5_2_r, -⟩
    clear HM hl hm
    have HM := HM'; clear HM'
    have hl := hl'; clear hl'
    have hm := hm'; clear hm'
    have hl_l := hl.len
    have hm_l := hm.len
    obtain ⟨k_2, rfl⟩ : ∃ k, k_2 = k + 1 := ⟨k_2 - 1, by omega⟩
    refine wp_seq ?_
    refine wp_seq ?_
    refine c_region (L := [0, 1, 2, 3]) (by kernel_rfl) ?_
    by_cases h8 : s5_2 < (l.length : Int)
    ·skip
     have hb9 : (decide (s5_2 < (l.length : Int))) = true := decide_eq_true h8
     refine st_pure (l := [0, 1, 2, 3]) (rest := []) (L := [(11, .int .i64 s5_2), (12, .slice A l.length cA), (13, .int .i64 (l.length : Int)), (14, .bool true)]) rfl (Eq.trans (b := some [(11, .int .i64 s5_2), (12, .slice A l.length cA), (13, .int .i64 (l.length : Int)), (14, .bool (decide (s5_2 < (l.length : Int))))]) (by kernel_rfl) (by simp only [hb9])) ?_
     refine st_end ?_
     refine then_n ?_
     refine c_true (by kernel_rfl) ?_
     refine wp_skip ?_
     refine then_n ?_
     refine wp_seq ?_
     refine wp_block ?_
     refine wp_seq ?_
     refine c_drawS (Nil) (Nil) [0, 1, 2, 3, 4, 5, 6, 7, 8] [] 0 (fun _ q => q) (by kernel_rfl) (n := 9) (by kernel_rfl) (by kernel_rfl) ?_
     intro w10 HGw10
     have HC11 : Mod (Nil) w4 w10 := Mod.weaken HGw10 fun _ _ q => q.elim
     have hszw10 := HGw10.size
     refine m_p (k := 0) (n := 2) (fuel := 7) (L := [(17, .slice A l.length cA), (18, .int .i64 s5_2)]) (by kernel_rfl) (by kernel_rfl) rfl ?_
     have hl_b15 := hl
     have hi16 : (s5_2).toNat < (l).length := by omega
     obtain ⟨b12, o13, ehA14, lhA14, uhA14, hA14⟩ := hl_b15.get hi16
     obtain ⟨x17, ex17⟩ : ∃ y, y = (l)[(s5_2).toNat] := ⟨_, rfl⟩
     rw [← ex17] at hA14
     have dx17 := getD_of (d := Msg.zero) hi16 ex17
     have hrx17_0 := i64_lo x17.kind
     have hrx17_1 := i64_lo x17.time
     have hrx17_2 := i64_lo x17.cls
     have hrx17_4 := i64_lo x17.bank
     have hrx17_5 := i64_lo x17.place
     have hsx17_0 := i64_hi x17.kind
     have hsx17_1 := i64_hi x17.time
     have hsx17_2 := i64_hi x17.cls
     have hsx17_3 := u8_hi x17.high
     have hsx17_4 := i64_hi x17.bank
     have hsx17_5 := i64_hi x17.place
     have hsx17_6 := u8_hi x17.value
     refine m_index (d := 19) (tn := 45) (n := l.length) (c := cA) (ix := s5_2) (kd := .i64) (e := 35) (t := tyMsg) (b := b12) (by kernel_rfl) (by kernel_rfl) Try.underlying45 (by kernel_rfl) ehA14 (by omega) (by omega) ?_
     refine m_load (d := 20) (t := 35) (b := b12) (o := o13 + (s5_2).toNat * 7) (v := .agg #[.int .i64 x17.kind.toInt, .int .i64 x17.time.toInt, .int .i64 x17.cls.toInt, .int .u8 (x17.high.toNat : Int), .int .i64 x17.bank.toInt, .int .i64 x17.place.toInt, .int .u8 (x17.value.toNat : Int)]) (by kernel_rfl) (by kernel_rfl) (fun wQ (mQ : Mod (Nil) w4 wQ) => (hA14.mod mQ (fun q => q)).dropk 0) (by kernel_rfl) ?_
     refine m_p (k := 4) (n := 2) (fuel := 3) (L := [(21, .slice B m.length cB), (22, .int .i64 s5_2)]) (by kernel_rfl) (by kernel_rfl) rfl ?_
     have hm_b21 := hm
     have hi22 : (s5_2).toNat < (m).length := by omega
     obtain ⟨b18, o19, ehA20, lhA20, uhA20, hA20⟩ := hm_b21.get hi22
     obtain ⟨x23, ex23⟩ : ∃ y, y = (m)[(s5_2).toNat] := ⟨_, rfl⟩
     rw [← ex23] at hA20
     have dx23 := getD_of (d := Msg.zero) hi22 ex23
     have hrx23_0 := i64_lo x23.kind
     have hrx23_1 := i64_lo x23.time
     have hrx23_2 := i64_lo x23.cls
     have hrx23_4 := i64_lo x23.bank
     have hrx23_5 := i64_lo x23.place
     have hsx23_0 := i64_hi x23.kind
     have hsx23_1 := i64_hi x23.time
     have hsx23_2 := i64_hi x23.cls
     have hsx23_3 := u8_hi x23.high
     have hsx23_4 := i64_hi x23.bank
     have hsx23_5 := i64_hi x23.place
     have hsx23_6 := u8_hi x23.value
     refine m_index (d := 23) (tn := 45) (n := m.length) (c := cB) (ix := s5_2) (kd := .i64) (e := 35) (t := tyMsg) (b := b18) (by kernel_rfl) (by kernel_rfl) Try.underlying45 (by kernel_rfl) ehA20 (by omega) (by omega) ?_
     refine m_load (d := 24) (t := 35) (b := b18) (o := o19 + (s5_2).toNat * 7) (v := .agg #[.int .i64 x23.kind.toInt, .int .i64 x23.time.toInt, .int .i64 x23.cls.toInt, .int .u8 (x23.high.toNat : Int), .int .i64 x23.bank.toInt, .int .i64 x23.place.toInt, .int .u8 (x23.value.toNat : Int)]) (by kernel_rfl) (by kernel_rfl) (fun wQ (mQ : Mod (Nil) w4 wQ) => (hA20.mod mQ (fun q => q)).dropk 0) (by kernel_rfl) ?_
     by_cases h24 : ¬ (x17 = x23)
     ·skip
      have hb25 : (((x17.kind.toInt == x23.kind.toInt) && ((x17.time.toInt == x23.time.toInt) && ((x17.cls.toInt == x23.cls.toInt) && (((x17.high.toNat : Int) == (x23.high.toNat : Int)) && ((x17.bank.toInt == x23.bank.toInt) && ((x17.place.toInt == x23.place.toInt) && (((x17.value.toNat : Int) == (x23.value.toNat : Int)) && true))))))) != true) = true := by rw [show ((x17.kind.toInt == x23.kind.toInt) && ((x17.time.toInt == x23.time.toInt) && ((x17.cls.toInt == x23.cls.toInt) && (((x17.high.toNat : Int) == (x23.high.toNat : Int)) && ((x17.bank.toInt == x23.bank.toInt) && ((x17.place.toInt == x23.place.toInt) && (((x17.value.toNat : Int) == (x23.value.toNat : Int)) && true))))))) = false from Bool.eq_false_iff.2 fun hh => h24 ((Msg.eq_iff _ _).1 (by simpa only [Bool.and_eq_true, beq_iff_eq, Bool.and_true, true_and, and_true] using hh))]; rfl
      refine m_comes (d := 25) (v := .bool true) (by kernel_rfl) (fun wQ (mQ : Mod (Nil) w4 wQ) => (comes_b hb25 (comes_eq (t := 35) (neg := true) (xs := #[.int .i64 x17.kind.toInt, .int .i64 x17.time.toInt, .int .i64 x17.cls.toInt, .int .u8 (x17.high.toNat : Int), .int .i64 x17.bank.toInt, .int .i64 x17.place.toInt, .int .u8 (x17.value.toNat : Int)]) (ys := #[.int .i64 x23.kind.toInt, .int .i64 x23.time.toInt, .int .i64 x23.cls.toInt, .int .u8 (x23.high.toNat : Int), .int .i64 x23.bank.toInt, .int .i64 x23.place.toInt, .int .u8 (x23.value.toNat : Int)]) (b := ((x17.kind.toInt == x23.kind.toInt) && ((x17.time.toInt == x23.time.toInt) && ((x17.cls.toInt == x23.cls.toInt) && (((x17.high.toNat : Int) == (x23.high.toNat : Int)) && ((x17.bank.toInt == x23.bank.toInt) && ((x17.place.toInt == x23.place.toInt) && (((x17.value.toNat : Int) == (x23.value.toNat : Int)) && true)))))))) (by kernel_rfl) (by kernel_rfl) (by kernel_rfl)))) HC11 ?_
      refine m_end ?_
      clear hA14
      clear hA20
      refine then_n ?_
      refine c_true (by kernel_rfl) ?_
      refine wp_seq ?_
      refine c_region (L := [0]) (by kernel_rfl) ?_
      refine st_pure (l := [0]) (rest := []) (L := [(4, .bool false)]) rfl (by kernel_rfl) ?_
      refine st_end ?_
      refine then_n ?_
      refine wp_ret ?_
      refine blk_r ?_
      refine then_r ?_
      refine then_r ?_
      refine blk_r ?_
      refine then_r ?_
      refine post_ret (v := .bool false) (by kernel_rfl) ?_
      replace HM := (HM.tr0 HGw10)
      refine ⟨false, ?_, rfl, HM⟩
      ·rw [kmsgs, if_neg h1]
       have hq26 : kmsgs_j1 l m = .inl false := by
         rw [kmsgs_j1]
         rw [← hL5]
         rw [kmsgs_l2, if_pos h8]
         try simp only [dx17]
         try simp only [dx23]
         rw [if_pos h24]
         all_goals (try rfl)
       simp only [hq26]
       all_goals (try rfl)
     ·skip
      have hb27 : (((x17.kind.toInt == x23.kind.toInt) && ((x17.time.toInt == x23.time.toInt) && ((x17.cls.toInt == x23.cls.toInt) && (((x17.high.toNat : Int) == (x23.high.toNat : Int)) && ((x17.bank.toInt == x23.bank.toInt) && ((x17.place.toInt == x23.place.toInt) && (((x17.value.toNat : Int) == (x23.value.toNat : Int)) && true))))))) != true) = false := by rw [show ((x17.kind.toInt == x23.kind.toInt) && ((x17.time.toInt == x23.time.toInt) && ((x17.cls.toInt == x23.cls.toInt) && (((x17.high.toNat : Int) == (x23.high.toNat : Int)) && ((x17.bank.toInt == x23.bank.toInt) && ((x17.place.toInt == x23.place.toInt) && (((x17.value.toNat : Int) == (x23.value.toNat : Int)) && true))))))) = true from by rw [(Decidable.not_not.1 h24)]; simp only [beq_self_eq_true, Bool.and_true, Bool.and_self]]; rfl
      refine m_comes (d := 25) (v := .bool false) (by kernel_rfl) (fun wQ (mQ : Mod (Nil) w4 wQ) => (comes_b hb27 (comes_eq (t := 35) (neg := true) (xs := #[.int .i64 x17.kind.toInt, .int .i64 x17.time.toInt, .int .i64 x17.cls.toInt, .int .u8 (x17.high.toNat : Int), .int .i64 x17.bank.toInt, .int .i64 x17.place.toInt, .int .u8 (x17.value.toNat : Int)]) (ys := #[.int .i64 x23.kind.toInt, .int .i64 x23.time.toInt, .int .i64 x23.cls.toInt, .int .u8 (x23.high.toNat : Int), .int .i64 x23.bank.toInt, .int .i64 x23.place.toInt, .int .u8 (x23.value.toNat : Int)]) (b := ((x17.kind.toInt == x23.kind.toInt) && ((x17.time.toInt == x23.time.toInt) && ((x17.cls.toInt == x23.cls.toInt) && (((x17.high.toNat : Int) == (x23.high.toNat : Int)) && ((x17.bank.toInt == x23.bank.toInt) && ((x17.place.toInt == x23.place.toInt) && (((x17.value.toNat : Int) == (x23.value.toNat : Int)) && true)))))))) (by kernel_rfl) (by kernel_rfl) (by kernel_rfl)))) HC11 ?_
      refine m_end ?_
      clear hA14
      clear hA20
      refine then_n ?_
      refine c_false (by kernel_rfl) ?_
      refine wp_skip ?_
      refine blk_n ?_
      refine then_n ?_
      refine c_region (L := [0, 1, 2]) (by kernel_rfl) ?_
      have hw28 : IntKind.wrap .i64 (s5_2 + 1) = s5_2 + 1 := wi64 (by omega) (by omega)
      refine st_pure (l := [0, 1]) (rest := [2]) (L := [(15, .int .i64 s5_2), (16, .int .i64 (s5_2 + 1))]) rfl (Eq.trans (b := some [(15, .int .i64 s5_2), (16, .int .i64 (IntKind.wrap .i64 (s5_2 + 1)))]) (by kernel_rfl) (by simp only [hw28])) ?_
      refine st_pure (l := [2]) (rest := []) (L := [(5, .int .i64 (s5_2 + 1))]) rfl (by kernel_rfl) ?_
      refine st_end ?_
      refine then_n ?_
      replace HM := (HM.tr0 HGw10)
      replace hl := (hl.mod0 HGw10)
      replace hm := (hm.mod0 HGw10)
      refine ⟨(k_2, s5_2 + 1), ⟨?_, by omega, Fr.mk (by kernel_rfl) (by kernel_rfl), HM, by omega, hl, hm, ?_, trivial⟩, by dsimp only; omega⟩
      ·rw [← hL5]
       symm
       rw [kmsgs_l2, if_pos h8]
       try simp only [dx17]
       try simp only [dx23]
       rw [if_neg h24]
       all_goals (try rfl)
      ·omega
    ·skip
     have hb29 : (decide (s5_2 < (l.length : Int))) = false := decide_eq_false h8
     refine st_pure (l := [0, 1, 2, 3]) (rest := []) (L := [(11, .int .i64 s5_2), (12, .slice A l.length cA), (13, .int .i64 (l.length : Int)), (14, .bool false)]) rfl (Eq.trans (b := some [(11, .int .i64 s5_2), (12, .slice A l.length cA), (13, .int .i64 (l.length : Int)), (14, .bool (decide (s5_2 < (l.length : Int))))]) (by kernel_rfl) (by simp only [hb29])) ?_
     refine st_end ?_
     refine then_n ?_
     refine c_false (by kernel_rfl) ?_
     refine wp_exit ?_
     refine then_x ?_
     refine then_x ?_
     refine blk_hit ?_
     refine then_n ?_
     refine ⟨?_, Fr.mk (by kernel_rfl) (by kernel_rfl), HM, by omega, hl, hm, trivial⟩
     ·rw [kmsgs_j1]
      rw [← hL5]
      rw [kmsgs_l2, if_neg h8]
      all_goals (try rfl)
  ·rintro a w30 ⟨hJ31, ⟨Tf, rfl⟩, HM', hszw30, hl', hm', -⟩
   clear HM hl hm
   have HM := HM'; clear HM'
   have hl := hl'; clear hl'
   have hm := hm'; clear hm'
   have hl_l := hl.len
   have hm_l := hm.len
   refine wp_seq ?_
   refine c_region (L := [0]) (by kernel_rfl) ?_
   refine st_pure (l := [0]) (rest := []) (L := [(4, .bool true)]) rfl (by kernel_rfl) ?_
   refine st_end ?_
   refine then_n ?_
   refine wp_ret ?_
   refine post_ret (v := .bool true) (by kernel_rfl) ?_
   refine ⟨true, ?_, rfl, HM⟩
   ·rw [kmsgs, if_neg h1]
    try simp only [hJ31]
    all_goals (try rfl)

theorem promise_ok {w : World} {t : Int} (t_r : -9223372036854775808 ≤ t ∧ t ≤ 9223372036854775807) :
  Ret Try.prog 102 #[.int .i64 t] w fun v w' => v = .agg #[.int .i64 4, .int .i64 t, .int .i64 0, .int .u8 0, .int .i64 0, .int .i64 0, .int .u8 0] ∧ Mod (Nil) w w' := by
 have HM : Mod (Nil) w w := Mod.refl _ w
 refine ret_of Try.func102 rfl rfl ?_
 refine wp_seq ?_
 refine c_region (L := [0]) (by kernel_rfl) ?_
 refine st_new (d := 2) (e := 35) (C := [.int .i64 0, .int .i64 0, .int .i64 0, .int .u8 0, .int .i64 0, .int .i64 0, .int .u8 0]) (V := fun r => .pointer (some ⟨r, 0, none⟩)) (by kernel_rfl) ?_
 intro b1 w2 m3 lb1 ub1 hB4
 have hszw2 := m3.size
 refine st_end ?_
 refine then_n ?_
 refine wp_seq ?_
 refine c_region (L := [0, 1, 2]) (by kernel_rfl) ?_
 refine st_pure (l := [0, 1]) (rest := [2]) (L := [(3, .int .i64 t), (4, .agg #[.int .i64 4, .int .i64 t, .int .i64 0, .int .u8 0, .int .i64 0, .int .i64 0, .int .u8 0])]) rfl (by kernel_rfl) ?_
 refine st_store (t := 35) (v := .agg #[.int .i64 4, .int .i64 t, .int .i64 0, .int .u8 0, .int .i64 0, .int .i64 0, .int .u8 0]) (o := 0) (C' := [.int .i64 4, .int .i64 t, .int .i64 0, .int .u8 0, .int .i64 0, .int .i64 0, .int .u8 0]) (by kernel_rfl) hB4 (by kernel_rfl) ?_
 intro w5 m6 zm6 NhB4
 clear hB4; have hB4 := NhB4; clear NhB4
 have hszw5 := m6.size
 refine st_end ?_
 refine then_n ?_
 refine wp_ret ?_
 refine post_run (v := .agg #[.int .i64 4, .int .i64 t, .int .i64 0, .int .u8 0, .int .i64 0, .int .i64 0, .int .u8 0]) (res_cell1 (p := 2) (t := 35) (b := b1) (e := 35) (k := 0) (v := .agg #[.int .i64 4, .int .i64 t, .int .i64 0, .int .u8 0, .int .i64 0, .int .i64 0, .int .u8 0]) (by kernel_rfl) (by kernel_rfl) hB4 (by kernel_rfl)) ?_
 replace HM := ((HM.tr0 m3).trans m6 (by intro k h1 h3; (try simp only [Iv] at h3 ⊢); omega))
 refine ⟨rfl, HM⟩

def lives25  : Bool :=
  match Msg.of 4 5 0 0 0 0 0 with
  | m18 =>
   match snd1 (List.replicate (1 : Int).toNat Msg.zero) 0 0 0 false m18 with
   | (e28, ring29, ct30, mk31, en32) =>
    if e28 ≠ 0 then
     false
    else
     match Msg.of 4 6 0 0 0 0 0 with
     | m46 =>
      match snd1 ring29 0 ct30 mk31 en32 m46 with
      | (e56, ring57, ct58, mk59, en60) =>
       if e56 ≠ 9 then
        false
       else
        match tk1 ring57 0 ct58 with
        | (m71, e72, fr73, ct74) =>
         if e72 ≠ 0 then
          false
         else
          if ¬ (m71.kind.toInt = 4 ∧ m71.time.toInt = 5 ∧ m71.cls.toInt = 0 ∧ (m71.high.toNat : Int) = 0 ∧ m71.bank.toInt = 0 ∧ m71.place.toInt = 0 ∧ (m71.value.toNat : Int) = 0) then
           false
          else
           match Msg.of 4 4 0 0 0 0 0 with
           | m104 =>
            match snd1 ring57 fr73 ct74 mk59 en60 m104 with
            | (e116, ring117, ct118, mk119, en120) =>
             if e116 ≠ 8 then
              false
             else
              match Msg.of 5 9 0 0 0 0 0 with
              | m138 =>
               match snd1 ring117 fr73 ct118 mk119 en120 m138 with
               | (e148, ring149, ct150, mk151, en152) =>
                if e148 ≠ 0 then
                 false
                else
                 if en152 = true then
                  match tk1 ring149 fr73 ct150 with
                  | (m168, e169, fr170, ct171) =>
                   if e169 = 0 then
                    if m168.kind.toInt = 5 ∧ m168.time.toInt = 9 ∧ m168.cls.toInt = 0 ∧ (m168.high.toNat : Int) = 0 ∧ m168.bank.toInt = 0 ∧ m168.place.toInt = 0 ∧ (m168.value.toNat : Int) = 0 then
                     match Msg.of 4 9 0 0 0 0 0 with
                     | m187 =>
                      match snd1 ring149 fr170 ct171 mk151 en152 m187 with
                      | (e197, ring198, ct199, mk200, en201) =>
                       if e197 = 10 then
                        if ct199 = 0 then
                         if ((ring198.length : Int) - ct199) = 1 then
                          mk200 == 9
                         else
                          false
                        else
                         false
                       else
                        false
                    else
                     false
                   else
                    false
                 else
                  false

theorem lives25_ok {w : World}  :
  Ret Try.prog 12 #[] w fun v w' => ∃ d : Bool, lives25 = d ∧ v = .bool d ∧ Mod (Nil) w w' := by
 have HM : Mod (Nil) w w := Mod.refl _ w
 refine ret_of Try.func12 rfl rfl ?_
 refine wp_seq ?_
 refine c_region (L := [0]) (by kernel_rfl) ?_
 refine st_pure (l := [0]) (rest := []) (L := [(0, .bool false)]) rfl (by kernel_rfl) ?_
 refine st_end ?_
 refine then_n ?_
 refine wp_seq ?_
 refine c_region (L := [0, 1, 2, 3, 4, 5]) (by kernel_rfl) ?_
 have hd1 : 1 ≤ 1 ∧ 1 ≤ 4096 := by omega
 have hb2 : (decide (1 ≤ 1 ∧ 1 ≤ 4096)) = true := decide_eq_true hd1
 refine st_fn (d := 6) (f := 13) (xs := #[.int .i64 1]) (R := _) (by kernel_rfl) (New_ok (w := w) (room := 1) (room_r := by omega) (hroom := by first | omega | (simp only [List.length_append, List.length_cons, List.length_nil, List.length_take, List.length_drop, List.length_set, List.length_replicate] at *; omega))) ?_
 rintro vw9 w9 ⟨r3, A4, c5, lo6, hi7, ring8, rfl, A4_n, A4_c, rfl, hlr11, hr_12, hO_13, m14⟩
 have hszw9 := m14.size
 have lt_hr_12 := hr_12.lt
 have hO_13_b := hO_13.bounds
 refine st_pure (l := [1, 2, 3, 4, 5]) (rest := []) (L := [(5, .tuple #[.pointer (some ⟨r3, 0, none⟩), .int .i64 0]), (7, .pointer (some ⟨r3, 0, none⟩)), (8, .int .i64 0), (1, .pointer (some ⟨r3, 0, none⟩)), (2, .int .i64 0)]) rfl (by kernel_rfl) ?_
 refine st_end ?_
 refine then_n ?_
 refine wp_seq ?_
 refine wp_seq ?_
 refine c_region (L := [0, 1, 2, 3, 4, 5, 6, 7, 8, 9, 10, 11, 12, 13, 14, 15, 16, 17]) (by kernel_rfl) ?_
 refine st_pure (l := [0, 1, 2, 3, 4, 5, 6, 7]) (rest := [8, 9, 10, 11, 12, 13, 14, 15, 16, 17]) (L := [(9, .int .i64 0), (10, .bool false), (11, .bool false), (12, .pointer (some ⟨r3, 0, none⟩)), (13, .bool false), (14, .bool false), (15, .bool false), (16, .pointer (some ⟨r3, 0, none⟩))]) rfl (by kernel_rfl) ?_
 refine st_fn (d := 17) (f := 102) (xs := #[.int .i64 5]) (R := _) (by kernel_rfl) (promise_ok (w := w9) (t := 5) (t_r := by omega)) ?_
 rintro vw15 w15 ⟨rfl, m17⟩
 have hszw15 := m17.size
 obtain ⟨m18, hm19⟩ : ∃ y, Msg.of 4 5 0 0 0 0 0 = y := ⟨_, rfl⟩
 have em20 : m18.kind.toInt = 4 := by rw [← hm19]; first | rfl | exact i64_val (by omega) (by omega) | decide
 have em21 : m18.time.toInt = 5 := by rw [← hm19]; first | rfl | exact i64_val (by omega) (by omega) | decide
 have em22 : m18.cls.toInt = 0 := by rw [← hm19]; first | rfl | exact i64_val (by omega) (by omega) | decide
 have em23 : (m18.high.toNat : Int) = 0 := by rw [← hm19]; first | rfl | exact u8_val (by omega) (by omega) | decide
 have em24 : m18.bank.toInt = 0 := by rw [← hm19]; first | rfl | exact i64_val (by omega) (by omega) | decide
 have em25 : m18.place.toInt = 0 := by rw [← hm19]; first | rfl | exact i64_val (by omega) (by omega) | decide
 have em26 : (m18.value.toNat : Int) = 0 := by rw [← hm19]; first | rfl | exact u8_val (by omega) (by omega) | decide
 have hE27 : Value.agg #[.int .i64 m18.kind.toInt, .int .i64 m18.time.toInt, .int .i64 m18.cls.toInt, .int .u8 (m18.high.toNat : Int), .int .i64 m18.bank.toInt, .int .i64 m18.place.toInt, .int .u8 (m18.value.toNat : Int)] = Value.agg #[.int .i64 4, .int .i64 5, .int .i64 0, .int .u8 0, .int .i64 0, .int .i64 0, .int .u8 0] := by rw [em20, em21, em22, em23, em24, em25, em26]
 replace hr_12 := (hr_12.mod m17 (fun q => q))
 replace hO_13 := (hO_13.mod0 m17)
 refine st_fn (d := 18) (f := 22) (xs := #[.pointer (some ⟨r3, 0, none⟩), .agg #[.int .i64 4, .int .i64 5, .int .i64 0, .int .u8 0, .int .i64 0, .int .i64 0, .int .u8 0]]) (R := _) (by kernel_rfl) (by have hh := Send_ok (w := w15) (r := r3) (A := A4) (cA := c5) (ring := (List.replicate (1 : Int).toNat Msg.zero)) (fr := 0) (ct := 0) (mk := 0) (en := false) (lo := lo6) (hi := hi7) (m := m18) (hr := hr_12) (ho := hO_13) (A_n := A4_n) (A_c := by first | exact A4_c | omega) (fr_r := by omega) (ct_r := by omega) (mk_r := by omega) (ho_hi := by omega) (hlen := by first | omega | (simp only [List.length_append, List.length_cons, List.length_nil, List.length_take, List.length_drop, List.length_set, List.length_replicate] at *; omega)) (hsep := by first | omega | (simp only [List.length_append, List.length_cons, List.length_nil, List.length_take, List.length_drop, List.length_set, List.length_replicate] at *; omega)); rw [hE27] at hh; exact hh) ?_
 rintro vw33 w33 ⟨e28, ring29, ct30, mk31, en32, hsp34, rfl, e28_r, ct30_r, mk31_r, hlt36, hr_37, ho_38, m39⟩
 clear hr_12
 clear hO_13
 have hszw33 := m39.size
 have lt_hr_37 := hr_37.lt
 have ho_38_b := ho_38.bounds
 by_cases h40 : e28 ≠ 0
 ·skip
  have hb41 : (e28 != 0) = true := by first | (rw [bne_iff_ne]; exact h40) | (rw [bne_eq_false_iff_eq]; omega)
  refine st_pure (l := [10, 11, 12]) (rest := [13, 14, 15, 16, 17]) (L := [(19, .bool (e28 != 0)), (20, .bool (e28 != 0)), (21, .bool true)]) rfl (Eq.trans (b := some [(19, .bool (e28 != 0)), (20, .bool (e28 != 0)), (21, .bool (e28 != 0))]) (by kernel_rfl) (by simp only [hb41])) ?_
  refine st_pure (l := [13, 14, 15, 16, 17]) (rest := []) (L := [(22, undef), (23, undef), (24, undef), (25, undef), (26, .bool true)]) rfl (by kernel_rfl) ?_
  refine st_end ?_
  refine then_n ?_
  refine c_true (by kernel_rfl) ?_
  refine wp_seq ?_
  refine c_region (L := [0]) (by kernel_rfl) ?_
  refine st_pure (l := [0]) (rest := []) (L := [(0, .bool false)]) rfl (by kernel_rfl) ?_
  refine st_end ?_
  refine then_n ?_
  refine wp_ret ?_
  refine then_r ?_
  refine post_ret (v := .bool false) (by kernel_rfl) ?_
  replace HM := (((HM.tr0 m14).tr0 m17).trans m39 (by intro k h1 h3; (try simp only [Iv] at h3 ⊢); omega))
  refine ⟨false, ?_, rfl, HM⟩
  ·rw [lives25]
   try simp only [hm19]
   try simp only [hsp34]
   rw [if_pos h40]
   all_goals (try rfl)
 ·skip
  have hb42 : (e28 != 0) = false := by rw [bne_eq_false_iff_eq]; exact Decidable.not_not.1 h40
  refine st_pure (l := [10, 11, 12]) (rest := [13, 14, 15, 16, 17]) (L := [(19, .bool (e28 != 0)), (20, .bool (e28 != 0)), (21, .bool false)]) rfl (Eq.trans (b := some [(19, .bool (e28 != 0)), (20, .bool (e28 != 0)), (21, .bool (e28 != 0))]) (by kernel_rfl) (by simp only [hb42])) ?_
  refine st_pure (l := [13]) (rest := [14, 15, 16, 17]) (L := [(22, .pointer (some ⟨r3, 0, none⟩))]) rfl (by kernel_rfl) ?_
  refine st_fn (d := 23) (f := 102) (xs := #[.int .i64 6]) (R := _) (by kernel_rfl) (promise_ok (w := w33) (t := 6) (t_r := by omega)) ?_
  rintro vw43 w43 ⟨rfl, m45⟩
  have hszw43 := m45.size
  obtain ⟨m46, hm47⟩ : ∃ y, Msg.of 4 6 0 0 0 0 0 = y := ⟨_, rfl⟩
  have em48 : m46.kind.toInt = 4 := by rw [← hm47]; first | rfl | exact i64_val (by omega) (by omega) | decide
  have em49 : m46.time.toInt = 6 := by rw [← hm47]; first | rfl | exact i64_val (by omega) (by omega) | decide
  have em50 : m46.cls.toInt = 0 := by rw [← hm47]; first | rfl | exact i64_val (by omega) (by omega) | decide
  have em51 : (m46.high.toNat : Int) = 0 := by rw [← hm47]; first | rfl | exact u8_val (by omega) (by omega) | decide
  have em52 : m46.bank.toInt = 0 := by rw [← hm47]; first | rfl | exact i64_val (by omega) (by omega) | decide
  have em53 : m46.place.toInt = 0 := by rw [← hm47]; first | rfl | exact i64_val (by omega) (by omega) | decide
  have em54 : (m46.value.toNat : Int) = 0 := by rw [← hm47]; first | rfl | exact u8_val (by omega) (by omega) | decide
  have hE55 : Value.agg #[.int .i64 m46.kind.toInt, .int .i64 m46.time.toInt, .int .i64 m46.cls.toInt, .int .u8 (m46.high.toNat : Int), .int .i64 m46.bank.toInt, .int .i64 m46.place.toInt, .int .u8 (m46.value.toNat : Int)] = Value.agg #[.int .i64 4, .int .i64 6, .int .i64 0, .int .u8 0, .int .i64 0, .int .i64 0, .int .u8 0] := by rw [em48, em49, em50, em51, em52, em53, em54]
  replace hr_37 := (hr_37.mod m45 (fun q => q))
  replace ho_38 := (ho_38.mod0 m45)
  refine st_fn (d := 24) (f := 22) (xs := #[.pointer (some ⟨r3, 0, none⟩), .agg #[.int .i64 4, .int .i64 6, .int .i64 0, .int .u8 0, .int .i64 0, .int .i64 0, .int .u8 0]]) (R := _) (by kernel_rfl) (by have hh := Send_ok (w := w43) (r := r3) (A := A4) (cA := c5) (ring := ring29) (fr := 0) (ct := ct30) (mk := mk31) (en := en32) (lo := lo6) (hi := hi7) (m := m46) (hr := hr_37) (ho := ho_38) (A_n := A4_n) (A_c := by first | exact A4_c | omega) (fr_r := by omega) (ct_r := by omega) (mk_r := by omega) (ho_hi := by omega) (hlen := by first | omega | (simp only [List.length_append, List.length_cons, List.length_nil, List.length_take, List.length_drop, List.length_set, List.length_replicate] at *; omega)) (hsep := by first | omega | (simp only [List.length_append, List.length_cons, List.length_nil, List.length_take, List.length_drop, List.length_set, List.length_replicate] at *; omega)); rw [hE55] at hh; exact hh) ?_
  rintro vw61 w61 ⟨e56, ring57, ct58, mk59, en60, hsp62, rfl, e56_r, ct58_r, mk59_r, hlt64, hr_65, ho_66, m67⟩
  clear hr_37
  clear ho_38
  have hszw61 := m67.size
  have lt_hr_65 := hr_65.lt
  have ho_66_b := ho_66.bounds
  by_cases h68 : e56 ≠ 9
  ·skip
   have hb69 : (e56 != 9) = true := by first | (rw [bne_iff_ne]; exact h68) | (rw [bne_eq_false_iff_eq]; omega)
   refine st_pure (l := [16, 17]) (rest := []) (L := [(25, .bool (e56 != 9)), (26, .bool true)]) rfl (Eq.trans (b := some [(25, .bool (e56 != 9)), (26, .bool (e56 != 9))]) (by kernel_rfl) (by simp only [hb69])) ?_
   refine st_end ?_
   refine cut_fr 88 [(1, .pointer (some ⟨r3, 0, none⟩)), (26, .bool true)] (by kernel_rfl) (by kernel_rfl) ?_
   intro Tf
   refine c_true (by kernel_rfl) ?_
   refine wp_seq ?_
   refine c_region (L := [0]) (by kernel_rfl) ?_
   refine st_pure (l := [0]) (rest := []) (L := [(0, .bool false)]) rfl (by kernel_rfl) ?_
   refine st_end ?_
   refine then_n ?_
   refine wp_ret ?_
   refine then_r ?_
   refine post_ret (v := .bool false) (by kernel_rfl) ?_
   replace HM := (((((HM.tr0 m14).tr0 m17).trans m39 (by intro k h1 h3; (try simp only [Iv] at h3 ⊢); omega)).tr0 m45).trans m67 (by intro k h1 h3; (try simp only [Iv] at h3 ⊢); omega))
   refine ⟨false, ?_, rfl, HM⟩
   ·rw [lives25]
    try simp only [hm19]
    try simp only [hsp34]
    rw [if_neg h40]
    try simp only [hm47]
    try simp only [hsp62]
    rw [if_pos h68]
    all_goals (try rfl)
  ·skip
   have hb70 : (e56 != 9) = false := by rw [bne_eq_false_iff_eq]; exact Decidable.not_not.1 h68
   refine st_pure (l := [16, 17]) (rest := []) (L := [(25, .bool (e56 != 9)), (26, .bool false)]) rfl (Eq.trans (b := some [(25, .bool (e56 != 9)), (26, .bool (e56 != 9))]) (by kernel_rfl) (by simp only [hb70])) ?_
   refine st_end ?_
   refine cut_fr 88 [(1, .pointer (some ⟨r3, 0, none⟩)), (26, .bool false)] (by kernel_rfl) (by kernel_rfl) ?_
   intro Tf
   refine c_false (by kernel_rfl) ?_
   refine wp_skip ?_
   refine then_n ?_
   refine wp_seq ?_
   refine c_region (L := [0, 1, 2, 3, 4, 5, 6, 7]) (by kernel_rfl) ?_
   refine st_pure (l := [0]) (rest := [1, 2, 3, 4, 5, 6, 7]) (L := [(28, .pointer (some ⟨r3, 0, none⟩))]) rfl (by kernel_rfl) ?_
   refine st_fn (d := 29) (f := 20) (xs := #[.pointer (some ⟨r3, 0, none⟩)]) (R := _) (by kernel_rfl) (Take_ok (w := w61) (r := r3) (A := A4) (cA := c5) (ring := ring57) (fr := 0) (ct := ct58) (mk := mk59) (en := en60) (lo := lo6) (hi := hi7) (hr := hr_65) (hq := (ho_66.rdSelf.2.2.2)) (A_n := A4_n) (A_c := by first | exact A4_c | omega) (fr_r := by omega) (ct_r := by omega) (mk_r := by omega) (hq_hi := by omega) (hlen := by first | omega | (simp only [List.length_append, List.length_cons, List.length_nil, List.length_take, List.length_drop, List.length_set, List.length_replicate] at *; omega)) (hsep := by first | omega | (simp only [List.length_append, List.length_cons, List.length_nil, List.length_take, List.length_drop, List.length_set, List.length_replicate] at *; omega))) ?_
   rintro vw75 w75 ⟨m71, e72, fr73, ct74, hsp76, rfl, e72_r, fr73_r, ct74_r, hlt78, hr_79, m80⟩
   have hrm71_0 := i64_lo m71.kind
   have hrm71_1 := i64_lo m71.time
   have hrm71_2 := i64_lo m71.cls
   have hrm71_4 := i64_lo m71.bank
   have hrm71_5 := i64_lo m71.place
   have hsm71_0 := i64_hi m71.kind
   have hsm71_1 := i64_hi m71.time
   have hsm71_2 := i64_hi m71.cls
   have hsm71_3 := u8_hi m71.high
   have hsm71_4 := i64_hi m71.bank
   have hsm71_5 := i64_hi m71.place
   have hsm71_6 := u8_hi m71.value
   clear hr_65
   have hszw75 := m80.size
   have lt_hr_79 := hr_79.lt
   refine st_pure (l := [2, 3, 4]) (rest := [5, 6, 7]) (L := [(27, .tuple #[.agg #[.int .i64 m71.kind.toInt, .int .i64 m71.time.toInt, .int .i64 m71.cls.toInt, .int .u8 (m71.high.toNat : Int), .int .i64 m71.bank.toInt, .int .i64 m71.place.toInt, .int .u8 (m71.value.toNat : Int)], .int .i64 e72]), (30, .agg #[.int .i64 m71.kind.toInt, .int .i64 m71.time.toInt, .int .i64 m71.cls.toInt, .int .u8 (m71.high.toNat : Int), .int .i64 m71.bank.toInt, .int .i64 m71.place.toInt, .int .u8 (m71.value.toNat : Int)]), (31, .int .i64 e72)]) rfl (by kernel_rfl) ?_
   refine st_new (d := 3) (e := 35) (C := [.int .i64 0, .int .i64 0, .int .i64 0, .int .u8 0, .int .i64 0, .int .i64 0, .int .u8 0]) (V := fun r => .pointer (some ⟨r, 0, none⟩)) (by kernel_rfl) ?_
   intro b81 w82 m83 lb81 ub81 hB84
   have hszw82 := m83.size
   refine st_store (t := 35) (v := .agg #[.int .i64 m71.kind.toInt, .int .i64 m71.time.toInt, .int .i64 m71.cls.toInt, .int .u8 (m71.high.toNat : Int), .int .i64 m71.bank.toInt, .int .i64 m71.place.toInt, .int .u8 (m71.value.toNat : Int)]) (o := 0) (C' := [.int .i64 m71.kind.toInt, .int .i64 m71.time.toInt, .int .i64 m71.cls.toInt, .int .u8 (m71.high.toNat : Int), .int .i64 m71.bank.toInt, .int .i64 m71.place.toInt, .int .u8 (m71.value.toNat : Int)]) (by kernel_rfl) hB84 (by kernel_rfl) ?_
   intro w85 m86 zm86 NhB84
   clear hB84; have hB84 := NhB84; clear NhB84
   have hszw85 := m86.size
   refine st_pure (l := [7]) (rest := []) (L := [(2, .int .i64 e72)]) rfl (by kernel_rfl) ?_
   refine st_end ?_
   refine then_n ?_
   refine wp_seq ?_
   refine wp_seq ?_
   refine c_drawS (fun k => k = r3 ∨ Iv lo6 hi7 k) (fun k => k = r3 ∨ Iv lo6 hi7 k) [0, 1, 2, 3, 5, 6, 7, 8, 11, 12] [] 0 (fun _ q => q) (by kernel_rfl) (n := 13) (by kernel_rfl) (by kernel_rfl) ?_
   intro w87 HGw87
   have HC88 : Mod (fun k => k = r3 ∨ Iv lo6 hi7 k) w85 w87 := Mod.weaken HGw87 fun _ _ q => q.elim
   have hszw87 := HGw87.size
   by_cases h89 : e72 ≠ 0
   ·skip
    have hb90 : (e72 != 0) = true := by first | (rw [bne_iff_ne]; exact h89) | (rw [bne_eq_false_iff_eq]; omega)
    refine m_p (k := 0) (n := 3) (fuel := 10) (L := [(32, .int .i64 e72), (33, .bool (e72 != 0)), (34, .bool true)]) (by kernel_rfl) (Eq.trans (b := some [(32, .int .i64 e72), (33, .bool (e72 != 0)), (34, .bool (e72 != 0))]) (by kernel_rfl) (by simp only [hb90])) rfl ?_
    refine m_p (k := 3) (n := 1) (fuel := 9) (L := [(35, undef)]) (by kernel_rfl) (by kernel_rfl) rfl ?_
    refine m_Q (by kernel_rfl) ?_
    refine st_unwanted (some 36) (by kernel_rfl) ?_
    refine st_end (m_after HC88 ?_)
    refine m_p (k := 5) (n := 4) (fuel := 4) (L := [(37, undef), (38, .bool true), (39, .bool true), (40, undef)]) (by kernel_rfl) (by kernel_rfl) rfl ?_
    refine m_Q (by kernel_rfl) ?_
    refine st_unwanted (some 41) (by kernel_rfl) ?_
    refine st_end (m_after HC88 ?_)
    refine m_Q (by kernel_rfl) ?_
    refine st_unwanted (some 42) (by kernel_rfl) ?_
    refine st_end (m_after HC88 ?_)
    refine m_p (k := 11) (n := 2) (fuel := 0) (L := [(43, undef), (44, .bool true)]) (by kernel_rfl) (by kernel_rfl) rfl ?_
    refine m_end ?_
    refine then_n ?_
    refine c_true (by kernel_rfl) ?_
    refine wp_seq ?_
    refine c_region (L := [0]) (by kernel_rfl) ?_
    refine st_pure (l := [0]) (rest := []) (L := [(0, .bool false)]) rfl (by kernel_rfl) ?_
    refine st_end ?_
    refine then_n ?_
    refine wp_ret ?_
    refine then_r ?_
    refine post_ret (v := .bool false) (by kernel_rfl) ?_
    replace HM := (((((((((HM.tr0 m14).tr0 m17).trans m39 (by intro k h1 h3; (try simp only [Iv] at h3 ⊢); omega)).tr0 m45).trans m67 (by intro k h1 h3; (try simp only [Iv] at h3 ⊢); omega)).trans m80 (by intro k h1 h3; (try simp only [Iv] at h3 ⊢); omega)).tr0 m83).trans m86 (by intro k h1 h3; (try simp only [Iv] at h3 ⊢); omega)).tr0 HGw87)
    refine ⟨false, ?_, rfl, HM⟩
    ·rw [lives25]
     try simp only [hm19]
     try simp only [hsp34]
     rw [if_neg h40]
     try simp only [hm47]
     try simp only [hsp62]
     rw [if_neg h68]
     try simp only [hsp76]
     rw [if_pos h89]
     all_goals (try rfl)
   ·skip
    have hb91 : (e72 != 0) = false := by rw [bne_eq_false_iff_eq]; exact Decidable.not_not.1 h89
    refine m_p (k := 0) (n := 3) (fuel := 10) (L := [(32, .int .i64 e72), (33, .bool (e72 != 0)), (34, .bool false)]) (by kernel_rfl) (Eq.trans (b := some [(32, .int .i64 e72), (33, .bool (e72 != 0)), (34, .bool (e72 != 0))]) (by kernel_rfl) (by simp only [hb91])) rfl ?_
    have hB84_b92 := hB84
    refine m_load (d := 35) (t := 35) (b := b81) (o := 0) (v := .agg #[.int .i64 m71.kind.toInt, .int .i64 m71.time.toInt, .int .i64 m71.cls.toInt, .int .u8 (m71.high.toNat : Int), .int .i64 m71.bank.toInt, .int .i64 m71.place.toInt, .int .u8 (m71.value.toNat : Int)]) (by kernel_rfl) (by kernel_rfl) (fun wQ (mQ : Mod (fun k => k = r3 ∨ Iv lo6 hi7 k) w85 wQ) => (hB84_b92.mod mQ (by intro h3; (try simp only [Iv] at h3); omega)).sub 0) (by kernel_rfl) ?_
    refine m_Q (by kernel_rfl) ?_
    refine st_fn (d := 36) (f := 102) (xs := #[.int .i64 5]) (R := _) (by kernel_rfl) (promise_ok (w := w87) (t := 5) (t_r := by omega)) ?_
    rintro vw93 w93 ⟨rfl, m95⟩
    have hszw93 := m95.size
    have HC96 := HC88.tr0 m95
    refine st_end (m_after HC96 ?_)
    refine m_comes (d := 37) (v := .bool (((m71.kind.toInt == 4) && ((m71.time.toInt == 5) && ((m71.cls.toInt == 0) && (((m71.high.toNat : Int) == 0) && ((m71.bank.toInt == 0) && ((m71.place.toInt == 0) && (((m71.value.toNat : Int) == 0) && true))))))) != true)) (by kernel_rfl) (fun wQ (mQ : Mod (fun k => k = r3 ∨ Iv lo6 hi7 k) w85 wQ) => (comes_eq (t := 35) (neg := true) (xs := #[.int .i64 m71.kind.toInt, .int .i64 m71.time.toInt, .int .i64 m71.cls.toInt, .int .u8 (m71.high.toNat : Int), .int .i64 m71.bank.toInt, .int .i64 m71.place.toInt, .int .u8 (m71.value.toNat : Int)]) (ys := #[.int .i64 4, .int .i64 5, .int .i64 0, .int .u8 0, .int .i64 0, .int .i64 0, .int .u8 0]) (b := ((m71.kind.toInt == 4) && ((m71.time.toInt == 5) && ((m71.cls.toInt == 0) && (((m71.high.toNat : Int) == 0) && ((m71.bank.toInt == 0) && ((m71.place.toInt == 0) && (((m71.value.toNat : Int) == 0) && true)))))))) (by kernel_rfl) (by kernel_rfl) (by kernel_rfl))) HC96 ?_
    by_cases h97 : ¬ (m71.kind.toInt = 4 ∧ m71.time.toInt = 5 ∧ m71.cls.toInt = 0 ∧ (m71.high.toNat : Int) = 0 ∧ m71.bank.toInt = 0 ∧ m71.place.toInt = 0 ∧ (m71.value.toNat : Int) = 0)
    ·skip
     have hb98 : (((m71.kind.toInt == 4) && ((m71.time.toInt == 5) && ((m71.cls.toInt == 0) && (((m71.high.toNat : Int) == 0) && ((m71.bank.toInt == 0) && ((m71.place.toInt == 0) && (((m71.value.toNat : Int) == 0) && true))))))) != true) = true := by rw [show ((m71.kind.toInt == 4) && ((m71.time.toInt == 5) && ((m71.cls.toInt == 0) && (((m71.high.toNat : Int) == 0) && ((m71.bank.toInt == 0) && ((m71.place.toInt == 0) && (((m71.value.toNat : Int) == 0) && true))))))) = false from Bool.eq_false_iff.2 fun hh => h97 (by first | (simpa only [Bool.and_eq_true, beq_iff_eq, Bool.and_true, true_and, and_true] using hh) | simp_all)]; rfl
     refine m_p (k := 6) (n := 2) (fuel := 5) (L := [(38, .bool (((m71.kind.toInt == 4) && ((m71.time.toInt == 5) && ((m71.cls.toInt == 0) && (((m71.high.toNat : Int) == 0) && ((m71.bank.toInt == 0) && ((m71.place.toInt == 0) && (((m71.value.toNat : Int) == 0) && true))))))) != true)), (39, .bool true)]) (by kernel_rfl) (Eq.trans (b := some [(38, .bool (((m71.kind.toInt == 4) && ((m71.time.toInt == 5) && ((m71.cls.toInt == 0) && (((m71.high.toNat : Int) == 0) && ((m71.bank.toInt == 0) && ((m71.place.toInt == 0) && (((m71.value.toNat : Int) == 0) && true))))))) != true)), (39, .bool (((m71.kind.toInt == 4) && ((m71.time.toInt == 5) && ((m71.cls.toInt == 0) && (((m71.high.toNat : Int) == 0) && ((m71.bank.toInt == 0) && ((m71.place.toInt == 0) && (((m71.value.toNat : Int) == 0) && true))))))) != true))]) (by kernel_rfl) (by simp only [hb98])) rfl ?_
     refine m_p (k := 8) (n := 1) (fuel := 4) (L := [(40, undef)]) (by kernel_rfl) (by kernel_rfl) rfl ?_
     refine m_Q (by kernel_rfl) ?_
     refine st_unwanted (some 41) (by kernel_rfl) ?_
     refine st_end (m_after HC96 ?_)
     refine m_Q (by kernel_rfl) ?_
     refine st_unwanted (some 42) (by kernel_rfl) ?_
     refine st_end (m_after HC96 ?_)
     refine m_p (k := 11) (n := 2) (fuel := 0) (L := [(43, undef), (44, .bool true)]) (by kernel_rfl) (by kernel_rfl) rfl ?_
     refine m_end ?_
     refine then_n ?_
     refine c_true (by kernel_rfl) ?_
     refine wp_seq ?_
     refine c_region (L := [0]) (by kernel_rfl) ?_
     refine st_pure (l := [0]) (rest := []) (L := [(0, .bool false)]) rfl (by kernel_rfl) ?_
     refine st_end ?_
     refine then_n ?_
     refine wp_ret ?_
     refine then_r ?_
     refine post_ret (v := .bool false) (by kernel_rfl) ?_
     replace HM := ((((((((((HM.tr0 m14).tr0 m17).trans m39 (by intro k h1 h3; (try simp only [Iv] at h3 ⊢); omega)).tr0 m45).trans m67 (by intro k h1 h3; (try simp only [Iv] at h3 ⊢); omega)).trans m80 (by intro k h1 h3; (try simp only [Iv] at h3 ⊢); omega)).tr0 m83).trans m86 (by intro k h1 h3; (try simp only [Iv] at h3 ⊢); omega)).tr0 HGw87).tr0 m95)
     refine ⟨false, ?_, rfl, HM⟩
     ·rw [lives25]
      try simp only [hm19]
      try simp only [hsp34]
      rw [if_neg h40]
      try simp only [hm47]
      try simp only [hsp62]
      rw [if_neg h68]
      try simp only [hsp76]
      rw [if_neg h89, if_pos h97]
      all_goals (try rfl)
    ·skip
     have hb99 : (((m71.kind.toInt == 4) && ((m71.time.toInt == 5) && ((m71.cls.toInt == 0) && (((m71.high.toNat : Int) == 0) && ((m71.bank.toInt == 0) && ((m71.place.toInt == 0) && (((m71.value.toNat : Int) == 0) && true))))))) != true) = false := by rw [show ((m71.kind.toInt == 4) && ((m71.time.toInt == 5) && ((m71.cls.toInt == 0) && (((m71.high.toNat : Int) == 0) && ((m71.bank.toInt == 0) && ((m71.place.toInt == 0) && (((m71.value.toNat : Int) == 0) && true))))))) = true from by first | (simp only [Bool.and_eq_true, beq_iff_eq, Bool.and_true, true_and, and_true]; exact (Decidable.not_not.1 h97)) | (have hq := (Decidable.not_not.1 h97); simp_all)]; rfl
     refine m_p (k := 6) (n := 2) (fuel := 5) (L := [(38, .bool (((m71.kind.toInt == 4) && ((m71.time.toInt == 5) && ((m71.cls.toInt == 0) && (((m71.high.toNat : Int) == 0) && ((m71.bank.toInt == 0) && ((m71.place.toInt == 0) && (((m71.value.toNat : Int) == 0) && true))))))) != true)), (39, .bool false)]) (by kernel_rfl) (Eq.trans (b := some [(38, .bool (((m71.kind.toInt == 4) && ((m71.time.toInt == 5) && ((m71.cls.toInt == 0) && (((m71.high.toNat : Int) == 0) && ((m71.bank.toInt == 0) && ((m71.place.toInt == 0) && (((m71.value.toNat : Int) == 0) && true))))))) != true)), (39, .bool (((m71.kind.toInt == 4) && ((m71.time.toInt == 5) && ((m71.cls.toInt == 0) && (((m71.high.toNat : Int) == 0) && ((m71.bank.toInt == 0) && ((m71.place.toInt == 0) && (((m71.value.toNat : Int) == 0) && true))))))) != true))]) (by kernel_rfl) (by simp only [hb99])) rfl ?_
     refine m_p (k := 8) (n := 1) (fuel := 4) (L := [(40, .pointer (some ⟨r3, 0, none⟩))]) (by kernel_rfl) (by kernel_rfl) rfl ?_
     refine m_Q (by kernel_rfl) ?_
     refine st_fn (d := 41) (f := 102) (xs := #[.int .i64 4]) (R := _) (by kernel_rfl) (promise_ok (w := w93) (t := 4) (t_r := by omega)) ?_
     rintro vw100 w100 ⟨rfl, m102⟩
     have hszw100 := m102.size
     have HC103 := HC96.tr0 m102
     refine st_end (m_after HC103 ?_)
     refine m_Q (by kernel_rfl) ?_
     obtain ⟨m104, hm105⟩ : ∃ y, Msg.of 4 4 0 0 0 0 0 = y := ⟨_, rfl⟩
     have em106 : m104.kind.toInt = 4 := by rw [← hm105]; first | rfl | exact i64_val (by omega) (by omega) | decide
     have em107 : m104.time.toInt = 4 := by rw [← hm105]; first | rfl | exact i64_val (by omega) (by omega) | decide
     have em108 : m104.cls.toInt = 0 := by rw [← hm105]; first | rfl | exact i64_val (by omega) (by omega) | decide
     have em109 : (m104.high.toNat : Int) = 0 := by rw [← hm105]; first | rfl | exact u8_val (by omega) (by omega) | decide
     have em110 : m104.bank.toInt = 0 := by rw [← hm105]; first | rfl | exact i64_val (by omega) (by omega) | decide
     have em111 : m104.place.toInt = 0 := by rw [← hm105]; first | rfl | exact i64_val (by omega) (by omega) | decide
     have em112 : (m104.value.toNat : Int) = 0 := by rw [← hm105]; first | rfl | exact u8_val (by omega) (by omega) | decide
     have hE113 : Value.agg #[.int .i64 m104.kind.toInt, .int .i64 m104.time.toInt, .int .i64 m104.cls.toInt, .int .u8 (m104.high.toNat : Int), .int .i64 m104.bank.toInt, .int .i64 m104.place.toInt, .int .u8 (m104.value.toNat : Int)] = Value.agg #[.int .i64 4, .int .i64 4, .int .i64 0, .int .u8 0, .int .i64 0, .int .i64 0, .int .u8 0] := by rw [em106, em107, em108, em109, em110, em111, em112]
     have hr_79_b114 := ((hr_79.mod m83 (fun q => q)).mod m86 (by intro h3; (try simp only [Iv] at h3); omega))
     replace hr_79 := (((((hr_79.mod m83 (fun q => q)).mod m86 (by intro h3; (try simp only [Iv] at h3); omega)).mod HGw87 (fun q => q)).mod m95 (fun q => q)).mod m102 (fun q => q))
     have ho_66_b115 := (((ho_66.mod m80 (by intro k h1 h2 h3; (try simp only [Iv] at h3); omega)).mod0 m83).mod m86 (by intro k h1 h2 h3; (try simp only [Iv] at h3); omega))
     replace ho_66 := ((((((ho_66.mod m80 (by intro k h1 h2 h3; (try simp only [Iv] at h3); omega)).mod0 m83).mod m86 (by intro k h1 h2 h3; (try simp only [Iv] at h3); omega)).mod0 HGw87).mod0 m95).mod0 m102)
     refine st_fn (d := 42) (f := 22) (xs := #[.pointer (some ⟨r3, 0, none⟩), .agg #[.int .i64 4, .int .i64 4, .int .i64 0, .int .u8 0, .int .i64 0, .int .i64 0, .int .u8 0]]) (R := _) (by kernel_rfl) (by have hh := Send_ok (w := w100) (r := r3) (A := A4) (cA := c5) (ring := ring57) (fr := fr73) (ct := ct74) (mk := mk59) (en := en60) (lo := lo6) (hi := hi7) (m := m104) (hr := hr_79) (ho := ho_66) (A_n := A4_n) (A_c := by first | exact A4_c | omega) (fr_r := by omega) (ct_r := by omega) (mk_r := by omega) (ho_hi := by omega) (hlen := by first | omega | (simp only [List.length_append, List.length_cons, List.length_nil, List.length_take, List.length_drop, List.length_set, List.length_replicate] at *; omega)) (hsep := by first | omega | (simp only [List.length_append, List.length_cons, List.length_nil, List.length_take, List.length_drop, List.length_set, List.length_replicate] at *; omega)); rw [hE113] at hh; exact hh) ?_
     rintro vw121 w121 ⟨e116, ring117, ct118, mk119, en120, hsp122, rfl, e116_r, ct118_r, mk119_r, hlt124, hr_125, ho_126, m127⟩
     clear hr_79
     clear ho_66
     have hszw121 := m127.size
     have HC128 : Mod (fun k => k = r3 ∨ Iv lo6 hi7 k) w85 _ := HC103.trans m127 (by intro k h1 h3; (try simp only [Iv] at h3 ⊢); omega)
     have lt_hr_125 := hr_125.lt
     have ho_126_b := ho_126.bounds
     refine st_end (m_after HC128 ?_)
     by_cases h129 : e116 ≠ 8
     ·skip
      have hb130 : (e116 != 8) = true := by first | (rw [bne_iff_ne]; exact h129) | (rw [bne_eq_false_iff_eq]; omega)
      refine m_p (k := 11) (n := 2) (fuel := 0) (L := [(43, .bool (e116 != 8)), (44, .bool true)]) (by kernel_rfl) (Eq.trans (b := some [(43, .bool (e116 != 8)), (44, .bool (e116 != 8))]) (by kernel_rfl) (by simp only [hb130])) rfl ?_
      refine m_end ?_
      refine then_n ?_
      refine c_true (by kernel_rfl) ?_
      refine wp_seq ?_
      refine c_region (L := [0]) (by kernel_rfl) ?_
      refine st_pure (l := [0]) (rest := []) (L := [(0, .bool false)]) rfl (by kernel_rfl) ?_
      refine st_end ?_
      refine then_n ?_
      refine wp_ret ?_
      refine then_r ?_
      refine post_ret (v := .bool false) (by kernel_rfl) ?_
      replace HM := ((((((((((((HM.tr0 m14).tr0 m17).trans m39 (by intro k h1 h3; (try simp only [Iv] at h3 ⊢); omega)).tr0 m45).trans m67 (by intro k h1 h3; (try simp only [Iv] at h3 ⊢); omega)).trans m80 (by intro k h1 h3; (try simp only [Iv] at h3 ⊢); omega)).tr0 m83).trans m86 (by intro k h1 h3; (try simp only [Iv] at h3 ⊢); omega)).tr0 HGw87).tr0 m95).tr0 m102).trans m127 (by intro k h1 h3; (try simp only [Iv] at h3 ⊢); omega))
      refine ⟨false, ?_, rfl, HM⟩
      ·rw [lives25]
       try simp only [hm19]
       try simp only [hsp34]
       rw [if_neg h40]
       try simp only [hm47]
       try simp only [hsp62]
       rw [if_neg h68]
       try simp only [hsp76]
       rw [if_neg h89, if_neg h97]
       try simp only [hm105]
       try simp only [hsp122]
       rw [if_pos h129]
       all_goals (try rfl)
     ·skip
      have hb131 : (e116 != 8) = false := by rw [bne_eq_false_iff_eq]; exact Decidable.not_not.1 h129
      refine m_p (k := 11) (n := 2) (fuel := 0) (L := [(43, .bool (e116 != 8)), (44, .bool false)]) (by kernel_rfl) (Eq.trans (b := some [(43, .bool (e116 != 8)), (44, .bool (e116 != 8))]) (by kernel_rfl) (by simp only [hb131])) rfl ?_
      refine m_end ?_
      refine then_n ?_
      refine c_false (by kernel_rfl) ?_
      refine wp_skip ?_
      refine then_n ?_
      refine wp_seq ?_
      refine c_region (L := [0, 1, 2]) (by kernel_rfl) ?_
      refine st_pure (l := [0]) (rest := [1, 2]) (L := [(45, .agg #[.int .i64 5, .int .i64 9, .int .i64 0, .int .u8 0, .int .i64 0, .int .i64 0, .int .u8 0])]) rfl (by kernel_rfl) ?_
      refine st_new (d := 4) (e := 35) (C := [.int .i64 0, .int .i64 0, .int .i64 0, .int .u8 0, .int .i64 0, .int .i64 0, .int .u8 0]) (V := fun r => .pointer (some ⟨r, 0, none⟩)) (by kernel_rfl) ?_
      intro b132 w133 m134 lb132 ub132 hB135
      have hszw133 := m134.size
      refine st_store (t := 35) (v := .agg #[.int .i64 5, .int .i64 9, .int .i64 0, .int .u8 0, .int .i64 0, .int .i64 0, .int .u8 0]) (o := 0) (C' := [.int .i64 5, .int .i64 9, .int .i64 0, .int .u8 0, .int .i64 0, .int .i64 0, .int .u8 0]) (by kernel_rfl) hB135 (by kernel_rfl) ?_
      intro w136 m137 zm137 NhB135
      clear hB135; have hB135 := NhB135; clear NhB135
      have hszw136 := m137.size
      refine st_end ?_
      refine cut_fr 88 [(1, .pointer (some ⟨r3, 0, none⟩)), (3, .pointer (some ⟨b81, 0, none⟩)), (4, .pointer (some ⟨b132, 0, none⟩))] (by kernel_rfl) (by kernel_rfl) ?_
      intro Tf
      refine wp_seq ?_
      refine wp_seq ?_
      refine c_region (L := [0, 1, 2, 3, 4, 5, 6, 7, 8]) (by kernel_rfl) ?_
      refine st_pure (l := [0]) (rest := [1, 2, 3, 4, 5, 6, 7, 8]) (L := [(46, .pointer (some ⟨r3, 0, none⟩))]) rfl (by kernel_rfl) ?_
      refine st_load (d := 47) (t := 35) (cs := _) (v := .agg #[.int .i64 5, .int .i64 9, .int .i64 0, .int .u8 0, .int .i64 0, .int .i64 0, .int .u8 0]) (by kernel_rfl) (hB135.sub 0) (by kernel_rfl) ?_
      obtain ⟨m138, hm139⟩ : ∃ y, Msg.of 5 9 0 0 0 0 0 = y := ⟨_, rfl⟩
      have em140 : m138.kind.toInt = 5 := by rw [← hm139]; first | rfl | exact i64_val (by omega) (by omega) | decide
      have em141 : m138.time.toInt = 9 := by rw [← hm139]; first | rfl | exact i64_val (by omega) (by omega) | decide
      have em142 : m138.cls.toInt = 0 := by rw [← hm139]; first | rfl | exact i64_val (by omega) (by omega) | decide
      have em143 : (m138.high.toNat : Int) = 0 := by rw [← hm139]; first | rfl | exact u8_val (by omega) (by omega) | decide
      have em144 : m138.bank.toInt = 0 := by rw [← hm139]; first | rfl | exact i64_val (by omega) (by omega) | decide
      have em145 : m138.place.toInt = 0 := by rw [← hm139]; first | rfl | exact i64_val (by omega) (by omega) | decide
      have em146 : (m138.value.toNat : Int) = 0 := by rw [← hm139]; first | rfl | exact u8_val (by omega) (by omega) | decide
      have hE147 : Value.agg #[.int .i64 m138.kind.toInt, .int .i64 m138.time.toInt, .int .i64 m138.cls.toInt, .int .u8 (m138.high.toNat : Int), .int .i64 m138.bank.toInt, .int .i64 m138.place.toInt, .int .u8 (m138.value.toNat : Int)] = Value.agg #[.int .i64 5, .int .i64 9, .int .i64 0, .int .u8 0, .int .i64 0, .int .i64 0, .int .u8 0] := by rw [em140, em141, em142, em143, em144, em145, em146]
      replace hr_125 := ((hr_125.mod m134 (fun q => q)).mod m137 (by intro h3; (try simp only [Iv] at h3); omega))
      replace ho_126 := ((ho_126.mod0 m134).mod m137 (by intro k h1 h2 h3; (try simp only [Iv] at h3); omega))
      refine st_fn (d := 48) (f := 22) (xs := #[.pointer (some ⟨r3, 0, none⟩), .agg #[.int .i64 5, .int .i64 9, .int .i64 0, .int .u8 0, .int .i64 0, .int .i64 0, .int .u8 0]]) (R := _) (by kernel_rfl) (by have hh := Send_ok (w := w136) (r := r3) (A := A4) (cA := c5) (ring := ring117) (fr := fr73) (ct := ct118) (mk := mk119) (en := en120) (lo := lo6) (hi := hi7) (m := m138) (hr := hr_125) (ho := ho_126) (A_n := A4_n) (A_c := by first | exact A4_c | omega) (fr_r := by omega) (ct_r := by omega) (mk_r := by omega) (ho_hi := by omega) (hlen := by first | omega | (simp only [List.length_append, List.length_cons, List.length_nil, List.length_take, List.length_drop, List.length_set, List.length_replicate] at *; omega)) (hsep := by first | omega | (simp only [List.length_append, List.length_cons, List.length_nil, List.length_take, List.length_drop, List.length_set, List.length_replicate] at *; omega)); rw [hE147] at hh; exact hh) ?_
      rintro vw153 w153 ⟨e148, ring149, ct150, mk151, en152, hsp154, rfl, e148_r, ct150_r, mk151_r, hlt156, hr_157, ho_158, m159⟩
      clear hr_125
      clear ho_126
      have hszw153 := m159.size
      have lt_hr_157 := hr_157.lt
      have ho_158_b := ho_158.bounds
      by_cases h160 : e148 ≠ 0
      ·skip
       have hb161 : (e148 != 0) = true := by first | (rw [bne_iff_ne]; exact h160) | (rw [bne_eq_false_iff_eq]; omega)
       refine st_pure (l := [3, 4]) (rest := [5, 6, 7, 8]) (L := [(49, .bool (e148 != 0)), (50, .bool true)]) rfl (Eq.trans (b := some [(49, .bool (e148 != 0)), (50, .bool (e148 != 0))]) (by kernel_rfl) (by simp only [hb161])) ?_
       refine st_pure (l := [5, 6, 7, 8]) (rest := []) (L := [(51, undef), (52, undef), (53, undef), (54, .bool true)]) rfl (by kernel_rfl) ?_
       refine st_end ?_
       refine then_n ?_
       refine c_true (by kernel_rfl) ?_
       refine wp_seq ?_
       refine c_region (L := [0]) (by kernel_rfl) ?_
       refine st_pure (l := [0]) (rest := []) (L := [(0, .bool false)]) rfl (by kernel_rfl) ?_
       refine st_end ?_
       refine then_n ?_
       refine wp_ret ?_
       refine then_r ?_
       refine post_ret (v := .bool false) (by kernel_rfl) ?_
       replace HM := (((((((((((((((HM.tr0 m14).tr0 m17).trans m39 (by intro k h1 h3; (try simp only [Iv] at h3 ⊢); omega)).tr0 m45).trans m67 (by intro k h1 h3; (try simp only [Iv] at h3 ⊢); omega)).trans m80 (by intro k h1 h3; (try simp only [Iv] at h3 ⊢); omega)).tr0 m83).trans m86 (by intro k h1 h3; (try simp only [Iv] at h3 ⊢); omega)).tr0 HGw87).tr0 m95).tr0 m102).trans m127 (by intro k h1 h3; (try simp only [Iv] at h3 ⊢); omega)).tr0 m134).trans m137 (by intro k h1 h3; (try simp only [Iv] at h3 ⊢); omega)).trans m159 (by intro k h1 h3; (try simp only [Iv] at h3 ⊢); omega))
       refine ⟨false, ?_, rfl, HM⟩
       ·rw [lives25]
        try simp only [hm19]
        try simp only [hsp34]
        rw [if_neg h40]
        try simp only [hm47]
        try simp only [hsp62]
        rw [if_neg h68]
        try simp only [hsp76]
        rw [if_neg h89, if_neg h97]
        try simp only [hm105]
        try simp only [hsp122]
        rw [if_neg h129]
        try simp only [hm139]
        try simp only [hsp154]
        rw [if_pos h160]
        all_goals (try rfl)
      ·skip
       have hb162 : (e148 != 0) = false := by rw [bne_eq_false_iff_eq]; exact Decidable.not_not.1 h160
       refine st_pure (l := [3, 4]) (rest := [5, 6, 7, 8]) (L := [(49, .bool (e148 != 0)), (50, .bool false)]) rfl (Eq.trans (b := some [(49, .bool (e148 != 0)), (50, .bool (e148 != 0))]) (by kernel_rfl) (by simp only [hb162])) ?_
       refine st_pure (l := [5]) (rest := [6, 7, 8]) (L := [(51, .pointer (some ⟨r3, 0, none⟩))]) rfl (by kernel_rfl) ?_
       refine st_fn (d := 52) (f := 30) (xs := #[.pointer (some ⟨r3, 0, none⟩)]) (R := _) (by kernel_rfl) (Ended_ok (w := w153) (r := r3) (A := A4) (cA := c5) (ring := ring149) (fr := fr73) (ct := ct150) (mk := mk151) (en := en152) (hr := hr_157) (A_n := A4_n) (A_c := by first | exact A4_c | omega) (fr_r := by omega) (ct_r := by omega) (mk_r := by omega) (hlen := by first | omega | (simp only [List.length_append, List.length_cons, List.length_nil, List.length_take, List.length_drop, List.length_set, List.length_replicate] at *; omega))) ?_
       rintro vw163 w163 ⟨hv164, m165⟩
       have hszw163 := m165.size
       by_cases h166 : en152 = true
       ·skip
        have hb167 : (en152) = true := by simpa using h166
        rw [hb167] at hv164; subst hv164
        refine st_pure (l := [7, 8]) (rest := []) (L := [(53, .bool false), (54, .bool false)]) rfl (by kernel_rfl) ?_
        refine st_end ?_
        refine then_n ?_
        refine c_false (by kernel_rfl) ?_
        refine wp_skip ?_
        refine then_n ?_
        refine wp_seq ?_
        refine c_region (L := [0, 1, 2, 3, 4, 5, 6]) (by kernel_rfl) ?_
        refine st_pure (l := [0]) (rest := [1, 2, 3, 4, 5, 6]) (L := [(56, .pointer (some ⟨r3, 0, none⟩))]) rfl (by kernel_rfl) ?_
        replace hr_157 := (hr_157.mod m165 (fun q => q))
        replace ho_158 := (ho_158.mod0 m165)
        refine st_fn (d := 57) (f := 20) (xs := #[.pointer (some ⟨r3, 0, none⟩)]) (R := _) (by kernel_rfl) (Take_ok (w := w163) (r := r3) (A := A4) (cA := c5) (ring := ring149) (fr := fr73) (ct := ct150) (mk := mk151) (en := en152) (lo := lo6) (hi := hi7) (hr := hr_157) (hq := (ho_158.rdSelf.2.2.2)) (A_n := A4_n) (A_c := by first | exact A4_c | omega) (fr_r := by omega) (ct_r := by omega) (mk_r := by omega) (hq_hi := by omega) (hlen := by first | omega | (simp only [List.length_append, List.length_cons, List.length_nil, List.length_take, List.length_drop, List.length_set, List.length_replicate] at *; omega)) (hsep := by first | omega | (simp only [List.length_append, List.length_cons, List.length_nil, List.length_take, List.length_drop, List.length_set, List.length_replicate] at *; omega))) ?_
        rintro vw172 w172 ⟨m168, e169, fr170, ct171, hsp173, rfl, e169_r, fr170_r, ct171_r, hlt175, hr_176, m177⟩
        have hrm168_0 := i64_lo m168.kind
        have hrm168_1 := i64_lo m168.time
        have hrm168_2 := i64_lo m168.cls
        have hrm168_4 := i64_lo m168.bank
        have hrm168_5 := i64_lo m168.place
        have hsm168_0 := i64_hi m168.kind
        have hsm168_1 := i64_hi m168.time
        have hsm168_2 := i64_hi m168.cls
        have hsm168_3 := u8_hi m168.high
        have hsm168_4 := i64_hi m168.bank
        have hsm168_5 := i64_hi m168.place
        have hsm168_6 := u8_hi m168.value
        clear hr_157
        have hszw172 := m177.size
        have lt_hr_176 := hr_176.lt
        refine st_pure (l := [2, 3, 4]) (rest := [5, 6]) (L := [(55, .tuple #[.agg #[.int .i64 m168.kind.toInt, .int .i64 m168.time.toInt, .int .i64 m168.cls.toInt, .int .u8 (m168.high.toNat : Int), .int .i64 m168.bank.toInt, .int .i64 m168.place.toInt, .int .u8 (m168.value.toNat : Int)], .int .i64 e169]), (58, .agg #[.int .i64 m168.kind.toInt, .int .i64 m168.time.toInt, .int .i64 m168.cls.toInt, .int .u8 (m168.high.toNat : Int), .int .i64 m168.bank.toInt, .int .i64 m168.place.toInt, .int .u8 (m168.value.toNat : Int)]), (59, .int .i64 e169)]) rfl (by kernel_rfl) ?_
        replace hB84 := (((((((((hB84.mod HGw87 (fun q => q)).mod m95 (fun q => q)).mod m102 (fun q => q)).mod m127 (by intro h3; (try simp only [Iv] at h3); omega)).mod m134 (fun q => q)).mod m137 (by intro h3; (try simp only [Iv] at h3); omega)).mod m159 (by intro h3; (try simp only [Iv] at h3); omega)).mod m165 (fun q => q)).mod m177 (by intro h3; (try simp only [Iv] at h3); omega))
        refine st_store (t := 35) (v := .agg #[.int .i64 m168.kind.toInt, .int .i64 m168.time.toInt, .int .i64 m168.cls.toInt, .int .u8 (m168.high.toNat : Int), .int .i64 m168.bank.toInt, .int .i64 m168.place.toInt, .int .u8 (m168.value.toNat : Int)]) (o := 0) (C' := [.int .i64 m168.kind.toInt, .int .i64 m168.time.toInt, .int .i64 m168.cls.toInt, .int .u8 (m168.high.toNat : Int), .int .i64 m168.bank.toInt, .int .i64 m168.place.toInt, .int .u8 (m168.value.toNat : Int)]) (by kernel_rfl) hB84 (by kernel_rfl) ?_
        intro w178 m179 zm179 NhB84
        clear hB84; have hB84 := NhB84; clear NhB84
        have hszw178 := m179.size
        refine st_pure (l := [6]) (rest := []) (L := [(2, .int .i64 e169)]) rfl (by kernel_rfl) ?_
        refine st_end ?_
        refine then_n ?_
        refine wp_seq ?_
        refine c_region (L := [0, 1, 2, 3, 4, 5, 6, 7, 8, 9, 10, 11, 12, 13, 14, 15, 16, 17, 18, 19, 20, 21, 22, 23, 24, 25, 26, 27, 28]) (by kernel_rfl) ?_
        by_cases h180 : e169 = 0
        ·skip
         have hb181 : (e169 == 0) = true := beq_iff_eq.2 h180
         refine st_pure (l := [0, 1, 2]) (rest := [3, 4, 5, 6, 7, 8, 9, 10, 11, 12, 13, 14, 15, 16, 17, 18, 19, 20, 21, 22, 23, 24, 25, 26, 27, 28]) (L := [(60, .int .i64 e169), (61, .bool (e169 == 0)), (62, .bool true)]) rfl (Eq.trans (b := some [(60, .int .i64 e169), (61, .bool (e169 == 0)), (62, .bool (e169 == 0))]) (by kernel_rfl) (by simp only [hb181])) ?_
         refine st_load (d := 63) (t := 35) (cs := _) (v := .agg #[.int .i64 m168.kind.toInt, .int .i64 m168.time.toInt, .int .i64 m168.cls.toInt, .int .u8 (m168.high.toNat : Int), .int .i64 m168.bank.toInt, .int .i64 m168.place.toInt, .int .u8 (m168.value.toNat : Int)]) (by kernel_rfl) (hB84.sub 0) (by kernel_rfl) ?_
         replace hB135 := ((((hB135.mod m159 (by intro h3; (try simp only [Iv] at h3); omega)).mod m165 (fun q => q)).mod m177 (by intro h3; (try simp only [Iv] at h3); omega)).mod m179 (by intro h3; (try simp only [Iv] at h3); omega))
         refine st_load (d := 64) (t := 35) (cs := _) (v := .agg #[.int .i64 5, .int .i64 9, .int .i64 0, .int .u8 0, .int .i64 0, .int .i64 0, .int .u8 0]) (by kernel_rfl) (hB135.sub 0) (by kernel_rfl) ?_
         refine st_comes (d := 65) (v := .bool (((m168.kind.toInt == 5) && ((m168.time.toInt == 9) && ((m168.cls.toInt == 0) && (((m168.high.toNat : Int) == 0) && ((m168.bank.toInt == 0) && ((m168.place.toInt == 0) && (((m168.value.toNat : Int) == 0) && true))))))) != false)) (comes_eq (t := 35) (neg := false) (xs := #[.int .i64 m168.kind.toInt, .int .i64 m168.time.toInt, .int .i64 m168.cls.toInt, .int .u8 (m168.high.toNat : Int), .int .i64 m168.bank.toInt, .int .i64 m168.place.toInt, .int .u8 (m168.value.toNat : Int)]) (ys := #[.int .i64 5, .int .i64 9, .int .i64 0, .int .u8 0, .int .i64 0, .int .i64 0, .int .u8 0]) (b := ((m168.kind.toInt == 5) && ((m168.time.toInt == 9) && ((m168.cls.toInt == 0) && (((m168.high.toNat : Int) == 0) && ((m168.bank.toInt == 0) && ((m168.place.toInt == 0) && (((m168.value.toNat : Int) == 0) && true)))))))) (by kernel_rfl) (by kernel_rfl) (by kernel_rfl)) ?_
         by_cases h182 : m168.kind.toInt = 5 ∧ m168.time.toInt = 9 ∧ m168.cls.toInt = 0 ∧ (m168.high.toNat : Int) = 0 ∧ m168.bank.toInt = 0 ∧ m168.place.toInt = 0 ∧ (m168.value.toNat : Int) = 0
         ·skip
          have hb183 : (((m168.kind.toInt == 5) && ((m168.time.toInt == 9) && ((m168.cls.toInt == 0) && (((m168.high.toNat : Int) == 0) && ((m168.bank.toInt == 0) && ((m168.place.toInt == 0) && (((m168.value.toNat : Int) == 0) && true))))))) != false) = true := by rw [show ((m168.kind.toInt == 5) && ((m168.time.toInt == 9) && ((m168.cls.toInt == 0) && (((m168.high.toNat : Int) == 0) && ((m168.bank.toInt == 0) && ((m168.place.toInt == 0) && (((m168.value.toNat : Int) == 0) && true))))))) = true from by first | (simp only [Bool.and_eq_true, beq_iff_eq, Bool.and_true, true_and, and_true]; exact h182) | (have hq := h182; simp_all)]; rfl
          refine st_pure (l := [6, 7]) (rest := [8, 9, 10, 11, 12, 13, 14, 15, 16, 17, 18, 19, 20, 21, 22, 23, 24, 25, 26, 27, 28]) (L := [(66, .bool (((m168.kind.toInt == 5) && ((m168.time.toInt == 9) && ((m168.cls.toInt == 0) && (((m168.high.toNat : Int) == 0) && ((m168.bank.toInt == 0) && ((m168.place.toInt == 0) && (((m168.value.toNat : Int) == 0) && true))))))) != false)), (67, .bool true)]) rfl (Eq.trans (b := some [(66, .bool (((m168.kind.toInt == 5) && ((m168.time.toInt == 9) && ((m168.cls.toInt == 0) && (((m168.high.toNat : Int) == 0) && ((m168.bank.toInt == 0) && ((m168.place.toInt == 0) && (((m168.value.toNat : Int) == 0) && true))))))) != false)), (67, .bool (((m168.kind.toInt == 5) && ((m168.time.toInt == 9) && ((m168.cls.toInt == 0) && (((m168.high.toNat : Int) == 0) && ((m168.bank.toInt == 0) && ((m168.place.toInt == 0) && (((m168.value.toNat : Int) == 0) && true))))))) != false))]) (by kernel_rfl) (by simp only [hb183])) ?_
          refine st_pure (l := [8]) (rest := [9, 10, 11, 12, 13, 14, 15, 16, 17, 18, 19, 20, 21, 22, 23, 24, 25, 26, 27, 28]) (L := [(68, .pointer (some ⟨r3, 0, none⟩))]) rfl (by kernel_rfl) ?_
          refine st_fn (d := 69) (f := 102) (xs := #[.int .i64 9]) (R := _) (by kernel_rfl) (promise_ok (w := w178) (t := 9) (t_r := by omega)) ?_
          rintro vw184 w184 ⟨rfl, m186⟩
          have hszw184 := m186.size
          obtain ⟨m187, hm188⟩ : ∃ y, Msg.of 4 9 0 0 0 0 0 = y := ⟨_, rfl⟩
          have em189 : m187.kind.toInt = 4 := by rw [← hm188]; first | rfl | exact i64_val (by omega) (by omega) | decide
          have em190 : m187.time.toInt = 9 := by rw [← hm188]; first | rfl | exact i64_val (by omega) (by omega) | decide
          have em191 : m187.cls.toInt = 0 := by rw [← hm188]; first | rfl | exact i64_val (by omega) (by omega) | decide
          have em192 : (m187.high.toNat : Int) = 0 := by rw [← hm188]; first | rfl | exact u8_val (by omega) (by omega) | decide
          have em193 : m187.bank.toInt = 0 := by rw [← hm188]; first | rfl | exact i64_val (by omega) (by omega) | decide
          have em194 : m187.place.toInt = 0 := by rw [← hm188]; first | rfl | exact i64_val (by omega) (by omega) | decide
          have em195 : (m187.value.toNat : Int) = 0 := by rw [← hm188]; first | rfl | exact u8_val (by omega) (by omega) | decide
          have hE196 : Value.agg #[.int .i64 m187.kind.toInt, .int .i64 m187.time.toInt, .int .i64 m187.cls.toInt, .int .u8 (m187.high.toNat : Int), .int .i64 m187.bank.toInt, .int .i64 m187.place.toInt, .int .u8 (m187.value.toNat : Int)] = Value.agg #[.int .i64 4, .int .i64 9, .int .i64 0, .int .u8 0, .int .i64 0, .int .i64 0, .int .u8 0] := by rw [em189, em190, em191, em192, em193, em194, em195]
          replace hr_176 := ((hr_176.mod m179 (by intro h3; (try simp only [Iv] at h3); omega)).mod m186 (fun q => q))
          replace ho_158 := (((ho_158.mod m177 (by intro k h1 h2 h3; (try simp only [Iv] at h3); omega)).mod m179 (by intro k h1 h2 h3; (try simp only [Iv] at h3); omega)).mod0 m186)
          refine st_fn (d := 70) (f := 22) (xs := #[.pointer (some ⟨r3, 0, none⟩), .agg #[.int .i64 4, .int .i64 9, .int .i64 0, .int .u8 0, .int .i64 0, .int .i64 0, .int .u8 0]]) (R := _) (by kernel_rfl) (by have hh := Send_ok (w := w184) (r := r3) (A := A4) (cA := c5) (ring := ring149) (fr := fr170) (ct := ct171) (mk := mk151) (en := en152) (lo := lo6) (hi := hi7) (m := m187) (hr := hr_176) (ho := ho_158) (A_n := A4_n) (A_c := by first | exact A4_c | omega) (fr_r := by omega) (ct_r := by omega) (mk_r := by omega) (ho_hi := by omega) (hlen := by first | omega | (simp only [List.length_append, List.length_cons, List.length_nil, List.length_take, List.length_drop, List.length_set, List.length_replicate] at *; omega)) (hsep := by first | omega | (simp only [List.length_append, List.length_cons, List.length_nil, List.length_take, List.length_drop, List.length_set, List.length_replicate] at *; omega)); rw [hE196] at hh; exact hh) ?_
          rintro vw202 w202 ⟨e197, ring198, ct199, mk200, en201, hsp203, rfl, e197_r, ct199_r, mk200_r, hlt205, hr_206, ho_207, m208⟩
          clear hr_176
          clear ho_158
          have hszw202 := m208.size
          have lt_hr_206 := hr_206.lt
          have ho_207_b := ho_207.bounds
          by_cases h209 : e197 = 10
          ·skip
           have hb210 : (e197 == 10) = true := beq_iff_eq.2 h209
           refine st_pure (l := [11, 12, 13]) (rest := [14, 15, 16, 17, 18, 19, 20, 21, 22, 23, 24, 25, 26, 27, 28]) (L := [(71, .bool (e197 == 10)), (72, .bool (e197 == 10)), (73, .bool true)]) rfl (Eq.trans (b := some [(71, .bool (e197 == 10)), (72, .bool (e197 == 10)), (73, .bool (e197 == 10))]) (by kernel_rfl) (by simp only [hb210])) ?_
           refine st_pure (l := [14]) (rest := [15, 16, 17, 18, 19, 20, 21, 22, 23, 24, 25, 26, 27, 28]) (L := [(74, .pointer (some ⟨r3, 0, none⟩))]) rfl (by kernel_rfl) ?_
           refine st_fn (d := 75) (f := 26) (xs := #[.pointer (some ⟨r3, 0, none⟩)]) (R := _) (by kernel_rfl) (Len_ok (w := w202) (r := r3) (A := A4) (cA := c5) (ring := ring198) (fr := fr170) (ct := ct199) (mk := mk200) (en := en201) (hr := hr_206) (A_n := A4_n) (A_c := by first | exact A4_c | omega) (fr_r := by omega) (ct_r := by omega) (mk_r := by omega) (hlen := by first | omega | (simp only [List.length_append, List.length_cons, List.length_nil, List.length_take, List.length_drop, List.length_set, List.length_replicate] at *; omega))) ?_
           rintro vw211 w211 ⟨rfl, m213⟩
           have hszw211 := m213.size
           by_cases h214 : ct199 = 0
           ·skip
            have hb215 : (ct199 == 0) = true := beq_iff_eq.2 h214
            refine st_pure (l := [16, 17, 18]) (rest := [19, 20, 21, 22, 23, 24, 25, 26, 27, 28]) (L := [(76, .bool (ct199 == 0)), (77, .bool (ct199 == 0)), (78, .bool true)]) rfl (Eq.trans (b := some [(76, .bool (ct199 == 0)), (77, .bool (ct199 == 0)), (78, .bool (ct199 == 0))]) (by kernel_rfl) (by simp only [hb215])) ?_
            refine st_pure (l := [19]) (rest := [20, 21, 22, 23, 24, 25, 26, 27, 28]) (L := [(79, .pointer (some ⟨r3, 0, none⟩))]) rfl (by kernel_rfl) ?_
            replace hr_206 := (hr_206.mod m213 (fun q => q))
            refine st_fn (d := 80) (f := 27) (xs := #[.pointer (some ⟨r3, 0, none⟩)]) (R := _) (by kernel_rfl) (Room_ok (w := w211) (r := r3) (A := A4) (cA := c5) (ring := ring198) (fr := fr170) (ct := ct199) (mk := mk200) (en := en201) (hr := hr_206) (A_n := A4_n) (A_c := by first | exact A4_c | omega) (fr_r := by omega) (ct_r := by omega) (mk_r := by omega) (hlen := by first | omega | (simp only [List.length_append, List.length_cons, List.length_nil, List.length_take, List.length_drop, List.length_set, List.length_replicate] at *; omega))) ?_
            rintro vw216 w216 ⟨rfl, m218⟩
            have hszw216 := m218.size
            by_cases h219 : ((ring198.length : Int) - ct199) = 1
            ·skip
             have hb220 : (((ring198.length : Int) - ct199) == 1) = true := beq_iff_eq.2 h219
             refine st_pure (l := [21, 22, 23]) (rest := [24, 25, 26, 27, 28]) (L := [(81, .bool (((ring198.length : Int) - ct199) == 1)), (82, .bool (((ring198.length : Int) - ct199) == 1)), (83, .bool true)]) rfl (Eq.trans (b := some [(81, .bool (((ring198.length : Int) - ct199) == 1)), (82, .bool (((ring198.length : Int) - ct199) == 1)), (83, .bool (((ring198.length : Int) - ct199) == 1))]) (by kernel_rfl) (by simp only [hb220])) ?_
             refine st_pure (l := [24]) (rest := [25, 26, 27, 28]) (L := [(84, .pointer (some ⟨r3, 0, none⟩))]) rfl (by kernel_rfl) ?_
             replace hr_206 := (hr_206.mod m218 (fun q => q))
             refine st_fn (d := 85) (f := 29) (xs := #[.pointer (some ⟨r3, 0, none⟩)]) (R := _) (by kernel_rfl) (Mark_ok (w := w216) (r := r3) (A := A4) (cA := c5) (ring := ring198) (fr := fr170) (ct := ct199) (mk := mk200) (en := en201) (hr := hr_206) (A_n := A4_n) (A_c := by first | exact A4_c | omega) (fr_r := by omega) (ct_r := by omega) (mk_r := by omega) (hlen := by first | omega | (simp only [List.length_append, List.length_cons, List.length_nil, List.length_take, List.length_drop, List.length_set, List.length_replicate] at *; omega))) ?_
             rintro vw221 w221 ⟨rfl, m223⟩
             have hszw221 := m223.size
             refine st_pure (l := [26, 27, 28]) (rest := []) (L := [(86, .bool (mk200 == 9)), (87, .bool (mk200 == 9)), (0, .bool (mk200 == 9))]) rfl (by kernel_rfl) ?_
             refine st_end ?_
             refine cut_fr 88 [(0, .bool (mk200 == 9))] (by kernel_rfl) (by kernel_rfl) ?_
             intro Tf
             refine wp_ret ?_
             refine post_ret (v := .bool (mk200 == 9)) (by kernel_rfl) ?_
             replace HM := (((((((((((((((((((((((HM.tr0 m14).tr0 m17).trans m39 (by intro k h1 h3; (try simp only [Iv] at h3 ⊢); omega)).tr0 m45).trans m67 (by intro k h1 h3; (try simp only [Iv] at h3 ⊢); omega)).trans m80 (by intro k h1 h3; (try simp only [Iv] at h3 ⊢); omega)).tr0 m83).trans m86 (by intro k h1 h3; (try simp only [Iv] at h3 ⊢); omega)).tr0 HGw87).tr0 m95).tr0 m102).trans m127 (by intro k h1 h3; (try simp only [Iv] at h3 ⊢); omega)).tr0 m134).trans m137 (by intro k h1 h3; (try simp only [Iv] at h3 ⊢); omega)).trans m159 (by intro k h1 h3; (try simp only [Iv] at h3 ⊢); omega)).tr0 m165).trans m177 (by intro k h1 h3; (try simp only [Iv] at h3 ⊢); omega)).trans m179 (by intro k h1 h3; (try simp only [Iv] at h3 ⊢); omega)).tr0 m186).trans m208 (by intro k h1 h3; (try simp only [Iv] at h3 ⊢); omega)).tr0 m213).tr0 m218).tr0 m223)
             refine ⟨mk200 == 9, ?_, rfl, HM⟩
             ·rw [lives25]
              try simp only [hm19]
              try simp only [hsp34]
              rw [if_neg h40]
              try simp only [hm47]
              try simp only [hsp62]
              rw [if_neg h68]
              try simp only [hsp76]
              rw [if_neg h89, if_neg h97]
              try simp only [hm105]
              try simp only [hsp122]
              rw [if_neg h129]
              try simp only [hm139]
              try simp only [hsp154]
              rw [if_neg h160, if_pos h166]
              try simp only [hsp173]
              rw [if_pos h180, if_pos h182]
              try simp only [hm188]
              try simp only [hsp203]
              rw [if_pos h209, if_pos h214, if_pos h219]
              all_goals (try rfl)
            ·skip
             have hb224 : (((ring198.length : Int) - ct199) == 1) = false := beq_eq_false_iff_ne.2 h219
             refine st_pure (l := [21, 22, 23]) (rest := [24, 25, 26, 27, 28]) (L := [(81, .bool (((ring198.length : Int) - ct199) == 1)), (82, .bool (((ring198.length : Int) - ct199) == 1)), (83, .bool false)]) rfl (Eq.trans (b := some [(81, .bool (((ring198.length : Int) - ct199) == 1)), (82, .bool (((ring198.length : Int) - ct199) == 1)), (83, .bool (((ring198.length : Int) - ct199) == 1))]) (by kernel_rfl) (by simp only [hb224])) ?_
             refine st_pure (l := [24, 25, 26, 27, 28]) (rest := []) (L := [(84, undef), (85, undef), (86, undef), (87, .bool false), (0, .bool false)]) rfl (by kernel_rfl) ?_
             refine st_end ?_
             refine cut_fr 88 [(0, .bool false)] (by kernel_rfl) (by kernel_rfl) ?_
             intro Tf
             refine wp_ret ?_
             refine post_ret (v := .bool false) (by kernel_rfl) ?_
             replace HM := ((((((((((((((((((((((HM.tr0 m14).tr0 m17).trans m39 (by intro k h1 h3; (try simp only [Iv] at h3 ⊢); omega)).tr0 m45).trans m67 (by intro k h1 h3; (try simp only [Iv] at h3 ⊢); omega)).trans m80 (by intro k h1 h3; (try simp only [Iv] at h3 ⊢); omega)).tr0 m83).trans m86 (by intro k h1 h3; (try simp only [Iv] at h3 ⊢); omega)).tr0 HGw87).tr0 m95).tr0 m102).trans m127 (by intro k h1 h3; (try simp only [Iv] at h3 ⊢); omega)).tr0 m134).trans m137 (by intro k h1 h3; (try simp only [Iv] at h3 ⊢); omega)).trans m159 (by intro k h1 h3; (try simp only [Iv] at h3 ⊢); omega)).tr0 m165).trans m177 (by intro k h1 h3; (try simp only [Iv] at h3 ⊢); omega)).trans m179 (by intro k h1 h3; (try simp only [Iv] at h3 ⊢); omega)).tr0 m186).trans m208 (by intro k h1 h3; (try simp only [Iv] at h3 ⊢); omega)).tr0 m213).tr0 m218)
             refine ⟨false, ?_, rfl, HM⟩
             ·rw [lives25]
              try simp only [hm19]
              try simp only [hsp34]
              rw [if_neg h40]
              try simp only [hm47]
              try simp only [hsp62]
              rw [if_neg h68]
              try simp only [hsp76]
              rw [if_neg h89, if_neg h97]
              try simp only [hm105]
              try simp only [hsp122]
              rw [if_neg h129]
              try simp only [hm139]
              try simp only [hsp154]
              rw [if_neg h160, if_pos h166]
              try simp only [hsp173]
              rw [if_pos h180, if_pos h182]
              try simp only [hm188]
              try simp only [hsp203]
              rw [if_pos h209, if_pos h214, if_neg h219]
              all_goals (try rfl)
           ·skip
            have hb225 : (ct199 == 0) = false := beq_eq_false_iff_ne.2 h214
            refine st_pure (l := [16, 17, 18]) (rest := [19, 20, 21, 22, 23, 24, 25, 26, 27, 28]) (L := [(76, .bool (ct199 == 0)), (77, .bool (ct199 == 0)), (78, .bool false)]) rfl (Eq.trans (b := some [(76, .bool (ct199 == 0)), (77, .bool (ct199 == 0)), (78, .bool (ct199 == 0))]) (by kernel_rfl) (by simp only [hb225])) ?_
            refine st_pure (l := [19, 20, 21, 22, 23, 24, 25, 26, 27, 28]) (rest := []) (L := [(79, undef), (80, undef), (81, undef), (82, .bool false), (83, .bool false), (84, undef), (85, undef), (86, undef), (87, .bool false), (0, .bool false)]) rfl (by kernel_rfl) ?_
            refine st_end ?_
            refine cut_fr 88 [(0, .bool false)] (by kernel_rfl) (by kernel_rfl) ?_
            intro Tf
            refine wp_ret ?_
            refine post_ret (v := .bool false) (by kernel_rfl) ?_
            replace HM := (((((((((((((((((((((HM.tr0 m14).tr0 m17).trans m39 (by intro k h1 h3; (try simp only [Iv] at h3 ⊢); omega)).tr0 m45).trans m67 (by intro k h1 h3; (try simp only [Iv] at h3 ⊢); omega)).trans m80 (by intro k h1 h3; (try simp only [Iv] at h3 ⊢); omega)).tr0 m83).trans m86 (by intro k h1 h3; (try simp only [Iv] at h3 ⊢); omega)).tr0 HGw87).tr0 m95).tr0 m102).trans m127 (by intro k h1 h3; (try simp only [Iv] at h3 ⊢); omega)).tr0 m134).trans m137 (by intro k h1 h3; (try simp only [Iv] at h3 ⊢); omega)).trans m159 (by intro k h1 h3; (try simp only [Iv] at h3 ⊢); omega)).tr0 m165).trans m177 (by intro k h1 h3; (try simp only [Iv] at h3 ⊢); omega)).trans m179 (by intro k h1 h3; (try simp only [Iv] at h3 ⊢); omega)).tr0 m186).trans m208 (by intro k h1 h3; (try simp only [Iv] at h3 ⊢); omega)).tr0 m213)
            refine ⟨false, ?_, rfl, HM⟩
            ·rw [lives25]
             try simp only [hm19]
             try simp only [hsp34]
             rw [if_neg h40]
             try simp only [hm47]
             try simp only [hsp62]
             rw [if_neg h68]
             try simp only [hsp76]
             rw [if_neg h89, if_neg h97]
             try simp only [hm105]
             try simp only [hsp122]
             rw [if_neg h129]
             try simp only [hm139]
             try simp only [hsp154]
             rw [if_neg h160, if_pos h166]
             try simp only [hsp173]
             rw [if_pos h180, if_pos h182]
             try simp only [hm188]
             try simp only [hsp203]
             rw [if_pos h209, if_neg h214]
             all_goals (try rfl)
          ·skip
           have hb226 : (e197 == 10) = false := beq_eq_false_iff_ne.2 h209
           refine st_pure (l := [11, 12, 13]) (rest := [14, 15, 16, 17, 18, 19, 20, 21, 22, 23, 24, 25, 26, 27, 28]) (L := [(71, .bool (e197 == 10)), (72, .bool (e197 == 10)), (73, .bool false)]) rfl (Eq.trans (b := some [(71, .bool (e197 == 10)), (72, .bool (e197 == 10)), (73, .bool (e197 == 10))]) (by kernel_rfl) (by simp only [hb226])) ?_
           refine st_pure (l := [14, 15, 16, 17, 18, 19, 20, 21, 22, 23, 24, 25, 26, 27, 28]) (rest := []) (L := [(74, undef), (75, undef), (76, undef), (77, .bool false), (78, .bool false), (79, undef), (80, undef), (81, undef), (82, .bool false), (83, .bool false), (84, undef), (85, undef), (86, undef), (87, .bool false), (0, .bool false)]) rfl (by kernel_rfl) ?_
           refine st_end ?_
           refine cut_fr 88 [(0, .bool false)] (by kernel_rfl) (by kernel_rfl) ?_
           intro Tf
           refine wp_ret ?_
           refine post_ret (v := .bool false) (by kernel_rfl) ?_
           replace HM := ((((((((((((((((((((HM.tr0 m14).tr0 m17).trans m39 (by intro k h1 h3; (try simp only [Iv] at h3 ⊢); omega)).tr0 m45).trans m67 (by intro k h1 h3; (try simp only [Iv] at h3 ⊢); omega)).trans m80 (by intro k h1 h3; (try simp only [Iv] at h3 ⊢); omega)).tr0 m83).trans m86 (by intro k h1 h3; (try simp only [Iv] at h3 ⊢); omega)).tr0 HGw87).tr0 m95).tr0 m102).trans m127 (by intro k h1 h3; (try simp only [Iv] at h3 ⊢); omega)).tr0 m134).trans m137 (by intro k h1 h3; (try simp only [Iv] at h3 ⊢); omega)).trans m159 (by intro k h1 h3; (try simp only [Iv] at h3 ⊢); omega)).tr0 m165).trans m177 (by intro k h1 h3; (try simp only [Iv] at h3 ⊢); omega)).trans m179 (by intro k h1 h3; (try simp only [Iv] at h3 ⊢); omega)).tr0 m186).trans m208 (by intro k h1 h3; (try simp only [Iv] at h3 ⊢); omega))
           refine ⟨false, ?_, rfl, HM⟩
           ·rw [lives25]
            try simp only [hm19]
            try simp only [hsp34]
            rw [if_neg h40]
            try simp only [hm47]
            try simp only [hsp62]
            rw [if_neg h68]
            try simp only [hsp76]
            rw [if_neg h89, if_neg h97]
            try simp only [hm105]
            try simp only [hsp122]
            rw [if_neg h129]
            try simp only [hm139]
            try simp only [hsp154]
            rw [if_neg h160, if_pos h166]
            try simp only [hsp173]
            rw [if_pos h180, if_pos h182]
            try simp only [hm188]
            try simp only [hsp203]
            rw [if_neg h209]
            all_goals (try rfl)
         ·skip
          have hb227 : (((m168.kind.toInt == 5) && ((m168.time.toInt == 9) && ((m168.cls.toInt == 0) && (((m168.high.toNat : Int) == 0) && ((m168.bank.toInt == 0) && ((m168.place.toInt == 0) && (((m168.value.toNat : Int) == 0) && true))))))) != false) = false := by rw [show ((m168.kind.toInt == 5) && ((m168.time.toInt == 9) && ((m168.cls.toInt == 0) && (((m168.high.toNat : Int) == 0) && ((m168.bank.toInt == 0) && ((m168.place.toInt == 0) && (((m168.value.toNat : Int) == 0) && true))))))) = false from Bool.eq_false_iff.2 fun hh => h182 (by first | (simpa only [Bool.and_eq_true, beq_iff_eq, Bool.and_true, true_and, and_true] using hh) | simp_all)]; rfl
          refine st_pure (l := [6, 7]) (rest := [8, 9, 10, 11, 12, 13, 14, 15, 16, 17, 18, 19, 20, 21, 22, 23, 24, 25, 26, 27, 28]) (L := [(66, .bool (((m168.kind.toInt == 5) && ((m168.time.toInt == 9) && ((m168.cls.toInt == 0) && (((m168.high.toNat : Int) == 0) && ((m168.bank.toInt == 0) && ((m168.place.toInt == 0) && (((m168.value.toNat : Int) == 0) && true))))))) != false)), (67, .bool false)]) rfl (Eq.trans (b := some [(66, .bool (((m168.kind.toInt == 5) && ((m168.time.toInt == 9) && ((m168.cls.toInt == 0) && (((m168.high.toNat : Int) == 0) && ((m168.bank.toInt == 0) && ((m168.place.toInt == 0) && (((m168.value.toNat : Int) == 0) && true))))))) != false)), (67, .bool (((m168.kind.toInt == 5) && ((m168.time.toInt == 9) && ((m168.cls.toInt == 0) && (((m168.high.toNat : Int) == 0) && ((m168.bank.toInt == 0) && ((m168.place.toInt == 0) && (((m168.value.toNat : Int) == 0) && true))))))) != false))]) (by kernel_rfl) (by simp only [hb227])) ?_
          refine st_pure (l := [8, 9, 10, 11, 12, 13, 14, 15, 16, 17, 18, 19, 20, 21, 22, 23, 24, 25, 26, 27, 28]) (rest := []) (L := [(68, undef), (69, undef), (70, undef), (71, undef), (72, .bool false), (73, .bool false), (74, undef), (75, undef), (76, undef), (77, .bool false), (78, .bool false), (79, undef), (80, undef), (81, undef), (82, .bool false), (83, .bool false), (84, undef), (85, undef), (86, undef), (87, .bool false), (0, .bool false)]) rfl (by kernel_rfl) ?_
          refine st_end ?_
          refine cut_fr 88 [(0, .bool false)] (by kernel_rfl) (by kernel_rfl) ?_
          intro Tf
          refine wp_ret ?_
          refine post_ret (v := .bool false) (by kernel_rfl) ?_
          replace HM := ((((((((((((((((((HM.tr0 m14).tr0 m17).trans m39 (by intro k h1 h3; (try simp only [Iv] at h3 ⊢); omega)).tr0 m45).trans m67 (by intro k h1 h3; (try simp only [Iv] at h3 ⊢); omega)).trans m80 (by intro k h1 h3; (try simp only [Iv] at h3 ⊢); omega)).tr0 m83).trans m86 (by intro k h1 h3; (try simp only [Iv] at h3 ⊢); omega)).tr0 HGw87).tr0 m95).tr0 m102).trans m127 (by intro k h1 h3; (try simp only [Iv] at h3 ⊢); omega)).tr0 m134).trans m137 (by intro k h1 h3; (try simp only [Iv] at h3 ⊢); omega)).trans m159 (by intro k h1 h3; (try simp only [Iv] at h3 ⊢); omega)).tr0 m165).trans m177 (by intro k h1 h3; (try simp only [Iv] at h3 ⊢); omega)).trans m179 (by intro k h1 h3; (try simp only [Iv] at h3 ⊢); omega))
          refine ⟨false, ?_, rfl, HM⟩
          ·rw [lives25]
           try simp only [hm19]
           try simp only [hsp34]
           rw [if_neg h40]
           try simp only [hm47]
           try simp only [hsp62]
           rw [if_neg h68]
           try simp only [hsp76]
           rw [if_neg h89, if_neg h97]
           try simp only [hm105]
           try simp only [hsp122]
           rw [if_neg h129]
           try simp only [hm139]
           try simp only [hsp154]
           rw [if_neg h160, if_pos h166]
           try simp only [hsp173]
           rw [if_pos h180, if_neg h182]
           all_goals (try rfl)
        ·skip
         have hb228 : (e169 == 0) = false := beq_eq_false_iff_ne.2 h180
         refine st_pure (l := [0, 1, 2]) (rest := [3, 4, 5, 6, 7, 8, 9, 10, 11, 12, 13, 14, 15, 16, 17, 18, 19, 20, 21, 22, 23, 24, 25, 26, 27, 28]) (L := [(60, .int .i64 e169), (61, .bool (e169 == 0)), (62, .bool false)]) rfl (Eq.trans (b := some [(60, .int .i64 e169), (61, .bool (e169 == 0)), (62, .bool (e169 == 0))]) (by kernel_rfl) (by simp only [hb228])) ?_
         refine st_pure (l := [3, 4, 5, 6, 7, 8, 9, 10, 11, 12, 13, 14, 15, 16, 17, 18, 19, 20, 21, 22, 23, 24, 25, 26, 27, 28]) (rest := []) (L := [(63, undef), (64, undef), (65, undef), (66, .bool false), (67, .bool false), (68, undef), (69, undef), (70, undef), (71, undef), (72, .bool false), (73, .bool false), (74, undef), (75, undef), (76, undef), (77, .bool false), (78, .bool false), (79, undef), (80, undef), (81, undef), (82, .bool false), (83, .bool false), (84, undef), (85, undef), (86, undef), (87, .bool false), (0, .bool false)]) rfl (by kernel_rfl) ?_
         refine st_end ?_
         refine cut_fr 88 [(0, .bool false)] (by kernel_rfl) (by kernel_rfl) ?_
         intro Tf
         refine wp_ret ?_
         refine post_ret (v := .bool false) (by kernel_rfl) ?_
         replace HM := ((((((((((((((((((HM.tr0 m14).tr0 m17).trans m39 (by intro k h1 h3; (try simp only [Iv] at h3 ⊢); omega)).tr0 m45).trans m67 (by intro k h1 h3; (try simp only [Iv] at h3 ⊢); omega)).trans m80 (by intro k h1 h3; (try simp only [Iv] at h3 ⊢); omega)).tr0 m83).trans m86 (by intro k h1 h3; (try simp only [Iv] at h3 ⊢); omega)).tr0 HGw87).tr0 m95).tr0 m102).trans m127 (by intro k h1 h3; (try simp only [Iv] at h3 ⊢); omega)).tr0 m134).trans m137 (by intro k h1 h3; (try simp only [Iv] at h3 ⊢); omega)).trans m159 (by intro k h1 h3; (try simp only [Iv] at h3 ⊢); omega)).tr0 m165).trans m177 (by intro k h1 h3; (try simp only [Iv] at h3 ⊢); omega)).trans m179 (by intro k h1 h3; (try simp only [Iv] at h3 ⊢); omega))
         refine ⟨false, ?_, rfl, HM⟩
         ·rw [lives25]
          try simp only [hm19]
          try simp only [hsp34]
          rw [if_neg h40]
          try simp only [hm47]
          try simp only [hsp62]
          rw [if_neg h68]
          try simp only [hsp76]
          rw [if_neg h89, if_neg h97]
          try simp only [hm105]
          try simp only [hsp122]
          rw [if_neg h129]
          try simp only [hm139]
          try simp only [hsp154]
          rw [if_neg h160, if_pos h166]
          try simp only [hsp173]
          rw [if_neg h180]
          all_goals (try rfl)
       ·skip
        have hb229 : (en152) = false := by simpa using h166
        rw [hb229] at hv164; subst hv164
        refine st_pure (l := [7, 8]) (rest := []) (L := [(53, .bool true), (54, .bool true)]) rfl (by kernel_rfl) ?_
        refine st_end ?_
        refine then_n ?_
        refine c_true (by kernel_rfl) ?_
        refine wp_seq ?_
        refine c_region (L := [0]) (by kernel_rfl) ?_
        refine st_pure (l := [0]) (rest := []) (L := [(0, .bool false)]) rfl (by kernel_rfl) ?_
        refine st_end ?_
        refine then_n ?_
        refine wp_ret ?_
        refine then_r ?_
        refine post_ret (v := .bool false) (by kernel_rfl) ?_
        replace HM := ((((((((((((((((HM.tr0 m14).tr0 m17).trans m39 (by intro k h1 h3; (try simp only [Iv] at h3 ⊢); omega)).tr0 m45).trans m67 (by intro k h1 h3; (try simp only [Iv] at h3 ⊢); omega)).trans m80 (by intro k h1 h3; (try simp only [Iv] at h3 ⊢); omega)).tr0 m83).trans m86 (by intro k h1 h3; (try simp only [Iv] at h3 ⊢); omega)).tr0 HGw87).tr0 m95).tr0 m102).trans m127 (by intro k h1 h3; (try simp only [Iv] at h3 ⊢); omega)).tr0 m134).trans m137 (by intro k h1 h3; (try simp only [Iv] at h3 ⊢); omega)).trans m159 (by intro k h1 h3; (try simp only [Iv] at h3 ⊢); omega)).tr0 m165)
        refine ⟨false, ?_, rfl, HM⟩
        ·rw [lives25]
         try simp only [hm19]
         try simp only [hsp34]
         rw [if_neg h40]
         try simp only [hm47]
         try simp only [hsp62]
         rw [if_neg h68]
         try simp only [hsp76]
         rw [if_neg h89, if_neg h97]
         try simp only [hm105]
         try simp only [hsp122]
         rw [if_neg h129]
         try simp only [hm139]
         try simp only [hsp154]
         rw [if_neg h160, if_neg h166]
         all_goals (try rfl)

end Go.Proofs.Ytjkapifbinmjhaa
