import Derived.Test.YtjkapifbinmjhaaG1
namespace Go.Proofs.Ytjkapifbinmjhaa
open Go.Vx Go.RowKit
set_option linter.unusedVariables false
set_option linter.unusedSimpArgs false
set_option maxRecDepth 100000
theorem Equal_u8 {w : World} {A : Option Addr} {cA : Nat} {l : List UInt8} {lo : Nat} {hi : Nat} {B : Option Addr} {cB : Nat} {m : List UInt8} {lo' : Nat} {hi' : Nat} (hl : RdA tyU8 w lo hi A l) (hm : RdA tyU8 w lo' hi' B m) (A_n : A = none → cA = 0) (A_c : l.length ≤ cA) (B_n : B = none → cB = 0) (B_c : m.length ≤ cB) (hl_hi : hi ≤ w.heap.size) (hm_hi : hi' ≤ w.heap.size) :
  Ret Try.prog 114 #[.slice A l.length cA, .slice B m.length cB] w fun v w' => ∃ d : Bool, decide (l = m) = d ∧ v = .bool d ∧ Mod (Nil) w w' := by
 have hl_l := hl.len
 have hm_l := hm.len
 have HM : Mod (Nil) w w := Mod.refl _ w
 refine ret_of Try.func114 rfl rfl ?_
 refine wp_seq ?_
 refine c_region (L := [0]) (by kernel_rfl) ?_
 refine st_pure (l := [0]) (rest := []) (L := [(4, .bool false)]) rfl (by kernel_rfl) ?_
 refine st_end ?_
 refine then_n ?_
 refine wp_seq ?_
 refine wp_seq ?_
 refine c_region (L := [0, 1, 2, 3, 4]) (by kernel_rfl) ?_
 by_cases h1 : (l.length : Int) ≠ (m.length : Int)
 ·skip
  have hb2 : ((l.length : Int) != (m.length : Int)) = true := by first | (rw [bne_iff_ne]; exact h1) | (rw [bne_eq_false_iff_eq]; omega)
  refine st_pure (l := [0, 1, 2, 3, 4]) (rest := []) (L := [(6, .slice A l.length cA), (7, .int .i64 (l.length : Int)), (8, .slice B m.length cB), (9, .int .i64 (m.length : Int)), (10, .bool true)]) rfl (Eq.trans (b := some [(6, .slice A l.length cA), (7, .int .i64 (l.length : Int)), (8, .slice B m.length cB), (9, .int .i64 (m.length : Int)), (10, .bool ((l.length : Int) != (m.length : Int)))]) (by kernel_rfl) (by simp only [hb2])) ?_
  refine st_end ?_
  refine then_n ?_
  refine c_true (by kernel_rfl) ?_
  refine wp_seq ?_
  refine c_region (L := [0]) (by kernel_rfl) ?_
  refine st_pure (l := [0]) (rest := []) (L := [(4, .bool false)]) rfl (by kernel_rfl) ?_
  refine st_end ?_
  refine then_n ?_
  refine wp_ret ?_
  refine then_r ?_
  refine post_ret (v := .bool false) (by kernel_rfl) ?_
  refine ⟨false, ?_, rfl, HM⟩
  ·exact decide_eq_false (by intro hh; have h9 := congrArg List.length hh; omega)
 ·skip
  have hb3 : ((l.length : Int) != (m.length : Int)) = false := by rw [bne_eq_false_iff_eq]; exact Decidable.not_not.1 h1
  refine st_pure (l := [0, 1, 2, 3, 4]) (rest := []) (L := [(6, .slice A l.length cA), (7, .int .i64 (l.length : Int)), (8, .slice B m.length cB), (9, .int .i64 (m.length : Int)), (10, .bool false)]) rfl (Eq.trans (b := some [(6, .slice A l.length cA), (7, .int .i64 (l.length : Int)), (8, .slice B m.length cB), (9, .int .i64 (m.length : Int)), (10, .bool ((l.length : Int) != (m.length : Int)))]) (by kernel_rfl) (by simp only [hb3])) ?_
  refine st_end ?_
  refine then_n ?_
  refine c_false (by kernel_rfl) ?_
  refine wp_skip ?_
  refine then_n ?_
  refine wp_seq ?_
  refine wp_seq ?_
  refine c_region (L := [0, 1, 2]) (by kernel_rfl) ?_
  refine st_pure (l := [0, 1, 2]) (rest := []) (L := [(11, .slice A l.length cA), (12, .int .i64 (l.length : Int)), (13, .int .i64 0)]) rfl (by kernel_rfl) ?_
  refine st_end ?_
  refine then_n ?_
  refine wp_block ?_
  refine c_loop (σ := Int) (fun s a w' => match s with | i => Fr 26 [(0, .slice A l.length cA), (1, .slice B m.length cB), (6, .slice A l.length cA), (7, .int .i64 (l.length : Int)), (8, .slice B m.length cB), (9, .int .i64 (m.length : Int)), (10, .bool false), (11, .slice A l.length cA), (12, .int .i64 (l.length : Int)), (13, .int .i64 i)] a ∧ Mod (Nil) w w' ∧ w.heap.size ≤ w'.heap.size ∧ RdA tyU8 w' lo hi A l ∧ RdA tyU8 w' lo' hi' B m ∧ (0 ≤ i ∧ i ≤ l.length) ∧ (l.take i.toNat = m.take i.toNat) ∧ True) (fun s => match s with | i => (l.length - i.toNat)) (0) ?_ ?_
  ·refine ⟨Fr.mk (by kernel_rfl) (by kernel_rfl), HM, Nat.le_refl _, hl, hm, ?_, ?_, trivial⟩
   ·omega
   ·rfl
  ·rintro i a w4 ⟨⟨Tf, rfl⟩, HM', hszw4, hl', hm', hib, hpre, -⟩
   clear HM hl hm
   have HM := HM'; clear HM'
   have hl := hl'; clear hl'
   have hm := hm'; clear hm'
   refine wp_seq ?_
   refine c_region (L := [0]) (by kernel_rfl) ?_
   by_cases h5 : i < (l.length : Int)
   ·skip
    have hb6 : (decide (i < (l.length : Int))) = true := decide_eq_true h5
    refine st_pure (l := [0]) (rest := []) (L := [(14, .bool true)]) rfl (Eq.trans (b := some [(14, .bool (decide (i < (l.length : Int))))]) (by kernel_rfl) (by simp only [hb6])) ?_
    refine st_end ?_
    refine then_n ?_
    refine wp_seq ?_
    refine c_true (by kernel_rfl) ?_
    refine wp_skip ?_
    refine then_n ?_
    refine wp_seq ?_
    refine wp_block ?_
    refine wp_seq ?_
    refine c_region (L := [0, 1]) (by kernel_rfl) ?_
    refine st_pure (l := [0, 1]) (rest := []) (L := [(15, .int .i64 i), (5, .int .i64 i)]) rfl (by kernel_rfl) ?_
    refine st_end ?_
    refine then_n ?_
    refine wp_seq ?_
    refine c_drawS (Nil) (Nil) [0, 1, 2, 3, 4, 5, 6, 7, 8] [] 0 (fun _ q => q) (by kernel_rfl) (n := 9) (by kernel_rfl) (by kernel_rfl) ?_
    intro w7 HGw7
    have hl_w7 := hl
    have hm_w7 := hm
    have HC8 : Mod (Nil) w4 w7 := Mod.weaken HGw7 fun _ _ q => q.elim
    replace hl := hl.mod0 HGw7
    replace hm := hm.mod0 HGw7
    replace HM := HM.tr0 HGw7
    have hszw7 := HGw7.size
    refine m_p (k := 0) (n := 2) (fuel := 7) (L := [(16, .slice A l.length cA), (17, .int .i64 i)]) (by kernel_rfl) (by kernel_rfl) rfl ?_
    have hi12 : (i).toNat < (l).length := by omega
    obtain ⟨b9, o10, ehA11, lhA11, uhA11, hA11⟩ := hl_w7.get hi12
    obtain ⟨x13, ex13⟩ : ∃ y, y = (l)[(i).toNat] := ⟨_, rfl⟩
    rw [← ex13] at hA11
    have dx13 := getD_of (d := 0) hi12 ex13
    have hrx13 : x13.toNat < 256 := UInt8.toNat_lt x13
    refine m_index (d := 18) (tn := 23) (n := l.length) (c := cA) (ix := i) (kd := .i64) (e := 5) (t := tyU8) (b := b9) (by kernel_rfl) (by kernel_rfl) Try.underlying23 (by kernel_rfl) ehA11 (by omega) (by omega) ?_
    refine m_load (d := 19) (t := 5) (b := b9) (o := o10 + (i).toNat * 1) (v := .int .u8 (x13.toNat : Int)) (by kernel_rfl) (by kernel_rfl) (fun wQ (mQ : Mod (Nil) w4 wQ) => (hA11.mod mQ (fun q => q)).dropk 0) (by kernel_rfl) ?_
    refine m_p (k := 4) (n := 2) (fuel := 3) (L := [(20, .slice B m.length cB), (21, .int .i64 i)]) (by kernel_rfl) (by kernel_rfl) rfl ?_
    have hi17 : (i).toNat < (m).length := by omega
    obtain ⟨b14, o15, ehA16, lhA16, uhA16, hA16⟩ := hm_w7.get hi17
    obtain ⟨x18, ex18⟩ : ∃ y, y = (m)[(i).toNat] := ⟨_, rfl⟩
    rw [← ex18] at hA16
    have dx18 := getD_of (d := 0) hi17 ex18
    have hrx18 : x18.toNat < 256 := UInt8.toNat_lt x18
    refine m_index (d := 22) (tn := 23) (n := m.length) (c := cB) (ix := i) (kd := .i64) (e := 5) (t := tyU8) (b := b14) (by kernel_rfl) (by kernel_rfl) Try.underlying23 (by kernel_rfl) ehA16 (by omega) (by omega) ?_
    refine m_load (d := 23) (t := 5) (b := b14) (o := o15 + (i).toNat * 1) (v := .int .u8 (x18.toNat : Int)) (by kernel_rfl) (by kernel_rfl) (fun wQ (mQ : Mod (Nil) w4 wQ) => (hA16.mod mQ (fun q => q)).dropk 0) (by kernel_rfl) ?_
    by_cases h19 : (x13.toNat : Int) ≠ (x18.toNat : Int)
    ·skip
     have hb20 : ((x13.toNat : Int) != (x18.toNat : Int)) = true := by first | (rw [bne_iff_ne]; exact h19) | (rw [bne_eq_false_iff_eq]; omega)
     refine m_p (k := 8) (n := 1) (fuel := 0) (L := [(24, .bool true)]) (by kernel_rfl) (Eq.trans (b := some [(24, .bool ((x13.toNat : Int) != (x18.toNat : Int)))]) (by kernel_rfl) (by simp only [hb20])) rfl ?_
     refine m_end ?_
     clear hA11
     clear hA16
     refine then_n ?_
     refine c_true (by kernel_rfl) ?_
     refine wp_seq ?_
     refine c_region (L := [0]) (by kernel_rfl) ?_
     refine st_pure (l := [0]) (rest := []) (L := [(4, .bool false)]) rfl (by kernel_rfl) ?_
     refine st_end ?_
     refine then_n ?_
     refine wp_ret ?_
     refine blk_r ?_
     refine then_r ?_
     refine then_r ?_
     refine blk_r ?_
     refine then_r ?_
     refine post_ret (v := .bool false) (by kernel_rfl) ?_
     refine ⟨false, ?_, rfl, HM⟩
     ·exact decide_eq_false (by intro hh; subst hh; rw [← ex13] at ex18; subst ex18; omega)
    ·skip
     have hb21 : ((x13.toNat : Int) != (x18.toNat : Int)) = false := by rw [bne_eq_false_iff_eq]; exact Decidable.not_not.1 h19
     refine m_p (k := 8) (n := 1) (fuel := 0) (L := [(24, .bool false)]) (by kernel_rfl) (Eq.trans (b := some [(24, .bool ((x13.toNat : Int) != (x18.toNat : Int)))]) (by kernel_rfl) (by simp only [hb21])) rfl ?_
     refine m_end ?_
     clear hA11
     clear hA16
     refine then_n ?_
     refine c_false (by kernel_rfl) ?_
     refine wp_skip ?_
     refine blk_n ?_
     refine then_n ?_
     refine c_region (L := [0, 1]) (by kernel_rfl) ?_
     have hw22 : IntKind.wrap .i64 (i + 1) = i + 1 := wi64 (by omega) (by omega)
     refine st_pure (l := [0]) (rest := [1]) (L := [(25, .int .i64 (i + 1))]) rfl (Eq.trans (b := some [(25, .int .i64 (IntKind.wrap .i64 (i + 1)))]) (by kernel_rfl) (by simp only [hw22])) ?_
     refine st_pure (l := [1]) (rest := []) (L := [(13, .int .i64 (i + 1))]) rfl (by kernel_rfl) ?_
     refine st_end ?_
     refine then_n ?_
     refine ⟨(i + 1), ⟨Fr.mk (by kernel_rfl) (by kernel_rfl), HM, by omega, hl, hm, ?_, ?_, trivial⟩, ?_⟩
     ·omega
     ·have h8 := eq_step (l := l) (m := m) (i := i.toNat) (by omega) (by omega) ex13 ex18 hpre (u8_ext (by omega)); rw [show (i + 1).toNat = i.toNat + 1 by omega]; exact h8
     ·dsimp only; omega
   ·skip
    have hb23 : (decide (i < (l.length : Int))) = false := decide_eq_false h5
    refine st_pure (l := [0]) (rest := []) (L := [(14, .bool false)]) rfl (Eq.trans (b := some [(14, .bool (decide (i < (l.length : Int))))]) (by kernel_rfl) (by simp only [hb23])) ?_
    refine st_end ?_
    refine then_n ?_
    refine wp_seq ?_
    refine c_false (by kernel_rfl) ?_
    refine wp_exit ?_
    refine then_x ?_
    refine then_x ?_
    refine blk_hit ?_
    refine then_n ?_
    refine wp_seq ?_
    refine c_region (L := [0]) (by kernel_rfl) ?_
    refine st_pure (l := [0]) (rest := []) (L := [(4, .bool true)]) rfl (by kernel_rfl) ?_
    refine st_end ?_
    refine then_n ?_
    refine wp_ret ?_
    refine post_ret (v := .bool true) (by kernel_rfl) ?_
    refine ⟨true, ?_, rfl, HM⟩
    ·exact decide_eq_true (by have h9 := hpre; rw [List.take_of_length_le (by omega), List.take_of_length_le (by omega)] at h9; exact h9)

theorem kit_Bytes {w : World} {A : Option Addr} {cA : Nat} {l : List UInt8} {lo : Nat} {hi : Nat} {B : Option Addr} {cB : Nat} {m : List UInt8} {lo' : Nat} {hi' : Nat} (hl : RdA tyU8 w lo hi A l) (hm : RdA tyU8 w lo' hi' B m) (A_n : A = none → cA = 0) (A_c : l.length ≤ cA) (B_n : B = none → cB = 0) (B_c : m.length ≤ cB) (hl_hi : hi ≤ w.heap.size) (hm_hi : hi' ≤ w.heap.size) :
  Ret Try.prog 17 #[.slice A l.length cA, .slice B m.length cB] w fun v w' => v = .bool (decide (l = m)) ∧ Mod (Nil) w w' := by
 have hl_l := hl.len
 have hm_l := hm.len
 have HM : Mod (Nil) w w := Mod.refl _ w
 refine ret_of Try.func17 rfl rfl ?_
 refine wp_seq ?_
 refine c_region (L := [0]) (by kernel_rfl) ?_
 refine st_pure (l := [0]) (rest := []) (L := [(4, .bool false)]) rfl (by kernel_rfl) ?_
 refine st_end ?_
 refine then_n ?_
 refine wp_seq ?_
 refine c_region (L := [0, 1, 2, 3, 4, 5]) (by kernel_rfl) ?_
 refine st_pure (l := [0]) (rest := [1, 2, 3, 4, 5]) (L := [(5, .slice A l.length cA)]) rfl (by kernel_rfl) ?_
 refine st_comes (d := 6) (v := .string (⟨l.toArray⟩)) (comes_str (n := l.length) (c := cA) (l := l) (by kernel_rfl) Try.underlying23 Try.underlying5 Try.underlying9 hl (by first | rfl | simp)) ?_
 refine st_pure (l := [2]) (rest := [3, 4, 5]) (L := [(7, .slice B m.length cB)]) rfl (by kernel_rfl) ?_
 refine st_comes (d := 8) (v := .string (⟨m.toArray⟩)) (comes_str (n := m.length) (c := cB) (l := m) (by kernel_rfl) Try.underlying23 Try.underlying5 Try.underlying9 hm (by first | rfl | simp)) ?_
 refine st_comes (d := 9) (v := .bool (decide (l = m) != false)) (comes_eqStr (t := 9) (neg := false) (l := l) (m := m) (by kernel_rfl)) ?_
 refine st_pure (l := [5]) (rest := []) (L := [(4, .bool (decide (l = m) != false))]) rfl (by kernel_rfl) ?_
 refine st_end ?_
 refine then_n ?_
 refine wp_ret ?_
 refine post_ret (v := .bool (decide (l = m) != false)) (by kernel_rfl) ?_
 have hq1 : (decide (l = m) != false) = (decide (l = m)) := by first | rfl | exact (decide_eq_true (by omega)).symm | exact (decide_eq_false (by omega)).symm | (simp only [ne_eq, decide_not]; rfl) | simp_all
 refine ⟨(congrArg (fun zB => (.bool zB : Value)) hq1), HM⟩

theorem kit_Own {w : World} {A : Option Addr} {cA : Nat} {l : List UInt8} {lo : Nat} {hi : Nat} (hl : RdA tyU8 w lo hi A l) (A_n : A = none → cA = 0) (A_c : l.length ≤ cA) (hl_hi : hi ≤ w.heap.size) :
  Ret Try.prog 33 #[.slice A l.length cA] w fun v w' => ∃ A2 : Option Addr, ∃ c2 : Nat, v = .slice A2 l.length c2 ∧ (A2 = none → c2 = 0) ∧ (l.length ≤ c2) ∧ Own tyU8 5 w' (w.heap.size) (w'.heap.size) (.slice A2 l.length c2) l ∧ RdA tyU8 w' (w.heap.size) (w'.heap.size) A2 l ∧ Mod (Nil) w w' := by
 have hl_l := hl.len
 have HM : Mod (Nil) w w := Mod.refl _ w
 refine ret_of Try.func33 rfl rfl ?_
 refine wp_seq ?_
 refine c_region (L := [0]) (by kernel_rfl) ?_
 refine st_pure (l := [0]) (rest := []) (L := [(2, .slice none 0 0)]) rfl (by kernel_rfl) ?_
 refine st_end ?_
 refine then_n ?_
 refine wp_seq ?_
 refine c_region (L := [0, 1, 2, 3]) (by kernel_rfl) ?_
 refine st_new (d := 3) (e := 5) (C := []) (V := fun r => .slice (some ⟨r, 0, none⟩) 0 0) (by kernel_rfl) ?_
 intro b1 w2 m3 lb1 ub1 hB4
 replace hl := hl.mod0 m3
 replace HM := HM.tr0 m3
 have hszw2 := m3.size
 refine st_pure (l := [1]) (rest := [2, 3]) (L := [(4, .slice A l.length cA)]) rfl (by kernel_rfl) ?_
 refine st_append (d := 5) (tn := 23) (e := 5) (ty := 23) (t := tyU8) (v := .slice (some ⟨b1, 0, none⟩) 0 0) (A := A) (n := l.length) (c := cA) (l := []) (m := l) (z := .int .u8 0) (bytes := 1) (by kernel_rfl) Try.underlying23 (by kernel_rfl) rfl (by decide) (Blk.own (t := tyU8) (l := []) hB4 rfl (by simp) b1 (b1 + 1) (Nat.le_refl _) (by omega)) hl (by simp) (by simp only [List.length_append, List.length_cons, List.length_nil, List.length_take, List.length_drop] at *; omega) (by omega) A_n ?_
 intro v5 w6 m7 hO8
 clear hB4
 replace hl := hl.mod m7 (by intro k h1 h2 h3; (try simp only [Iv] at h3); omega)
 replace HM := HM.trans m7 (by intro k h1 h3; (try simp only [Iv] at h3 ⊢); omega)
 have hszw6 := m7.size
 obtain ⟨A9, c10, rfl, A9_c, A9_n, hR12⟩ := hO8.rd
 have hR12_l := hR12.len
 refine st_pure (l := [3]) (rest := []) (L := [(2, .slice A9 (([] ++ l).length) c10)]) rfl (by kernel_rfl) ?_
 refine st_end ?_
 refine then_n ?_
 refine wp_ret ?_
 refine post_ret (v := .slice A9 (([] ++ l).length) c10) (by kernel_rfl) ?_
 refine ⟨A9, c10, rfl, ?_, ?_, (hO8.wide (by omega) (by omega)), (hR12.wide (by omega) (by omega)), HM⟩
 ·exact A9_n
 ·first | exact A9_c | omega

theorem ref_Number {w : World} {x : Int} {A : Option Addr} {cA : Nat} {l : List UInt8} {lo : Nat} {hi : Nat} (ho : Own tyU8 5 w lo hi (.slice A l.length cA) l) (A_n : A = none → cA = 0) (A_c : l.length ≤ cA) (x_r : 0 ≤ x ∧ x ≤ 18446744073709551615) (ho_hi : hi ≤ w.heap.size) (hll : l.length ≤ 140737488350000) (hlo : lo ≤ w.heap.size) :
  Ret Try.prog 104 #[.slice A l.length cA, .int .u64 x] w fun v w' => ∃ l2 : List UInt8, ∃ A2 : Option Addr, ∃ c2 : Nat, ∃ lo2 : Nat, ∃ hi2 : Nat, v = .slice A2 l2.length c2 ∧ (A2 = none → c2 = 0) ∧ (l2.length ≤ c2) ∧ (l2 = l ++ num x.toNat) ∧ (lo2 = lo ∧ hi2 = hi ∨ w.heap.size ≤ lo2 ∧ lo2 ≤ hi2 ∧ hi2 ≤ w'.heap.size) ∧ Own tyU8 5 w' lo2 hi2 (.slice A2 l2.length c2) l2 ∧ RdA tyU8 w' lo2 hi2 A2 l2 ∧ Mod (fun k => Iv lo hi k) w w' := by
 have ho_b := ho.bounds
 have ho_q := ho.rdSelf.2.2.2
 have h8 := le_len8 (x := x.toNat) (by omega)
 have HM : Mod (fun k => Iv lo hi k) w w := Mod.refl _ w
 refine ret_of Try.func104 rfl rfl ?_
 refine wp_seq ?_
 refine c_region (L := [0]) (by kernel_rfl) ?_
 refine st_pure (l := [0]) (rest := []) (L := [(4, .slice none 0 0)]) rfl (by kernel_rfl) ?_
 refine st_end ?_
 refine then_n ?_
 refine wp_seq ?_
 refine wp_seq ?_
 refine c_region (L := [0, 1]) (by kernel_rfl) ?_
 by_cases h1 : x ≤ 247
 ·skip
  have hb2 : (decide (x ≤ 247)) = true := decide_eq_true h1
  refine st_pure (l := [0, 1]) (rest := []) (L := [(7, .int .u64 x), (8, .bool true)]) rfl (Eq.trans (b := some [(7, .int .u64 x), (8, .bool (decide (x ≤ 247)))]) (by kernel_rfl) (by simp only [hb2])) ?_
  refine st_end ?_
  refine then_n ?_
  refine c_true (by kernel_rfl) ?_
  refine wp_seq ?_
  refine c_region (L := [0, 1, 2, 3, 4, 5]) (by kernel_rfl) ?_
  have hw3 : IntKind.wrap .u8 (x) = x := wu8 (by omega) (by omega)
  refine st_pure (l := [0, 1, 2]) (rest := [3, 4, 5]) (L := [(9, .slice A l.length cA), (10, .int .u64 x), (11, .int .u8 x)]) rfl (Eq.trans (b := some [(9, .slice A l.length cA), (10, .int .u64 x), (11, .int .u8 (IntKind.wrap .u8 (x)))]) (by kernel_rfl) (by simp only [hw3])) ?_
  refine st_new (d := 12) (e := 5) (C := [.int .u8 x]) (V := fun r => .slice (some ⟨r, 0, none⟩) 1 1) (by kernel_rfl) ?_
  intro b4 w5 m6 lb4 ub4 hB7
  replace ho := ho.mod0 m6
  replace ho_q := ho_q.mod0 m6
  replace HM := HM.tr0 m6
  have hszw5 := m6.size
  refine st_append2 (d := 13) (tn := 23) (e := 5) (ty := 23) (t := tyU8) (v := .slice A l.length cA) (A := some ⟨b4, 0, none⟩) (n := 1) (c := 1) (l := l) (m := [u8 x]) (z := .int .u8 0) (bytes := 1) (by kernel_rfl) Try.underlying23 (by kernel_rfl) rfl (by decide) ho (Blk.rd (t := tyU8) (l := [u8 x]) hB7 (by simp only [Ty.cells, tyU8, List.flatMap_cons, List.flatMap_nil, List.append_nil, List.cons_append, List.nil_append, u8_val (e := x) (by omega) (by omega)]) (by simp) b4 (b4 + 1) (Nat.le_refl _) (by omega)) (by simp) (by simp only [List.length_append, List.length_cons, List.length_nil, List.length_take, List.length_drop] at *; omega) (by omega) (by intro h; cases h) ?_
  intro v8 w9 lo12 hi13 m10 hdis14 hO11
  clear ho
  clear ho_q
  clear hB7
  replace HM := HM.trans m10 (by intro k h1 h3; (try simp only [Iv] at h3 ⊢); omega)
  have hszw9 := m10.size
  obtain ⟨A15, c16, rfl, A15_c, A15_n, hR18⟩ := hO11.rd
  have hR18_l := hR18.len
  refine st_pure (l := [5]) (rest := []) (L := [(4, .slice A15 ((l ++ [u8 x]).length) c16)]) rfl (by kernel_rfl) ?_
  refine st_end ?_
  refine then_n ?_
  refine wp_ret ?_
  refine then_r ?_
  refine post_ret (v := .slice A15 ((l ++ [u8 x]).length) c16) (by kernel_rfl) ?_
  refine ⟨l ++ [u8 x], A15, c16, lo12, hi13, rfl, ?_, ?_, ?_, ?_, hO11, hR18, HM⟩
  ·exact A15_n
  ·first | exact A15_c | omega
  ·rw [num, if_pos (by omega), u8_of (by omega)]
  ·omega
 ·skip
  have hb19 : (decide (x ≤ 247)) = false := decide_eq_false h1
  refine st_pure (l := [0, 1]) (rest := []) (L := [(7, .int .u64 x), (8, .bool false)]) rfl (Eq.trans (b := some [(7, .int .u64 x), (8, .bool (decide (x ≤ 247)))]) (by kernel_rfl) (by simp only [hb19])) ?_
  refine st_end ?_
  refine then_n ?_
  refine c_false (by kernel_rfl) ?_
  refine wp_skip ?_
  refine then_n ?_
  refine wp_seq ?_
  refine c_region (L := [0]) (by kernel_rfl) ?_
  refine st_pure (l := [0]) (rest := []) (L := [(5, .slice none 0 0)]) rfl (by kernel_rfl) ?_
  refine st_end ?_
  refine then_n ?_
  refine wp_seq ?_
  refine wp_seq ?_
  refine c_region (L := [0, 1]) (by kernel_rfl) ?_
  refine st_pure (l := [0, 1]) (rest := []) (L := [(14, .int .u64 x), (6, .int .u64 x)]) rfl (by kernel_rfl) ?_
  refine st_end ?_
  refine then_n ?_
  refine wp_block ?_
  refine c_loop (σ := Int × Option Addr × Nat × List UInt8) (fun s a w' => match s with | ⟨z, Ag, cg, acc⟩ => Fr 34 [(0, .slice A l.length cA), (1, .int .u64 x), (4, .slice none 0 0), (5, .slice Ag acc.length cg), (6, .int .u64 z), (7, .int .u64 x), (8, .bool false), (14, .int .u64 x)] a ∧ Mod (fun k => Iv lo hi k) w w' ∧ w.heap.size ≤ w'.heap.size ∧ Own tyU8 5 w' lo hi (.slice A l.length cA) l ∧ RdA tyU8 w' lo hi A l ∧ Own tyU8 5 w' w.heap.size (w'.heap.size) (.slice Ag acc.length cg) acc ∧ RdA tyU8 w' w.heap.size (w'.heap.size) Ag acc ∧ (0 ≤ z ∧ z ≤ 18446744073709551615) ∧ (Ag = none → cg = 0) ∧ (acc.length ≤ cg) ∧ (acc ++ le z.toNat = le x.toNat) ∧ True) (fun s => match s with | ⟨z, Ag, cg, acc⟩ => z.toNat) (x, none, 0, []) ?_ ?_
  ·refine ⟨Fr.mk (by kernel_rfl) (by kernel_rfl), HM, Nat.le_refl _, ho, ho_q, Own.nil, RdA.nil, ?_, ?_, ?_, ?_, trivial⟩
   ·omega
   ·exact fun _ => rfl
   ·exact Nat.le_refl _
   ·rw [List.nil_append]
  ·rintro ⟨z, Ag, cg, acc⟩ a w20 ⟨⟨Tf, rfl⟩, HM', hszw20, ho', ho_q', hG', hH', hz, Ag_n, Ag_c, hs, -⟩
   clear HM ho ho_q
   have HM := HM'; clear HM'
   have ho := ho'; clear ho'
   have ho_q := ho_q'; clear ho_q'
   have hG := hG'; clear hG'
   have hH := hH'; clear hH'
   have h8 := le_len8 (x := x.toNat) (by omega)
   have hsl := congrArg List.length hs; simp only [List.length_append] at hsl
   refine wp_seq ?_
   refine wp_seq ?_
   refine c_region (L := [0, 1]) (by kernel_rfl) ?_
   by_cases h21 : z > 0
   ·skip
    have hb22 : (decide (z > 0)) = true := decide_eq_true h21
    refine st_pure (l := [0, 1]) (rest := []) (L := [(15, .int .u64 z), (16, .bool true)]) rfl (Eq.trans (b := some [(15, .int .u64 z), (16, .bool (decide (z > 0)))]) (by kernel_rfl) (by simp only [hb22])) ?_
    refine st_end ?_
    refine then_n ?_
    refine c_true (by kernel_rfl) ?_
    refine wp_skip ?_
    refine then_n ?_
    refine wp_seq ?_
    refine wp_block ?_
    refine c_region (L := [0, 1, 2, 3, 4, 5, 6]) (by kernel_rfl) ?_
    refine st_pure (l := [0, 1]) (rest := [2, 3, 4, 5, 6]) (L := [(19, .slice Ag acc.length cg), (20, .int .u64 z)]) rfl (by kernel_rfl) ?_
    refine st_comes (d := 21) (v := .int .u64 (z % 256)) (comes_rem (k := .u64) (a := z) (b := 256) (by kernel_rfl) (by omega) (by omega)) ?_
    have hw23 : IntKind.wrap .u8 (z % 256) = z % 256 := wu8 (by omega) (by omega)
    refine st_pure (l := [3]) (rest := [4, 5, 6]) (L := [(22, .int .u8 (z % 256))]) rfl (Eq.trans (b := some [(22, .int .u8 (IntKind.wrap .u8 (z % 256)))]) (by kernel_rfl) (by simp only [hw23])) ?_
    refine st_new (d := 23) (e := 5) (C := [.int .u8 (z % 256)]) (V := fun r => .slice (some ⟨r, 0, none⟩) 1 1) (by kernel_rfl) ?_
    intro b24 w25 m26 lb24 ub24 hB27
    replace ho := ho.mod0 m26
    replace ho_q := ho_q.mod0 m26
    replace hG := hG.mod0 m26
    replace hH := hH.mod0 m26
    replace HM := HM.tr0 m26
    have hszw25 := m26.size
    refine st_append2 (d := 24) (tn := 23) (e := 5) (ty := 23) (t := tyU8) (v := .slice Ag acc.length cg) (A := some ⟨b24, 0, none⟩) (n := 1) (c := 1) (l := acc) (m := [u8 (z % 256)]) (z := .int .u8 0) (bytes := 1) (by kernel_rfl) Try.underlying23 (by kernel_rfl) rfl (by decide) hG (Blk.rd (t := tyU8) (l := [u8 (z % 256)]) hB27 (by simp only [Ty.cells, tyU8, List.flatMap_cons, List.flatMap_nil, List.append_nil, List.cons_append, List.nil_append, u8_val (e := (z % 256)) (by omega) (by omega)]) (by simp) b24 (b24 + 1) (Nat.le_refl _) (by omega)) (by simp) (by simp only [List.length_append, List.length_cons, List.length_nil, List.length_take, List.length_drop] at *; omega) (by omega) (by intro h; cases h) ?_
    intro v28 w29 lo32 hi33 m30 hdis34 hO31
    clear hG
    clear hH
    clear hB27
    replace ho := ho.mod m30 (by intro k h1 h2 h3; (try simp only [Iv] at h3); omega)
    replace ho_q := ho_q.mod m30 (by intro k h1 h2 h3; (try simp only [Iv] at h3); omega)
    replace HM := HM.trans m30 (by intro k h1 h3; (try simp only [Iv] at h3 ⊢); omega)
    have hszw29 := m30.size
    obtain ⟨A35, c36, rfl, A35_c, A35_n, hR38⟩ := hO31.rd
    have hR38_l := hR38.len
    refine st_pure (l := [6]) (rest := []) (L := [(5, .slice A35 ((acc ++ [u8 (z % 256)]).length) c36)]) rfl (by kernel_rfl) ?_
    refine st_end ?_
    refine blk_n ?_
    refine then_n ?_
    refine c_region (L := [0, 1, 2]) (by kernel_rfl) ?_
    refine st_pure (l := [0]) (rest := [1, 2]) (L := [(17, .int .u64 z)]) rfl (by kernel_rfl) ?_
    refine st_comes (d := 18) (v := .int .u64 (z / 256)) (comes_quo (k := .u64) (a := z) (b := 256) (by kernel_rfl) (by omega) (by omega) (wu64 (by first | omega | exact Int.ediv_nonneg (by omega) (by omega)) (by omega))) ?_
    refine st_pure (l := [2]) (rest := []) (L := [(6, .int .u64 (z / 256))]) rfl (by kernel_rfl) ?_
    refine st_end ?_
    refine then_n ?_
    refine ⟨(z / 256, A35, c36, acc ++ [u8 (z % 256)]), ⟨Fr.mk (by kernel_rfl) (by kernel_rfl), HM, by omega, ho, ho_q, hO31.wide (by omega) (by omega), hR38.wide (by omega) (by omega), ?_, ?_, ?_, ?_, trivial⟩, ?_⟩
    ·omega
    ·exact A35_n
    ·exact A35_c
    ·rw [le_pos (x := z.toNat) (by omega)] at hs; rw [show (z / 256).toNat = z.toNat / 256 by omega, u8_of (by omega), show (z % 256).toNat = z.toNat % 256 by omega]; simpa using hs
    ·dsimp only; omega
   ·skip
    have hb39 : (decide (z > 0)) = false := decide_eq_false h21
    refine st_pure (l := [0, 1]) (rest := []) (L := [(15, .int .u64 z), (16, .bool false)]) rfl (Eq.trans (b := some [(15, .int .u64 z), (16, .bool (decide (z > 0)))]) (by kernel_rfl) (by simp only [hb39])) ?_
    refine st_end ?_
    refine then_n ?_
    refine c_false (by kernel_rfl) ?_
    refine wp_exit ?_
    refine then_x ?_
    refine then_x ?_
    refine blk_hit ?_
    refine then_n ?_
    refine wp_seq ?_
    refine c_region (L := [0, 1, 2, 3, 4, 5, 6, 7, 8, 9]) (by kernel_rfl) ?_
    have hw40 : IntKind.wrap .i64 (247 + (acc.length : Int)) = 247 + (acc.length : Int) := wi64 (by omega) (by omega)
    refine st_pure (l := [0, 1, 2, 3]) (rest := [4, 5, 6, 7, 8, 9]) (L := [(25, .slice A l.length cA), (26, .slice Ag acc.length cg), (27, .int .i64 (acc.length : Int)), (28, .int .i64 (247 + (acc.length : Int)))]) rfl (Eq.trans (b := some [(25, .slice A l.length cA), (26, .slice Ag acc.length cg), (27, .int .i64 (acc.length : Int)), (28, .int .i64 (IntKind.wrap .i64 (247 + (acc.length : Int))))]) (by kernel_rfl) (by simp only [hw40])) ?_
    have hwr41 := wu8_lo (247 + (acc.length : Int))
    refine st_pure (l := [4]) (rest := [5, 6, 7, 8, 9]) (L := [(29, .int .u8 (IntKind.wrap .u8 (247 + (acc.length : Int))))]) rfl (by kernel_rfl) ?_
    refine st_new (d := 30) (e := 5) (C := [.int .u8 (IntKind.wrap .u8 (247 + (acc.length : Int)))]) (V := fun r => .slice (some ⟨r, 0, none⟩) 1 1) (by kernel_rfl) ?_
    intro b42 w43 m44 lb42 ub42 hB45
    replace ho := ho.mod0 m44
    replace ho_q := ho_q.mod0 m44
    replace hG := hG.mod0 m44
    replace hH := hH.mod0 m44
    replace HM := HM.tr0 m44
    have hszw43 := m44.size
    refine st_append2 (d := 31) (tn := 23) (e := 5) (ty := 23) (t := tyU8) (v := .slice A l.length cA) (A := some ⟨b42, 0, none⟩) (n := 1) (c := 1) (l := l) (m := [u8 (IntKind.wrap .u8 (247 + (acc.length : Int)))]) (z := .int .u8 0) (bytes := 1) (by kernel_rfl) Try.underlying23 (by kernel_rfl) rfl (by decide) ho (Blk.rd (t := tyU8) (l := [u8 (IntKind.wrap .u8 (247 + (acc.length : Int)))]) hB45 (by simp only [Ty.cells, tyU8, List.flatMap_cons, List.flatMap_nil, List.append_nil, List.cons_append, List.nil_append, u8_val (e := (IntKind.wrap .u8 (247 + (acc.length : Int)))) (u8_wr_lo _) (u8_wr_hi _)]) (by simp) b42 (b42 + 1) (Nat.le_refl _) (by omega)) (by simp) (by simp only [List.length_append, List.length_cons, List.length_nil, List.length_take, List.length_drop] at *; omega) (by omega) (by intro h; cases h) ?_
    intro v46 w47 lo50 hi51 m48 hdis52 hO49
    clear ho
    clear ho_q
    clear hB45
    replace hG := hG.mod m48 (by intro k h1 h2 h3; (try simp only [Iv] at h3); omega)
    replace hH := hH.mod m48 (by intro k h1 h2 h3; (try simp only [Iv] at h3); omega)
    replace HM := HM.trans m48 (by intro k h1 h3; (try simp only [Iv] at h3 ⊢); omega)
    have hszw47 := m48.size
    obtain ⟨A53, c54, rfl, A53_c, A53_n, hR56⟩ := hO49.rd
    have hR56_l := hR56.len
    refine st_pure (l := [7]) (rest := [8, 9]) (L := [(32, .slice Ag acc.length cg)]) rfl (by kernel_rfl) ?_
    refine st_append2 (d := 33) (tn := 23) (e := 5) (ty := 23) (t := tyU8) (v := .slice A53 ((l ++ [u8 (IntKind.wrap .u8 (247 + (acc.length : Int)))]).length) c54) (A := Ag) (n := acc.length) (c := cg) (l := l ++ [u8 (IntKind.wrap .u8 (247 + (acc.length : Int)))]) (m := acc) (z := .int .u8 0) (bytes := 1) (by kernel_rfl) Try.underlying23 (by kernel_rfl) rfl (by decide) hO49 hH (by simp) (by simp only [List.length_append, List.length_cons, List.length_nil, List.length_take, List.length_drop] at *; omega) (by omega) Ag_n ?_
    intro v57 w58 lo61 hi62 m59 hdis63 hO60
    clear hO49
    clear hR56
    replace hG := hG.mod m59 (by intro k h1 h2 h3; (try simp only [Iv] at h3); omega)
    replace hH := hH.mod m59 (by intro k h1 h2 h3; (try simp only [Iv] at h3); omega)
    replace HM := HM.trans m59 (by intro k h1 h3; (try simp only [Iv] at h3 ⊢); omega)
    have hszw58 := m59.size
    obtain ⟨A64, c65, rfl, A64_c, A64_n, hR67⟩ := hO60.rd
    have hR67_l := hR67.len
    refine st_pure (l := [9]) (rest := []) (L := [(4, .slice A64 ((l ++ [u8 (IntKind.wrap .u8 (247 + (acc.length : Int)))] ++ acc).length) c65)]) rfl (by kernel_rfl) ?_
    refine st_end ?_
    refine then_n ?_
    refine wp_ret ?_
    refine post_ret (v := .slice A64 ((l ++ [u8 (IntKind.wrap .u8 (247 + (acc.length : Int)))] ++ acc).length) c65) (by kernel_rfl) ?_
    refine ⟨l ++ [u8 (IntKind.wrap .u8 (247 + (acc.length : Int)))] ++ acc, A64, c65, lo61, hi62, rfl, ?_, ?_, ?_, ?_, hO60, hR67, HM⟩
    ·exact A64_n
    ·first | exact A64_c | omega
    ·have h9 : le z.toNat = [] := by rw [show z.toNat = 0 by omega]; exact le_zero
     rw [h9, List.append_nil] at hs
     rw [num, if_neg (by omega), ← hs]; rw [u8_wrap (by omega)]; rw [show ((247 : Int) + (acc.length : Int)).toNat % 256 = 247 + acc.length by omega, List.append_assoc]; rfl
    ·omega

theorem ref_Block {w : World} {A : Option Addr} {cA : Nat} {l : List UInt8} {lo : Nat} {hi : Nat} {B : Option Addr} {cB : Nat} {m : List UInt8} {lo' : Nat} {hi' : Nat} (ho : Own tyU8 5 w lo hi (.slice A l.length cA) l) (hm : RdA tyU8 w lo' hi' B m) (A_n : A = none → cA = 0) (A_c : l.length ≤ cA) (B_n : B = none → cB = 0) (B_c : m.length ≤ cB) (ho_hi : hi ≤ w.heap.size) (hm_hi : hi' ≤ w.heap.size) (hll : l.length + m.length ≤ 140737488340000) (hlo : lo ≤ w.heap.size) (hsep : hi' ≤ lo ∨ hi ≤ lo') :
  Ret Try.prog 107 #[.slice A l.length cA, .slice B m.length cB] w fun v w' => ∃ l2 : List UInt8, ∃ e2 : Int, ∃ A2 : Option Addr, ∃ c2 : Nat, ∃ lo2 : Nat, ∃ hi2 : Nat, blockOf l m = (l2, e2) ∧ v = .tuple #[.slice A2 l2.length c2, .int .i64 e2] ∧ (A2 = none → c2 = 0) ∧ (l2.length ≤ c2) ∧ (-9223372036854775808 ≤ e2 ∧ e2 ≤ 9223372036854775807) ∧ (l2.length ≤ l.length + m.length + 9) ∧ (lo2 = lo ∧ hi2 = hi ∨ w.heap.size ≤ lo2 ∧ lo2 ≤ hi2 ∧ hi2 ≤ w'.heap.size) ∧ Own tyU8 5 w' lo2 hi2 (.slice A2 l2.length c2) l2 ∧ RdA tyU8 w' lo2 hi2 A2 l2 ∧ Mod (fun k => Iv lo hi k) w w' := by
 have ho_b := ho.bounds
 have ho_q := ho.rdSelf.2.2.2
 have hm_l := hm.len
 have HM : Mod (fun k => Iv lo hi k) w w := Mod.refl _ w
 refine ret_of Try.func107 rfl rfl ?_
 refine wp_seq ?_
 refine c_region (L := [0, 1]) (by kernel_rfl) ?_
 refine st_pure (l := [0, 1]) (rest := []) (L := [(4, .slice none 0 0), (5, .int .i64 0)]) rfl (by kernel_rfl) ?_
 refine st_end ?_
 refine then_n ?_
 refine wp_seq ?_
 refine wp_seq ?_
 refine c_region (L := [0, 1, 2]) (by kernel_rfl) ?_
 by_cases h1 : (m.length : Int) > 1048576
 ·skip
  have hb2 : (decide ((m.length : Int) > 1048576)) = true := decide_eq_true h1
  refine st_pure (l := [0, 1, 2]) (rest := []) (L := [(6, .slice B m.length cB), (7, .int .i64 (m.length : Int)), (8, .bool true)]) rfl (Eq.trans (b := some [(6, .slice B m.length cB), (7, .int .i64 (m.length : Int)), (8, .bool (decide ((m.length : Int) > 1048576)))]) (by kernel_rfl) (by simp only [hb2])) ?_
  refine st_end ?_
  refine then_n ?_
  refine c_true (by kernel_rfl) ?_
  refine wp_seq ?_
  refine c_region (L := [0, 1]) (by kernel_rfl) ?_
  refine st_pure (l := [0, 1]) (rest := []) (L := [(4, .slice none 0 0), (5, .int .i64 3)]) rfl (by kernel_rfl) ?_
  refine st_end ?_
  refine then_n ?_
  refine wp_ret ?_
  refine then_r ?_
  refine post_ret (v := .tuple #[.slice none 0 0, .int .i64 3]) (by kernel_rfl) ?_
  refine ⟨[], 3, none, 0, w.heap.size, w.heap.size, ?_, rfl, ?_, ?_, ?_, ?_, ?_, Own.nil, RdA.nil, HM⟩
  ·unfold blockOf; first | rw [if_pos (by omega)] | rw [if_neg (by omega)]
  ·exact fun _ => rfl
  ·simp
  ·omega
  ·simp only [List.length_append, List.length_nil, List.length_cons] at *; omega
  ·omega
 ·skip
  have hb3 : (decide ((m.length : Int) > 1048576)) = false := decide_eq_false h1
  refine st_pure (l := [0, 1, 2]) (rest := []) (L := [(6, .slice B m.length cB), (7, .int .i64 (m.length : Int)), (8, .bool false)]) rfl (Eq.trans (b := some [(6, .slice B m.length cB), (7, .int .i64 (m.length : Int)), (8, .bool (decide ((m.length : Int) > 1048576)))]) (by kernel_rfl) (by simp only [hb3])) ?_
  refine st_end ?_
  refine then_n ?_
  refine c_false (by kernel_rfl) ?_
  refine wp_skip ?_
  refine then_n ?_
  refine wp_seq ?_
  refine c_region (L := [0, 1, 2, 3, 4, 5, 6, 7, 8]) (by kernel_rfl) ?_
  have hw4 : IntKind.wrap .u64 ((m.length : Int)) = (m.length : Int) := wu64 (by omega) (by omega)
  refine st_pure (l := [0, 1, 2, 3]) (rest := [4, 5, 6, 7, 8]) (L := [(9, .slice A l.length cA), (10, .slice B m.length cB), (11, .int .i64 (m.length : Int)), (12, .int .u64 (m.length : Int))]) rfl (Eq.trans (b := some [(9, .slice A l.length cA), (10, .slice B m.length cB), (11, .int .i64 (m.length : Int)), (12, .int .u64 (IntKind.wrap .u64 ((m.length : Int))))]) (by kernel_rfl) (by simp only [hw4])) ?_
  refine st_fn (d := 13) (f := 104) (xs := #[.slice A l.length cA, .int .u64 (m.length : Int)]) (R := _) (by kernel_rfl) (ref_Number (w := w) (x := (m.length : Int)) (A := A) (cA := cA) (l := l) (lo := lo) (hi := hi) (ho := ho) (A_n := A_n) (A_c := by first | exact A_c | omega) (x_r := by omega) (ho_hi := by omega) (hll := by first | omega | (simp only [List.length_cons, List.length_nil, List.length_append, List.length_take, List.length_drop] at *; omega)) (hlo := by first | omega | (simp only [List.length_cons, List.length_nil, List.length_append, List.length_take, List.length_drop] at *; omega))) ?_
  rintro vw10 w10 ⟨l5, A6, c7, lo8, hi9, rfl, A6_n, A6_c, rfl, hdis12, hO_13, hR_14, m15⟩
  have ha16 := (num_len (by omega) : (num (m.length : Int).toNat).length ≤ 9)
  clear ho
  clear ho_q
  replace hm := hm.mod m15 (by intro k h1 h2 h3; (try simp only [Iv] at h3); omega)
  replace HM := HM.trans m15 (by intro k h1 h3; (try simp only [Iv] at h3 ⊢); omega)
  have hszw10 := m15.size
  have hO_13_b := hO_13.bounds
  have hR_14_l := hR_14.len
  refine st_pure (l := [5]) (rest := [6, 7, 8]) (L := [(14, .slice B m.length cB)]) rfl (by kernel_rfl) ?_
  refine st_append2 (d := 15) (tn := 23) (e := 5) (ty := 23) (t := tyU8) (v := .slice A6 ((l ++ num (m.length : Int).toNat).length) c7) (A := B) (n := m.length) (c := cB) (l := (l ++ num (m.length : Int).toNat)) (m := m) (z := .int .u8 0) (bytes := 1) (by kernel_rfl) Try.underlying23 (by kernel_rfl) rfl (by decide) hO_13 hm (by simp) (by simp only [List.length_append, List.length_cons, List.length_nil, List.length_take, List.length_drop] at *; omega) (by omega) B_n ?_
  intro v17 w18 lo21 hi22 m19 hdis23 hO20
  clear hO_13
  clear hR_14
  replace hm := hm.mod m19 (by intro k h1 h2 h3; (try simp only [Iv] at h3); omega)
  replace HM := HM.trans m19 (by intro k h1 h3; (try simp only [Iv] at h3 ⊢); omega)
  have hszw18 := m19.size
  obtain ⟨A24, c25, rfl, A24_c, A24_n, hR27⟩ := hO20.rd
  have hR27_l := hR27.len
  refine st_pure (l := [7, 8]) (rest := []) (L := [(4, .slice A24 (((l ++ num (m.length : Int).toNat) ++ m).length) c25), (5, .int .i64 0)]) rfl (by kernel_rfl) ?_
  refine st_end ?_
  refine then_n ?_
  refine wp_ret ?_
  refine post_ret (v := .tuple #[.slice A24 (((l ++ num (m.length : Int).toNat) ++ m).length) c25, .int .i64 0]) (by kernel_rfl) ?_
  refine ⟨(l ++ num (m.length : Int).toNat) ++ m, 0, A24, c25, lo21, hi22, ?_, rfl, ?_, ?_, ?_, ?_, ?_, hO20, hR27, HM⟩
  ·unfold blockOf; first | rw [if_pos (by omega)] | rw [if_neg (by omega)]
  ·exact A24_n
  ·first | exact A24_c | omega
  ·omega
  ·simp only [List.length_append, List.length_nil, List.length_cons] at *; omega
  ·omega

theorem ref_New {w : World} {A : Option Addr} {cA : Nat} {l : List UInt8} {lo : Nat} {hi : Nat} (hl : RdA tyU8 w lo hi A l) (A_n : A = none → cA = 0) (A_c : l.length ≤ cA) (hl_hi : hi ≤ w.heap.size) :
  Ret Try.prog 116 #[.slice A l.length cA] w fun v w' => ∃ r : Nat, ∃ A2 : Option Addr, ∃ c2 : Nat, ∃ lo2 : Nat, ∃ hi2 : Nat, v = .pointer (some ⟨r, 0, none⟩) ∧ (A2 = none → c2 = 0) ∧ (l.length ≤ c2) ∧ (w.heap.size ≤ lo2 ∧ lo2 ≤ hi2 ∧ hi2 ≤ r ∧ r < w'.heap.size) ∧ Blk w' r 165 [.slice A2 l.length c2, .int .i64 0] ∧ RdA tyU8 w' lo2 hi2 A2 l ∧ Mod (Nil) w w' := by
 have hl_l := hl.len
 have HM : Mod (Nil) w w := Mod.refl _ w
 refine ret_of Try.func116 rfl rfl ?_
 refine wp_seq ?_
 refine c_region (L := [0]) (by kernel_rfl) ?_
 refine st_pure (l := [0]) (rest := []) (L := [(2, .pointer none)]) rfl (by kernel_rfl) ?_
 refine st_end ?_
 refine then_n ?_
 refine wp_seq ?_
 refine c_region (L := [0, 1, 2, 3, 4, 5]) (by kernel_rfl) ?_
 refine st_new (d := 3) (e := 5) (C := []) (V := fun r => .slice (some ⟨r, 0, none⟩) 0 0) (by kernel_rfl) ?_
 intro b1 w2 m3 lb1 ub1 hB4
 replace hl := hl.mod0 m3
 replace HM := HM.tr0 m3
 have hszw2 := m3.size
 refine st_pure (l := [1]) (rest := [2, 3, 4, 5]) (L := [(4, .slice A l.length cA)]) rfl (by kernel_rfl) ?_
 refine st_append (d := 5) (tn := 23) (e := 5) (ty := 23) (t := tyU8) (v := .slice (some ⟨b1, 0, none⟩) 0 0) (A := A) (n := l.length) (c := cA) (l := []) (m := l) (z := .int .u8 0) (bytes := 1) (by kernel_rfl) Try.underlying23 (by kernel_rfl) rfl (by decide) (Blk.own (t := tyU8) (l := []) hB4 rfl (by simp) b1 (b1 + 1) (Nat.le_refl _) (by omega)) hl (by simp) (by simp only [List.length_append, List.length_cons, List.length_nil, List.length_take, List.length_drop] at *; omega) (by omega) A_n ?_
 intro v5 w6 m7 hO8
 clear hB4
 replace hl := hl.mod m7 (by intro k h1 h2 h3; (try simp only [Iv] at h3); omega)
 replace HM := HM.trans m7 (by intro k h1 h3; (try simp only [Iv] at h3 ⊢); omega)
 have hszw6 := m7.size
 obtain ⟨A9, c10, rfl, A9_c, A9_n, hR12⟩ := hO8.rd
 have hR12_l := hR12.len
 refine st_pure (l := [3]) (rest := [4, 5]) (L := [(6, .agg #[.slice A9 (([] ++ l).length) c10, .int .i64 0])]) rfl (by kernel_rfl) ?_
 refine st_new (d := 7) (e := 165) (C := [.slice A9 (([] ++ l).length) c10, .int .i64 0]) (V := fun r => .pointer (some ⟨r, 0, none⟩)) (by kernel_rfl) ?_
 intro b13 w14 m15 lb13 ub13 hB16
 replace hl := hl.mod0 m15
 replace hO8 := hO8.mod0 m15
 replace hR12 := hR12.mod0 m15
 replace HM := HM.tr0 m15
 have hszw14 := m15.size
 refine st_pure (l := [5]) (rest := []) (L := [(2, .pointer (some ⟨b13, 0, none⟩))]) rfl (by kernel_rfl) ?_
 refine st_end ?_
 refine then_n ?_
 refine wp_ret ?_
 refine post_ret (v := .pointer (some ⟨b13, 0, none⟩)) (by kernel_rfl) ?_
 refine ⟨b13, A9, c10, b1, w6.heap.size, rfl, ?_, ?_, ?_, hB16, hR12, HM⟩
 ·exact A9_n
 ·first | exact A9_c | omega
 ·omega

theorem ref_RNumber {w : World} {r : Nat} {A : Option Addr} {cA : Nat} {l : List UInt8} {e : Int} {lo : Nat} {hi : Nat} (hr : Blk w r 165 [.slice A l.length cA, .int .i64 e]) (hR : RdA tyU8 w lo hi A l) (A_n : A = none → cA = 0) (A_c : l.length ≤ cA) (e_r : -9223372036854775808 ≤ e ∧ e ≤ 9223372036854775807) (hR_hi : hi ≤ w.heap.size) (hsep : hi ≤ r ∨ r < lo) :
  Ret Try.prog 166 #[.pointer (some ⟨r, 0, none⟩)] w fun v w' => ∃ x2 : Int, ∃ A2 : Option Addr, ∃ c2 : Nat, ∃ l2 : List UInt8, ∃ e2 : Int, rd1 l e = (x2, l2, e2) ∧ v = .int .u64 x2 ∧ (0 ≤ x2 ∧ x2 ≤ 18446744073709551615) ∧ (A2 = none → c2 = 0) ∧ (l2.length ≤ c2) ∧ (-9223372036854775808 ≤ e2 ∧ e2 ≤ 9223372036854775807) ∧ Blk w' r 165 [.slice A2 l2.length c2, .int .i64 e2] ∧ RdA tyU8 w' lo hi A2 l2 ∧ Mod (fun k => k = r) w w' := by
 have lt_hr := hr.lt
 have hR_l := hR.len
 have HM : Mod (fun k => k = r) w w := Mod.refl _ w
 refine ret_of Try.func166 rfl rfl ?_
 refine wp_seq ?_
 refine c_region (L := [0]) (by kernel_rfl) ?_
 refine st_pure (l := [0]) (rest := []) (L := [(2, .int .u64 0)]) rfl (by kernel_rfl) ?_
 refine st_end ?_
 refine then_n ?_
 refine wp_seq ?_
 refine wp_seq ?_
 refine c_region (L := [0, 1, 2, 3, 4]) (by kernel_rfl) ?_
 refine st_pure (l := [0, 1, 2]) (rest := [3, 4]) (L := [(6, .pointer (some ⟨r, 0, none⟩)), (7, .pointer (some ⟨r, 0, none⟩)), (8, .pointer (some ⟨r, 1, none⟩))]) rfl (by kernel_rfl) ?_
 refine st_load (d := 9) (t := 26) (cs := _) (v := .int .i64 e) (by kernel_rfl) (hr.sub 1) (by kernel_rfl) ?_
 by_cases h1 : e ≠ 0
 ·skip
  have hb2 : (e != 0) = true := by first | (rw [bne_iff_ne]; exact h1) | (rw [bne_eq_false_iff_eq]; omega)
  refine st_pure (l := [4]) (rest := []) (L := [(10, .bool true)]) rfl (Eq.trans (b := some [(10, .bool (e != 0))]) (by kernel_rfl) (by simp only [hb2])) ?_
  refine st_end ?_
  refine then_n ?_
  refine c_true (by kernel_rfl) ?_
  refine wp_seq ?_
  refine c_region (L := [0]) (by kernel_rfl) ?_
  refine st_pure (l := [0]) (rest := []) (L := [(2, .int .u64 0)]) rfl (by kernel_rfl) ?_
  refine st_end ?_
  refine then_n ?_
  refine wp_ret ?_
  refine then_r ?_
  refine post_ret (v := .int .u64 0) (by kernel_rfl) ?_
  refine ⟨0, A, cA, l, e, ?_, rfl, ?_, ?_, ?_, ?_, hr, hR, HM⟩
  ·first
   | exact rd1_dead (by omega)
   | (have he : e = 0 := (by omega); subst he; exact rd1_nil (by omega))
  ·omega
  ·exact A_n
  ·first | exact A_c | omega
  ·omega
 ·skip
  have hb3 : (e != 0) = false := by rw [bne_eq_false_iff_eq]; exact Decidable.not_not.1 h1
  refine st_pure (l := [4]) (rest := []) (L := [(10, .bool false)]) rfl (Eq.trans (b := some [(10, .bool (e != 0))]) (by kernel_rfl) (by simp only [hb3])) ?_
  refine st_end ?_
  refine then_n ?_
  refine c_false (by kernel_rfl) ?_
  refine wp_skip ?_
  refine then_n ?_
  refine wp_seq ?_
  refine wp_seq ?_
  refine c_region (L := [0, 1, 2, 3, 4, 5]) (by kernel_rfl) ?_
  refine st_pure (l := [0, 1, 2]) (rest := [3, 4, 5]) (L := [(11, .pointer (some ⟨r, 0, none⟩)), (12, .pointer (some ⟨r, 0, none⟩)), (13, .pointer (some ⟨r, 0, none⟩))]) rfl (by kernel_rfl) ?_
  refine st_load (d := 14) (t := 23) (cs := _) (v := .slice A l.length cA) (by kernel_rfl) (hr.sub 0) (by kernel_rfl) ?_
  by_cases h4 : (l.length : Int) = 0
  ·skip
   have hb5 : ((l.length : Int) == 0) = true := beq_iff_eq.2 h4
   refine st_pure (l := [4, 5]) (rest := []) (L := [(15, .int .i64 (l.length : Int)), (16, .bool true)]) rfl (Eq.trans (b := some [(15, .int .i64 (l.length : Int)), (16, .bool ((l.length : Int) == 0))]) (by kernel_rfl) (by simp only [hb5])) ?_
   refine st_end ?_
   refine then_n ?_
   refine c_true (by kernel_rfl) ?_
   refine wp_seq ?_
   refine c_region (L := [0, 1, 2, 3]) (by kernel_rfl) ?_
   refine st_pure (l := [0, 1, 2]) (rest := [3]) (L := [(17, .pointer (some ⟨r, 0, none⟩)), (18, .pointer (some ⟨r, 0, none⟩)), (19, .pointer (some ⟨r, 1, none⟩))]) rfl (by kernel_rfl) ?_
   refine st_store (t := 26) (v := .int .i64 5) (o := 1) (C' := [.slice A l.length cA, .int .i64 5]) (by kernel_rfl) hr (by kernel_rfl) ?_
   intro w6 m7 zm7 Nhr
   clear hr; have hr := Nhr; clear Nhr
   replace hR := hR.mod m7 (by intro k h1 h2 h3; (try simp only [Iv] at h3); omega)
   replace HM := HM.trans m7 (by intro k h1 h3; (try simp only [Iv] at h3 ⊢); omega)
   have hszw6 := m7.size
   refine st_end ?_
   refine then_n ?_
   refine wp_seq ?_
   refine c_region (L := [0]) (by kernel_rfl) ?_
   refine st_pure (l := [0]) (rest := []) (L := [(2, .int .u64 0)]) rfl (by kernel_rfl) ?_
   refine st_end ?_
   refine then_n ?_
   refine wp_ret ?_
   refine then_r ?_
   refine post_ret (v := .int .u64 0) (by kernel_rfl) ?_
   refine ⟨0, A, cA, l, 5, ?_, rfl, ?_, ?_, ?_, ?_, hr, hR, HM⟩
   ·first
    | exact rd1_dead (by omega)
    | (have he : e = 0 := (by omega); subst he; exact rd1_nil (by omega))
   ·omega
   ·exact A_n
   ·first | exact A_c | omega
   ·omega
  ·skip
   have hb8 : ((l.length : Int) == 0) = false := beq_eq_false_iff_ne.2 h4
   refine st_pure (l := [4, 5]) (rest := []) (L := [(15, .int .i64 (l.length : Int)), (16, .bool false)]) rfl (Eq.trans (b := some [(15, .int .i64 (l.length : Int)), (16, .bool ((l.length : Int) == 0))]) (by kernel_rfl) (by simp only [hb8])) ?_
   refine st_end ?_
   refine then_n ?_
   refine c_false (by kernel_rfl) ?_
   refine wp_skip ?_
   refine then_n ?_
   refine wp_seq ?_
   refine c_region (L := [0, 1, 2, 3, 4, 5, 6, 7]) (by kernel_rfl) ?_
   refine st_pure (l := [0, 1, 2]) (rest := [3, 4, 5, 6, 7]) (L := [(20, .pointer (some ⟨r, 0, none⟩)), (21, .pointer (some ⟨r, 0, none⟩)), (22, .pointer (some ⟨r, 0, none⟩))]) rfl (by kernel_rfl) ?_
   refine st_load (d := 23) (t := 23) (cs := _) (v := .slice A l.length cA) (by kernel_rfl) (hr.sub 0) (by kernel_rfl) ?_
   have hi12 : (0 : Int).toNat < (l).length := by omega
   obtain ⟨b9, o10, ehA11, lhA11, uhA11, hA11⟩ := hR.get hi12
   obtain ⟨x13, ex13⟩ : ∃ y, y = (l)[(0 : Int).toNat] := ⟨_, rfl⟩
   rw [← ex13] at hA11
   have dx13 := getD_of (d := 0) hi12 ex13
   simp only [show (0 : Int).toNat = 0 from rfl] at dx13
   have hrx13 : x13.toNat < 256 := UInt8.toNat_lt x13
   refine st_index (d := 24) (tn := 23) (n := l.length) (c := cA) (ix := 0) (k := .i64) (e := 5) (t := tyU8) (b := b9) (by kernel_rfl) Try.underlying23 (by kernel_rfl) ehA11 (by omega) (by omega) ?_
   refine st_load (d := 25) (t := 5) (cs := _) (v := .int .u8 (x13.toNat : Int)) (by kernel_rfl) (hA11.dropk 0) (by kernel_rfl) ?_
   have hw14 : IntKind.wrap .i64 ((x13.toNat : Int)) = (x13.toNat : Int) := wi64 (by omega) (by omega)
   refine st_pure (l := [6]) (rest := [7]) (L := [(26, .int .i64 (x13.toNat : Int))]) rfl (Eq.trans (b := some [(26, .int .i64 (IntKind.wrap .i64 ((x13.toNat : Int))))]) (by kernel_rfl) (by simp only [hw14])) ?_
   refine st_pure (l := [7]) (rest := []) (L := [(3, .int .i64 (x13.toNat : Int))]) rfl (by kernel_rfl) ?_
   refine st_end ?_
   refine then_n ?_
   refine wp_seq ?_
   refine wp_seq ?_
   refine c_region (L := [0, 1]) (by kernel_rfl) ?_
   by_cases h15 : (x13.toNat : Int) ≤ 247
   ·skip
    have hb16 : (decide ((x13.toNat : Int) ≤ 247)) = true := decide_eq_true h15
    refine st_pure (l := [0, 1]) (rest := []) (L := [(27, .int .i64 (x13.toNat : Int)), (28, .bool true)]) rfl (Eq.trans (b := some [(27, .int .i64 (x13.toNat : Int)), (28, .bool (decide ((x13.toNat : Int) ≤ 247)))]) (by kernel_rfl) (by simp only [hb16])) ?_
    refine st_end ?_
    refine then_n ?_
    refine c_true (by kernel_rfl) ?_
    refine wp_seq ?_
    refine c_region (L := [0, 1, 2, 3, 4, 5, 6, 7, 8]) (by kernel_rfl) ?_
    refine st_pure (l := [0, 1, 2, 3]) (rest := [4, 5, 6, 7, 8]) (L := [(29, .pointer (some ⟨r, 0, none⟩)), (30, .pointer (some ⟨r, 0, none⟩)), (31, .pointer (some ⟨r, 0, none⟩)), (32, .pointer (some ⟨r, 0, none⟩))]) rfl (by kernel_rfl) ?_
    refine st_load (d := 33) (t := 23) (cs := _) (v := .slice A l.length cA) (by kernel_rfl) (hr.sub 0) (by kernel_rfl) ?_
    refine st_from (d := 34) (tn := 23) (e := 5) (t := tyU8) (A := A) (n := l.length) (c := cA) (lo := (.int .i64 1)) (i' := 1) (l := l) (k := 1) (by kernel_rfl) Try.underlying23 (by kernel_rfl) rfl (by omega) (by omega) (by first | rfl | simp) (by first | exact A_c | omega) (A_n) hR rfl ?_
    intro A17 c18 hR19 A17_c A17_n
    have hR19_l := hR19.len; simp only [List.length_drop, List.length_take] at hR19_l
    refine st_pure (l := [6, 7]) (rest := [8]) (L := [(35, .pointer (some ⟨r, 0, none⟩)), (36, .pointer (some ⟨r, 0, none⟩))]) rfl (by kernel_rfl) ?_
    refine st_store (t := 23) (v := .slice A17 ((l.drop 1).length) c18) (o := 0) (C' := [.slice A17 ((l.drop 1).length) c18, .int .i64 e]) (by kernel_rfl) hr (by kernel_rfl) ?_
    intro w20 m21 zm21 Nhr
    clear hr; have hr := Nhr; clear Nhr
    replace hR := hR.mod m21 (by intro k h1 h2 h3; (try simp only [Iv] at h3); omega)
    replace hA11 := hA11.mod m21 (by intro h3; (try simp only [Iv] at h3); omega)
    replace hR19 := hR19.mod m21 (by intro k h1 h2 h3; (try simp only [Iv] at h3); omega)
    replace HM := HM.trans m21 (by intro k h1 h3; (try simp only [Iv] at h3 ⊢); omega)
    have hszw20 := m21.size
    refine st_end ?_
    refine then_n ?_
    refine wp_seq ?_
    refine c_region (L := [0, 1, 2]) (by kernel_rfl) ?_
    have hw22 : IntKind.wrap .u64 ((x13.toNat : Int)) = (x13.toNat : Int) := wu64 (by omega) (by omega)
    refine st_pure (l := [0, 1]) (rest := [2]) (L := [(37, .int .i64 (x13.toNat : Int)), (38, .int .u64 (x13.toNat : Int))]) rfl (Eq.trans (b := some [(37, .int .i64 (x13.toNat : Int)), (38, .int .u64 (IntKind.wrap .u64 ((x13.toNat : Int))))]) (by kernel_rfl) (by simp only [hw22])) ?_
    refine st_pure (l := [2]) (rest := []) (L := [(2, .int .u64 (x13.toNat : Int))]) rfl (by kernel_rfl) ?_
    refine st_end ?_
    refine then_n ?_
    refine wp_ret ?_
    refine then_r ?_
    refine post_ret (v := .int .u64 (x13.toNat : Int)) (by kernel_rfl) ?_
    refine ⟨(x13.toNat : Int), A17, c18, l.drop 1, e, ?_, rfl, ?_, ?_, ?_, ?_, hr, hR19, HM⟩
    ·have he : e = 0 := by omega
     subst he
     first
     | exact rd1_one (by omega) ex13 (by omega)
     | exact rd1_more (by omega) ex13 (by omega) (by omega)
    ·omega
    ·exact A17_n
    ·first | exact A17_c | omega
    ·omega
   ·skip
    have hb23 : (decide ((x13.toNat : Int) ≤ 247)) = false := decide_eq_false h15
    refine st_pure (l := [0, 1]) (rest := []) (L := [(27, .int .i64 (x13.toNat : Int)), (28, .bool false)]) rfl (Eq.trans (b := some [(27, .int .i64 (x13.toNat : Int)), (28, .bool (decide ((x13.toNat : Int) ≤ 247)))]) (by kernel_rfl) (by simp only [hb23])) ?_
    refine st_end ?_
    refine then_n ?_
    refine c_false (by kernel_rfl) ?_
    refine wp_skip ?_
    refine then_n ?_
    refine wp_seq ?_
    refine c_region (L := [0, 1, 2]) (by kernel_rfl) ?_
    have hw24 : IntKind.wrap .i64 ((x13.toNat : Int) - 247) = (x13.toNat : Int) - 247 := wi64 (by omega) (by omega)
    refine st_pure (l := [0, 1]) (rest := [2]) (L := [(39, .int .i64 (x13.toNat : Int)), (40, .int .i64 ((x13.toNat : Int) - 247))]) rfl (Eq.trans (b := some [(39, .int .i64 (x13.toNat : Int)), (40, .int .i64 (IntKind.wrap .i64 ((x13.toNat : Int) - 247)))]) (by kernel_rfl) (by simp only [hw24])) ?_
    refine st_pure (l := [2]) (rest := []) (L := [(3, .int .i64 ((x13.toNat : Int) - 247))]) rfl (by kernel_rfl) ?_
    refine st_end ?_
    refine then_n ?_
    refine wp_seq ?_
    refine wp_seq ?_
    refine c_region (L := [0, 1, 2, 3, 4, 5, 6, 7]) (by kernel_rfl) ?_
    refine st_pure (l := [0, 1, 2]) (rest := [3, 4, 5, 6, 7]) (L := [(41, .pointer (some ⟨r, 0, none⟩)), (42, .pointer (some ⟨r, 0, none⟩)), (43, .pointer (some ⟨r, 0, none⟩))]) rfl (by kernel_rfl) ?_
    refine st_load (d := 44) (t := 23) (cs := _) (v := .slice A l.length cA) (by kernel_rfl) (hr.sub 0) (by kernel_rfl) ?_
    have hw25 : IntKind.wrap .i64 (1 + ((x13.toNat : Int) - 247)) = 1 + ((x13.toNat : Int) - 247) := wi64 (by omega) (by omega)
    refine st_pure (l := [4, 5, 6]) (rest := [7]) (L := [(45, .int .i64 (l.length : Int)), (46, .int .i64 ((x13.toNat : Int) - 247)), (47, .int .i64 (1 + ((x13.toNat : Int) - 247)))]) rfl (Eq.trans (b := some [(45, .int .i64 (l.length : Int)), (46, .int .i64 ((x13.toNat : Int) - 247)), (47, .int .i64 (IntKind.wrap .i64 (1 + ((x13.toNat : Int) - 247))))]) (by kernel_rfl) (by simp only [hw25])) ?_
    by_cases h26 : (l.length : Int) < (1 + ((x13.toNat : Int) - 247))
    ·skip
     have hb27 : (decide ((l.length : Int) < (1 + ((x13.toNat : Int) - 247)))) = true := decide_eq_true h26
     refine st_pure (l := [7]) (rest := []) (L := [(48, .bool true)]) rfl (Eq.trans (b := some [(48, .bool (decide ((l.length : Int) < (1 + ((x13.toNat : Int) - 247)))))]) (by kernel_rfl) (by simp only [hb27])) ?_
     refine st_end ?_
     refine then_n ?_
     refine c_true (by kernel_rfl) ?_
     refine wp_seq ?_
     refine c_region (L := [0, 1, 2, 3]) (by kernel_rfl) ?_
     refine st_pure (l := [0, 1, 2]) (rest := [3]) (L := [(49, .pointer (some ⟨r, 0, none⟩)), (50, .pointer (some ⟨r, 0, none⟩)), (51, .pointer (some ⟨r, 1, none⟩))]) rfl (by kernel_rfl) ?_
     refine st_store (t := 26) (v := .int .i64 5) (o := 1) (C' := [.slice A l.length cA, .int .i64 5]) (by kernel_rfl) hr (by kernel_rfl) ?_
     intro w28 m29 zm29 Nhr
     clear hr; have hr := Nhr; clear Nhr
     replace hR := hR.mod m29 (by intro k h1 h2 h3; (try simp only [Iv] at h3); omega)
     replace hA11 := hA11.mod m29 (by intro h3; (try simp only [Iv] at h3); omega)
     replace HM := HM.trans m29 (by intro k h1 h3; (try simp only [Iv] at h3 ⊢); omega)
     have hszw28 := m29.size
     refine st_end ?_
     refine then_n ?_
     refine wp_seq ?_
     refine c_region (L := [0]) (by kernel_rfl) ?_
     refine st_pure (l := [0]) (rest := []) (L := [(2, .int .u64 0)]) rfl (by kernel_rfl) ?_
     refine st_end ?_
     refine then_n ?_
     refine wp_ret ?_
     refine then_r ?_
     refine post_ret (v := .int .u64 0) (by kernel_rfl) ?_
     refine ⟨0, A, cA, l, 5, ?_, rfl, ?_, ?_, ?_, ?_, hr, hR, HM⟩
     ·have he : e = 0 := by omega
      subst he
      first
      | exact rd1_one (by omega) ex13 (by omega)
      | exact rd1_more (by omega) ex13 (by omega) (by omega)
     ·omega
     ·exact A_n
     ·first | exact A_c | omega
     ·omega
    ·skip
     have hb30 : (decide ((l.length : Int) < (1 + ((x13.toNat : Int) - 247)))) = false := decide_eq_false h26
     refine st_pure (l := [7]) (rest := []) (L := [(48, .bool false)]) rfl (Eq.trans (b := some [(48, .bool (decide ((l.length : Int) < (1 + ((x13.toNat : Int) - 247)))))]) (by kernel_rfl) (by simp only [hb30])) ?_
     refine st_end ?_
     refine then_n ?_
     refine c_false (by kernel_rfl) ?_
     refine wp_skip ?_
     refine then_n ?_
     refine wp_seq ?_
     refine c_region (L := [0]) (by kernel_rfl) ?_
     refine st_pure (l := [0]) (rest := []) (L := [(4, .int .u64 0)]) rfl (by kernel_rfl) ?_
     refine st_end ?_
     refine then_n ?_
     refine wp_seq ?_
     refine wp_seq ?_
     refine c_region (L := [0, 1]) (by kernel_rfl) ?_
     refine st_pure (l := [0, 1]) (rest := []) (L := [(52, .int .i64 ((x13.toNat : Int) - 247)), (5, .int .i64 ((x13.toNat : Int) - 247))]) rfl (by kernel_rfl) ?_
     refine st_end ?_
     refine then_n ?_
     refine wp_block ?_
     refine c_loop (σ := Int × Int) (fun s a w' => match s with | ⟨x, i⟩ => Fr 94 [(0, .pointer (some ⟨r, 0, none⟩)), (2, .int .u64 0), (3, .int .i64 ((x13.toNat : Int) - 247)), (4, .int .u64 x), (5, .int .i64 i), (6, .pointer (some ⟨r, 0, none⟩)), (7, .pointer (some ⟨r, 0, none⟩)), (8, .pointer (some ⟨r, 1, none⟩)), (9, .int .i64 e), (10, .bool false), (11, .pointer (some ⟨r, 0, none⟩)), (12, .pointer (some ⟨r, 0, none⟩)), (13, .pointer (some ⟨r, 0, none⟩)), (14, .slice A l.length cA), (15, .int .i64 (l.length : Int)), (16, .bool false), (20, .pointer (some ⟨r, 0, none⟩)), (21, .pointer (some ⟨r, 0, none⟩)), (22, .pointer (some ⟨r, 0, none⟩)), (23, .slice A l.length cA), (24, .pointer (some ⟨b9, o10 + (0 : Int).toNat * 1, none⟩)), (25, .int .u8 (x13.toNat : Int)), (26, .int .i64 (x13.toNat : Int)), (27, .int .i64 (x13.toNat : Int)), (28, .bool false), (39, .int .i64 (x13.toNat : Int)), (40, .int .i64 ((x13.toNat : Int) - 247)), (41, .pointer (some ⟨r, 0, none⟩)), (42, .pointer (some ⟨r, 0, none⟩)), (43, .pointer (some ⟨r, 0, none⟩)), (44, .slice A l.length cA), (45, .int .i64 (l.length : Int)), (46, .int .i64 ((x13.toNat : Int) - 247)), (47, .int .i64 (1 + ((x13.toNat : Int) - 247))), (48, .bool false), (52, .int .i64 ((x13.toNat : Int) - 247))] a ∧ Mod (fun k => k = r) w w' ∧ w.heap.size ≤ w'.heap.size ∧ Blk w' r 165 [.slice A l.length cA, .int .i64 e] ∧ RdA tyU8 w' lo hi A l ∧ At w' b9 (o10 + (0 : Int).toNat * 1) [.int .u8 (x13.toNat : Int)] ∧ (0 ≤ i ∧ i ≤ (x13.toNat : Int) - 247) ∧ (x = lev ((l.take (((x13.toNat : Int) - 247).toNat + 1)).drop (i.toNat + 1))) ∧ (0 ≤ x ∧ x ≤ 18446744073709551615) ∧ True) (fun s => match s with | ⟨x, i⟩ => i.toNat) (0, (x13.toNat : Int) - 247) ?_ ?_
     ·refine ⟨Fr.mk (by kernel_rfl) (by kernel_rfl), HM, Nat.le_refl _, hr, hR, hA11, ?_, ?_, ?_, trivial⟩
      ·omega
      ·rw [List.drop_of_length_le (by simp only [List.length_take]; omega)]; rfl
      ·omega
     ·rintro ⟨x, i⟩ a w31 ⟨⟨Tf, rfl⟩, HM', hszw31, hr', hR', hA11', hib, hx, hxb, -⟩
      clear HM hr hR hA11
      have HM := HM'; clear HM'
      have hr := hr'; clear hr'
      have hR := hR'; clear hR'
      have hA11 := hA11'; clear hA11'
      refine wp_seq ?_
      refine wp_seq ?_
      refine c_region (L := [0, 1]) (by kernel_rfl) ?_
      by_cases h32 : i ≥ 1
      ·skip
       have hb33 : (decide (i ≥ 1)) = true := decide_eq_true h32
       refine st_pure (l := [0, 1]) (rest := []) (L := [(53, .int .i64 i), (54, .bool true)]) rfl (Eq.trans (b := some [(53, .int .i64 i), (54, .bool (decide (i ≥ 1)))]) (by kernel_rfl) (by simp only [hb33])) ?_
       refine st_end ?_
       refine then_n ?_
       refine c_true (by kernel_rfl) ?_
       refine wp_skip ?_
       refine then_n ?_
       refine wp_seq ?_
       refine wp_block ?_
       refine c_region (L := [0, 1, 2, 3, 4, 5, 6, 7, 8, 9, 10, 11]) (by kernel_rfl) ?_
       have hlv := lev_lt ((l.take (((x13.toNat : Int) - 247).toNat + 1)).drop (i.toNat + 1))
       have hln : ((l.take (((x13.toNat : Int) - 247).toNat + 1)).drop (i.toNat + 1)).length = ((x13.toNat : Int) - 247).toNat - i.toNat := by simp only [List.length_drop, List.length_take]; omega
       rw [hln] at hlv
       have hp7 : (256 : Nat) ^ (((x13.toNat : Int) - 247).toNat - i.toNat) ≤ 256 ^ 7 := Nat.pow_le_pow_right (by omega) (by omega)
       have hx7 : x ≤ 72057594037927935 := by omega
       have hw34 : IntKind.wrap .u64 (x * 256) = x * 256 := wu64 (by omega) (by omega)
       refine st_pure (l := [0, 1]) (rest := [2, 3, 4, 5, 6, 7, 8, 9, 10, 11]) (L := [(57, .int .u64 x), (58, .int .u64 (x * 256))]) rfl (Eq.trans (b := some [(57, .int .u64 x), (58, .int .u64 (IntKind.wrap .u64 (x * 256)))]) (by kernel_rfl) (by simp only [hw34])) ?_
       refine st_pure (l := [2, 3, 4]) (rest := [5, 6, 7, 8, 9, 10, 11]) (L := [(59, .pointer (some ⟨r, 0, none⟩)), (60, .pointer (some ⟨r, 0, none⟩)), (61, .pointer (some ⟨r, 0, none⟩))]) rfl (by kernel_rfl) ?_
       refine st_load (d := 62) (t := 23) (cs := _) (v := .slice A l.length cA) (by kernel_rfl) (hr.sub 0) (by kernel_rfl) ?_
       refine st_pure (l := [6]) (rest := [7, 8, 9, 10, 11]) (L := [(63, .int .i64 i)]) rfl (by kernel_rfl) ?_
       have hi38 : (i).toNat < (l).length := by omega
       obtain ⟨b35, o36, ehA37, lhA37, uhA37, hA37⟩ := hR.get hi38
       obtain ⟨x39, ex39⟩ : ∃ y, y = (l)[(i).toNat] := ⟨_, rfl⟩
       rw [← ex39] at hA37
       have dx39 := getD_of (d := 0) hi38 ex39
       have hrx39 : x39.toNat < 256 := UInt8.toNat_lt x39
       refine st_index (d := 64) (tn := 23) (n := l.length) (c := cA) (ix := i) (k := .i64) (e := 5) (t := tyU8) (b := b35) (by kernel_rfl) Try.underlying23 (by kernel_rfl) ehA37 (by omega) (by omega) ?_
       refine st_load (d := 65) (t := 5) (cs := _) (v := .int .u8 (x39.toNat : Int)) (by kernel_rfl) (hA37.dropk 0) (by kernel_rfl) ?_
       have hw40 : IntKind.wrap .u64 ((x39.toNat : Int)) = (x39.toNat : Int) := wu64 (by omega) (by omega)
       refine st_pure (l := [9]) (rest := [10, 11]) (L := [(66, .int .u64 (x39.toNat : Int))]) rfl (Eq.trans (b := some [(66, .int .u64 (IntKind.wrap .u64 ((x39.toNat : Int))))]) (by kernel_rfl) (by simp only [hw40])) ?_
       have hw41 : IntKind.wrap .u64 ((x * 256) + (x39.toNat : Int)) = (x * 256) + (x39.toNat : Int) := wu64 (by omega) (by omega)
       refine st_pure (l := [10]) (rest := [11]) (L := [(67, .int .u64 ((x * 256) + (x39.toNat : Int)))]) rfl (Eq.trans (b := some [(67, .int .u64 (IntKind.wrap .u64 ((x * 256) + (x39.toNat : Int))))]) (by kernel_rfl) (by simp only [hw41])) ?_
       refine st_pure (l := [11]) (rest := []) (L := [(4, .int .u64 ((x * 256) + (x39.toNat : Int)))]) rfl (by kernel_rfl) ?_
       refine st_end ?_
       refine blk_n ?_
       refine then_n ?_
       refine c_region (L := [0, 1, 2]) (by kernel_rfl) ?_
       have hw42 : IntKind.wrap .i64 (i - 1) = i - 1 := wi64 (by omega) (by omega)
       refine st_pure (l := [0, 1]) (rest := [2]) (L := [(55, .int .i64 i), (56, .int .i64 (i - 1))]) rfl (Eq.trans (b := some [(55, .int .i64 i), (56, .int .i64 (IntKind.wrap .i64 (i - 1)))]) (by kernel_rfl) (by simp only [hw42])) ?_
       refine st_pure (l := [2]) (rest := []) (L := [(5, .int .i64 (i - 1))]) rfl (by kernel_rfl) ?_
       refine st_end ?_
       refine then_n ?_
       refine ⟨((x * 256) + (x39.toNat : Int), i - 1), ⟨Fr.mk (by kernel_rfl) (by kernel_rfl), HM, by omega, hr, hR, hA11, ?_, ?_, ?_, trivial⟩, ?_⟩
       ·omega
       ·have h9 := lev_step (l := l) (n := ((x13.toNat : Int) - 247).toNat) (i := i.toNat) (by omega) (by omega) ex39; rw [show (i - 1).toNat + 1 = i.toNat by omega, h9]; omega
       ·omega
       ·dsimp only; omega
      ·skip
       have hb43 : (decide (i ≥ 1)) = false := decide_eq_false h32
       refine st_pure (l := [0, 1]) (rest := []) (L := [(53, .int .i64 i), (54, .bool false)]) rfl (Eq.trans (b := some [(53, .int .i64 i), (54, .bool (decide (i ≥ 1)))]) (by kernel_rfl) (by simp only [hb43])) ?_
       refine st_end ?_
       refine then_n ?_
       refine c_false (by kernel_rfl) ?_
       refine wp_exit ?_
       refine then_x ?_
       refine then_x ?_
       refine blk_hit ?_
       refine then_n ?_
       refine wp_seq ?_
       refine wp_seq ?_
       refine c_region (L := [0, 1, 2, 3, 4, 5, 6, 7, 8, 9, 10, 11]) (by kernel_rfl) ?_
       refine st_pure (l := [0, 1, 2]) (rest := [3, 4, 5, 6, 7, 8, 9, 10, 11]) (L := [(68, .pointer (some ⟨r, 0, none⟩)), (69, .pointer (some ⟨r, 0, none⟩)), (70, .pointer (some ⟨r, 0, none⟩))]) rfl (by kernel_rfl) ?_
       refine st_load (d := 71) (t := 23) (cs := _) (v := .slice A l.length cA) (by kernel_rfl) (hr.sub 0) (by kernel_rfl) ?_
       refine st_pure (l := [4]) (rest := [5, 6, 7, 8, 9, 10, 11]) (L := [(72, .int .i64 ((x13.toNat : Int) - 247))]) rfl (by kernel_rfl) ?_
       have hi47 : ((x13.toNat : Int) - 247).toNat < (l).length := by omega
       obtain ⟨b44, o45, ehA46, lhA46, uhA46, hA46⟩ := hR.get hi47
       obtain ⟨x48, ex48⟩ : ∃ y, y = (l)[((x13.toNat : Int) - 247).toNat] := ⟨_, rfl⟩
       rw [← ex48] at hA46
       have dx48 := getD_of (d := 0) hi47 ex48
       have hrx48 : x48.toNat < 256 := UInt8.toNat_lt x48
       refine st_index (d := 73) (tn := 23) (n := l.length) (c := cA) (ix := (x13.toNat : Int) - 247) (k := .i64) (e := 5) (t := tyU8) (b := b44) (by kernel_rfl) Try.underlying23 (by kernel_rfl) ehA46 (by omega) (by omega) ?_
       refine st_load (d := 74) (t := 5) (cs := _) (v := .int .u8 (x48.toNat : Int)) (by kernel_rfl) (hA46.dropk 0) (by kernel_rfl) ?_
       by_cases h49 : (x48.toNat : Int) = 0
       ·skip
        have hb50 : ((x48.toNat : Int) == 0) = true := beq_iff_eq.2 h49
        refine st_pure (l := [7, 8]) (rest := [9, 10, 11]) (L := [(75, .bool ((x48.toNat : Int) == 0)), (76, .bool true)]) rfl (Eq.trans (b := some [(75, .bool ((x48.toNat : Int) == 0)), (76, .bool ((x48.toNat : Int) == 0))]) (by kernel_rfl) (by simp only [hb50])) ?_
        refine st_pure (l := [9, 10, 11]) (rest := []) (L := [(77, undef), (78, undef), (79, .bool true)]) rfl (by kernel_rfl) ?_
        refine st_end ?_
        refine then_n ?_
        refine c_true (by kernel_rfl) ?_
        refine wp_seq ?_
        refine c_region (L := [0, 1, 2, 3]) (by kernel_rfl) ?_
        refine st_pure (l := [0, 1, 2]) (rest := [3]) (L := [(80, .pointer (some ⟨r, 0, none⟩)), (81, .pointer (some ⟨r, 0, none⟩)), (82, .pointer (some ⟨r, 1, none⟩))]) rfl (by kernel_rfl) ?_
        refine st_store (t := 26) (v := .int .i64 4) (o := 1) (C' := [.slice A l.length cA, .int .i64 4]) (by kernel_rfl) hr (by kernel_rfl) ?_
        intro w51 m52 zm52 Nhr
        clear hr; have hr := Nhr; clear Nhr
        replace hR := hR.mod m52 (by intro k h1 h2 h3; (try simp only [Iv] at h3); omega)
        replace hA11 := hA11.mod m52 (by intro h3; (try simp only [Iv] at h3); omega)
        replace hA46 := hA46.mod m52 (by intro h3; (try simp only [Iv] at h3); omega)
        replace HM := HM.trans m52 (by intro k h1 h3; (try simp only [Iv] at h3 ⊢); omega)
        have hszw51 := m52.size
        refine st_end ?_
        refine then_n ?_
        refine wp_seq ?_
        refine c_region (L := [0]) (by kernel_rfl) ?_
        refine st_pure (l := [0]) (rest := []) (L := [(2, .int .u64 0)]) rfl (by kernel_rfl) ?_
        refine st_end ?_
        refine then_n ?_
        refine wp_ret ?_
        refine then_r ?_
        refine post_ret (v := .int .u64 0) (by kernel_rfl) ?_
        refine ⟨0, A, cA, l, 4, ?_, rfl, ?_, ?_, ?_, ?_, hr, hR, HM⟩
        ·have he : e = 0 := by omega
         subst he
         have hE := rd1_end (l := l) (n := ((x13.toNat : Int) - 247).toNat) (v := x.toNat) (by omega) ex13 (by omega) (by omega) (by omega) ex48 (by have hi0 : i.toNat + 1 = 1 := (by omega); rw [hi0] at hx; rw [hx]; rfl)
         first
         | (rw [if_pos (by omega)] at hE; exact hE)
         | (rw [if_neg (by omega), show ((x.toNat : Nat) : Int) = x by omega] at hE; rw [hE]; first | rfl | (congr 3; omega))
        ·omega
        ·exact A_n
        ·first | exact A_c | omega
        ·omega
       ·skip
        have hb53 : ((x48.toNat : Int) == 0) = false := beq_eq_false_iff_ne.2 h49
        refine st_pure (l := [7, 8]) (rest := [9, 10, 11]) (L := [(75, .bool ((x48.toNat : Int) == 0)), (76, .bool false)]) rfl (Eq.trans (b := some [(75, .bool ((x48.toNat : Int) == 0)), (76, .bool ((x48.toNat : Int) == 0))]) (by kernel_rfl) (by simp only [hb53])) ?_
        by_cases h54 : x ≤ 247
        ·skip
         have hb55 : (decide (x ≤ 247)) = true := decide_eq_true h54
         refine st_pure (l := [9, 10, 11]) (rest := []) (L := [(77, .int .u64 x), (78, .bool (decide (x ≤ 247))), (79, .bool true)]) rfl (Eq.trans (b := some [(77, .int .u64 x), (78, .bool (decide (x ≤ 247))), (79, .bool (decide (x ≤ 247)))]) (by kernel_rfl) (by simp only [hb55])) ?_
         refine st_end ?_
         refine then_n ?_
         refine c_true (by kernel_rfl) ?_
         refine wp_seq ?_
         refine c_region (L := [0, 1, 2, 3]) (by kernel_rfl) ?_
         refine st_pure (l := [0, 1, 2]) (rest := [3]) (L := [(80, .pointer (some ⟨r, 0, none⟩)), (81, .pointer (some ⟨r, 0, none⟩)), (82, .pointer (some ⟨r, 1, none⟩))]) rfl (by kernel_rfl) ?_
         refine st_store (t := 26) (v := .int .i64 4) (o := 1) (C' := [.slice A l.length cA, .int .i64 4]) (by kernel_rfl) hr (by kernel_rfl) ?_
         intro w56 m57 zm57 Nhr
         clear hr; have hr := Nhr; clear Nhr
         replace hR := hR.mod m57 (by intro k h1 h2 h3; (try simp only [Iv] at h3); omega)
         replace hA11 := hA11.mod m57 (by intro h3; (try simp only [Iv] at h3); omega)
         replace hA46 := hA46.mod m57 (by intro h3; (try simp only [Iv] at h3); omega)
         replace HM := HM.trans m57 (by intro k h1 h3; (try simp only [Iv] at h3 ⊢); omega)
         have hszw56 := m57.size
         refine st_end ?_
         refine then_n ?_
         refine wp_seq ?_
         refine c_region (L := [0]) (by kernel_rfl) ?_
         refine st_pure (l := [0]) (rest := []) (L := [(2, .int .u64 0)]) rfl (by kernel_rfl) ?_
         refine st_end ?_
         refine then_n ?_
         refine wp_ret ?_
         refine then_r ?_
         refine post_ret (v := .int .u64 0) (by kernel_rfl) ?_
         refine ⟨0, A, cA, l, 4, ?_, rfl, ?_, ?_, ?_, ?_, hr, hR, HM⟩
         ·have he : e = 0 := by omega
          subst he
          have hE := rd1_end (l := l) (n := ((x13.toNat : Int) - 247).toNat) (v := x.toNat) (by omega) ex13 (by omega) (by omega) (by omega) ex48 (by have hi0 : i.toNat + 1 = 1 := (by omega); rw [hi0] at hx; rw [hx]; rfl)
          first
          | (rw [if_pos (by omega)] at hE; exact hE)
          | (rw [if_neg (by omega), show ((x.toNat : Nat) : Int) = x by omega] at hE; rw [hE]; first | rfl | (congr 3; omega))
         ·omega
         ·exact A_n
         ·first | exact A_c | omega
         ·omega
        ·skip
         have hb58 : (decide (x ≤ 247)) = false := decide_eq_false h54
         refine st_pure (l := [9, 10, 11]) (rest := []) (L := [(77, .int .u64 x), (78, .bool (decide (x ≤ 247))), (79, .bool false)]) rfl (Eq.trans (b := some [(77, .int .u64 x), (78, .bool (decide (x ≤ 247))), (79, .bool (decide (x ≤ 247)))]) (by kernel_rfl) (by simp only [hb58])) ?_
         refine st_end ?_
         refine then_n ?_
         refine c_false (by kernel_rfl) ?_
         refine wp_skip ?_
         refine then_n ?_
         refine wp_seq ?_
         refine c_region (L := [0, 1, 2, 3, 4, 5, 6, 7, 8, 9, 10]) (by kernel_rfl) ?_
         refine st_pure (l := [0, 1, 2, 3]) (rest := [4, 5, 6, 7, 8, 9, 10]) (L := [(83, .pointer (some ⟨r, 0, none⟩)), (84, .pointer (some ⟨r, 0, none⟩)), (85, .pointer (some ⟨r, 0, none⟩)), (86, .pointer (some ⟨r, 0, none⟩))]) rfl (by kernel_rfl) ?_
         refine st_load (d := 87) (t := 23) (cs := _) (v := .slice A l.length cA) (by kernel_rfl) (hr.sub 0) (by kernel_rfl) ?_
         have hw59 : IntKind.wrap .i64 (1 + ((x13.toNat : Int) - 247)) = 1 + ((x13.toNat : Int) - 247) := wi64 (by omega) (by omega)
         refine st_pure (l := [5, 6]) (rest := [7, 8, 9, 10]) (L := [(88, .int .i64 ((x13.toNat : Int) - 247)), (89, .int .i64 (1 + ((x13.toNat : Int) - 247)))]) rfl (Eq.trans (b := some [(88, .int .i64 ((x13.toNat : Int) - 247)), (89, .int .i64 (IntKind.wrap .i64 (1 + ((x13.toNat : Int) - 247))))]) (by kernel_rfl) (by simp only [hw59])) ?_
         refine st_from (d := 90) (tn := 23) (e := 5) (t := tyU8) (A := A) (n := l.length) (c := cA) (lo := (.int .i64 (1 + ((x13.toNat : Int) - 247)))) (i' := 1 + ((x13.toNat : Int) - 247)) (l := l) (k := (1 + ((x13.toNat : Int) - 247)).toNat) (by kernel_rfl) Try.underlying23 (by kernel_rfl) rfl (by omega) (by omega) (by first | rfl | simp) (by first | exact A_c | omega) (A_n) hR rfl ?_
         intro A60 c61 hR62 A60_c A60_n
         have hR62_l := hR62.len; simp only [List.length_drop, List.length_take] at hR62_l
         refine st_pure (l := [8, 9]) (rest := [10]) (L := [(91, .pointer (some ⟨r, 0, none⟩)), (92, .pointer (some ⟨r, 0, none⟩))]) rfl (by kernel_rfl) ?_
         refine st_store (t := 23) (v := .slice A60 ((l.drop ((1 + ((x13.toNat : Int) - 247)).toNat)).length) c61) (o := 0) (C' := [.slice A60 ((l.drop ((1 + ((x13.toNat : Int) - 247)).toNat)).length) c61, .int .i64 e]) (by kernel_rfl) hr (by kernel_rfl) ?_
         intro w63 m64 zm64 Nhr
         clear hr; have hr := Nhr; clear Nhr
         replace hR := hR.mod m64 (by intro k h1 h2 h3; (try simp only [Iv] at h3); omega)
         replace hA11 := hA11.mod m64 (by intro h3; (try simp only [Iv] at h3); omega)
         replace hA46 := hA46.mod m64 (by intro h3; (try simp only [Iv] at h3); omega)
         replace hR62 := hR62.mod m64 (by intro k h1 h2 h3; (try simp only [Iv] at h3); omega)
         replace HM := HM.trans m64 (by intro k h1 h3; (try simp only [Iv] at h3 ⊢); omega)
         have hszw63 := m64.size
         refine st_end ?_
         refine then_n ?_
         refine wp_seq ?_
         refine c_region (L := [0, 1]) (by kernel_rfl) ?_
         refine st_pure (l := [0, 1]) (rest := []) (L := [(93, .int .u64 x), (2, .int .u64 x)]) rfl (by kernel_rfl) ?_
         refine st_end ?_
         refine then_n ?_
         refine wp_ret ?_
         refine post_ret (v := .int .u64 x) (by kernel_rfl) ?_
         refine ⟨x, A60, c61, l.drop ((1 + ((x13.toNat : Int) - 247)).toNat), e, ?_, rfl, ?_, ?_, ?_, ?_, hr, hR62, HM⟩
         ·have he : e = 0 := by omega
          subst he
          have hE := rd1_end (l := l) (n := ((x13.toNat : Int) - 247).toNat) (v := x.toNat) (by omega) ex13 (by omega) (by omega) (by omega) ex48 (by have hi0 : i.toNat + 1 = 1 := (by omega); rw [hi0] at hx; rw [hx]; rfl)
          first
          | (rw [if_pos (by omega)] at hE; exact hE)
          | (rw [if_neg (by omega), show ((x.toNat : Nat) : Int) = x by omega] at hE; rw [hE]; first | rfl | (congr 3; omega))
         ·omega
         ·exact A60_n
         ·first | exact A60_c | omega
         ·omega

def rcnt (l : List UInt8) (e : Int) (most : Int) : Int × List UInt8 × Int :=
 match rd1 l e with
 | (x1, l4, e5) =>
  if e5 = 0 then
   if x1 > most then
    (0, l4, 3)
   else
    if e5 ≠ 0 then
     (0, l4, e5)
    else
     (x1, l4, e5)
  else
   if e5 ≠ 0 then
    (0, l4, e5)
   else
    (IntKind.wrap .i64 (x1), l4, e5)

theorem ref_RCount {w : World} {r : Nat} {A : Option Addr} {cA : Nat} {l : List UInt8} {e : Int} {lo : Nat} {hi : Nat} {most : Int} (hr : Blk w r 165 [.slice A l.length cA, .int .i64 e]) (hR : RdA tyU8 w lo hi A l) (most_r : 0 ≤ most ∧ most ≤ 9223372036854775807) (A_n : A = none → cA = 0) (A_c : l.length ≤ cA) (e_r : -9223372036854775808 ≤ e ∧ e ≤ 9223372036854775807) (hR_hi : hi ≤ w.heap.size) (hsep : hi ≤ r ∨ r < lo) :
  Ret Try.prog 117 #[.pointer (some ⟨r, 0, none⟩), .int .i64 most] w fun v w' => ∃ x2 : Int, ∃ A2 : Option Addr, ∃ c2 : Nat, ∃ l2 : List UInt8, ∃ e2 : Int, rcnt l e most = (x2, l2, e2) ∧ v = .int .i64 x2 ∧ (0 ≤ x2 ∧ x2 ≤ 9223372036854775807) ∧ (A2 = none → c2 = 0) ∧ (l2.length ≤ c2) ∧ (-9223372036854775808 ≤ e2 ∧ e2 ≤ 9223372036854775807) ∧ (x2 ≤ most) ∧ Blk w' r 165 [.slice A2 l2.length c2, .int .i64 e2] ∧ RdA tyU8 w' lo hi A2 l2 ∧ Mod (fun k => k = r) w w' := by
 have lt_hr := hr.lt
 have hR_l := hR.len
 have HM : Mod (fun k => k = r) w w := Mod.refl _ w
 refine ret_of Try.func117 rfl rfl ?_
 refine wp_seq ?_
 refine c_region (L := [0]) (by kernel_rfl) ?_
 refine st_pure (l := [0]) (rest := []) (L := [(4, .int .i64 0)]) rfl (by kernel_rfl) ?_
 refine st_end ?_
 refine then_n ?_
 refine wp_seq ?_
 refine c_region (L := [0, 1, 2]) (by kernel_rfl) ?_
 refine st_pure (l := [0]) (rest := [1, 2]) (L := [(6, .pointer (some ⟨r, 0, none⟩))]) rfl (by kernel_rfl) ?_
 refine st_fn (d := 7) (f := 166) (xs := #[.pointer (some ⟨r, 0, none⟩)]) (R := _) (by kernel_rfl) (ref_RNumber (w := w) (r := r) (A := A) (cA := cA) (l := l) (e := e) (lo := lo) (hi := hi) (hr := hr) (hR := hR) (A_n := A_n) (A_c := by first | exact A_c | omega) (e_r := by omega) (hR_hi := by omega) (hsep := by first | omega | (simp only [List.length_cons, List.length_nil, List.length_append, List.length_take, List.length_drop] at *; omega))) ?_
 rintro vw6 w6 ⟨x1, A2, c3, l4, e5, hsp7, rfl, x1_r, A2_n, A2_c, e5_r, hr_9, hR_10, m11⟩
 clear hr
 clear hR
 replace HM := HM.trans m11 (by intro k h1 h3; (try simp only [Iv] at h3 ⊢); omega)
 have hszw6 := m11.size
 have lt_hr_9 := hr_9.lt
 have hR_10_l := hR_10.len
 refine st_pure (l := [2]) (rest := []) (L := [(5, .int .u64 x1)]) rfl (by kernel_rfl) ?_
 refine st_end ?_
 refine then_n ?_
 refine wp_seq ?_
 refine wp_seq ?_
 refine c_region (L := [0, 1, 2, 3, 4, 5, 6, 7, 8, 9, 10, 11]) (by kernel_rfl) ?_
 refine st_pure (l := [0, 1, 2]) (rest := [3, 4, 5, 6, 7, 8, 9, 10, 11]) (L := [(8, .pointer (some ⟨r, 0, none⟩)), (9, .pointer (some ⟨r, 0, none⟩)), (10, .pointer (some ⟨r, 1, none⟩))]) rfl (by kernel_rfl) ?_
 refine st_load (d := 11) (t := 26) (cs := _) (v := .int .i64 e5) (by kernel_rfl) (hr_9.sub 1) (by kernel_rfl) ?_
 by_cases h12 : e5 = 0
 ·skip
  have hb13 : (e5 == 0) = true := beq_iff_eq.2 h12
  refine st_pure (l := [4, 5]) (rest := [6, 7, 8, 9, 10, 11]) (L := [(12, .bool (e5 == 0)), (13, .bool true)]) rfl (Eq.trans (b := some [(12, .bool (e5 == 0)), (13, .bool (e5 == 0))]) (by kernel_rfl) (by simp only [hb13])) ?_
  have hx14 : (if most > 0 then most else 0) = most := by split <;> omega
  refine st_pure (l := [6, 7, 8]) (rest := [9, 10, 11]) (L := [(14, .int .u64 x1), (15, .int .i64 most), (16, .int .i64 most)]) rfl (Eq.trans (b := some [(14, .int .u64 x1), (15, .int .i64 most), (16, .int .i64 (if most > 0 then most else 0))]) (by kernel_rfl) (by simp only [hx14])) ?_
  have hw15 : IntKind.wrap .u64 (most) = most := wu64 (by omega) (by omega)
  refine st_pure (l := [9]) (rest := [10, 11]) (L := [(17, .int .u64 most)]) rfl (Eq.trans (b := some [(17, .int .u64 (IntKind.wrap .u64 (most)))]) (by kernel_rfl) (by simp only [hw15])) ?_
  by_cases h16 : x1 > most
  ·skip
   have hb17 : (decide (x1 > most)) = true := decide_eq_true h16
   refine st_pure (l := [10, 11]) (rest := []) (L := [(18, .bool (decide (x1 > most))), (19, .bool true)]) rfl (Eq.trans (b := some [(18, .bool (decide (x1 > most))), (19, .bool (decide (x1 > most)))]) (by kernel_rfl) (by simp only [hb17])) ?_
   refine st_end ?_
   refine then_n ?_
   refine c_true (by kernel_rfl) ?_
   refine c_region (L := [0, 1, 2, 3]) (by kernel_rfl) ?_
   refine st_pure (l := [0, 1, 2]) (rest := [3]) (L := [(20, .pointer (some ⟨r, 0, none⟩)), (21, .pointer (some ⟨r, 0, none⟩)), (22, .pointer (some ⟨r, 1, none⟩))]) rfl (by kernel_rfl) ?_
   refine st_store (t := 26) (v := .int .i64 3) (o := 1) (C' := [.slice A2 l4.length c3, .int .i64 3]) (by kernel_rfl) hr_9 (by kernel_rfl) ?_
   intro w18 m19 zm19 Nhr_9
   clear hr_9; have hr_9 := Nhr_9; clear Nhr_9
   replace hR_10 := hR_10.mod m19 (by intro k h1 h2 h3; (try simp only [Iv] at h3); omega)
   replace HM := HM.trans m19 (by intro k h1 h3; (try simp only [Iv] at h3 ⊢); omega)
   have hszw18 := m19.size
   refine st_end ?_
   refine then_n ?_
   refine wp_seq ?_
   refine wp_seq ?_
   refine c_region (L := [0, 1, 2, 3, 4]) (by kernel_rfl) ?_
   refine st_pure (l := [0, 1, 2]) (rest := [3, 4]) (L := [(23, .pointer (some ⟨r, 0, none⟩)), (24, .pointer (some ⟨r, 0, none⟩)), (25, .pointer (some ⟨r, 1, none⟩))]) rfl (by kernel_rfl) ?_
   refine st_load (d := 26) (t := 26) (cs := _) (v := .int .i64 3) (by kernel_rfl) (hr_9.sub 1) (by kernel_rfl) ?_
   refine st_pure (l := [4]) (rest := []) (L := [(27, .bool true)]) rfl (by kernel_rfl) ?_
   refine st_end ?_
   refine then_n ?_
   refine c_true (by kernel_rfl) ?_
   refine wp_seq ?_
   refine c_region (L := [0]) (by kernel_rfl) ?_
   refine st_pure (l := [0]) (rest := []) (L := [(4, .int .i64 0)]) rfl (by kernel_rfl) ?_
   refine st_end ?_
   refine then_n ?_
   refine wp_ret ?_
   refine then_r ?_
   refine post_ret (v := .int .i64 0) (by kernel_rfl) ?_
   refine ⟨0, A2, c3, l4, 3, ?_, rfl, ?_, ?_, ?_, ?_, ?_, hr_9, hR_10, HM⟩
   ·rw [rcnt]
    try simp only [hsp7]
    rw [if_pos h12, if_pos h16]
    all_goals (try rfl)
   ·omega
   ·exact A2_n
   ·first | exact A2_c | omega
   ·omega
   ·omega
  ·skip
   have hb20 : (decide (x1 > most)) = false := decide_eq_false h16
   refine st_pure (l := [10, 11]) (rest := []) (L := [(18, .bool (decide (x1 > most))), (19, .bool false)]) rfl (Eq.trans (b := some [(18, .bool (decide (x1 > most))), (19, .bool (decide (x1 > most)))]) (by kernel_rfl) (by simp only [hb20])) ?_
   refine st_end ?_
   refine then_n ?_
   refine c_false (by kernel_rfl) ?_
   refine wp_skip ?_
   refine then_n ?_
   refine wp_seq ?_
   refine wp_seq ?_
   refine c_region (L := [0, 1, 2, 3, 4]) (by kernel_rfl) ?_
   refine st_pure (l := [0, 1, 2]) (rest := [3, 4]) (L := [(23, .pointer (some ⟨r, 0, none⟩)), (24, .pointer (some ⟨r, 0, none⟩)), (25, .pointer (some ⟨r, 1, none⟩))]) rfl (by kernel_rfl) ?_
   refine st_load (d := 26) (t := 26) (cs := _) (v := .int .i64 e5) (by kernel_rfl) (hr_9.sub 1) (by kernel_rfl) ?_
   by_cases h21 : e5 ≠ 0
   ·skip
    have hb22 : (e5 != 0) = true := by first | (rw [bne_iff_ne]; exact h21) | (rw [bne_eq_false_iff_eq]; omega)
    refine st_pure (l := [4]) (rest := []) (L := [(27, .bool true)]) rfl (Eq.trans (b := some [(27, .bool (e5 != 0))]) (by kernel_rfl) (by simp only [hb22])) ?_
    refine st_end ?_
    refine then_n ?_
    refine c_true (by kernel_rfl) ?_
    refine wp_seq ?_
    refine c_region (L := [0]) (by kernel_rfl) ?_
    refine st_pure (l := [0]) (rest := []) (L := [(4, .int .i64 0)]) rfl (by kernel_rfl) ?_
    refine st_end ?_
    refine then_n ?_
    refine wp_ret ?_
    refine then_r ?_
    refine post_ret (v := .int .i64 0) (by kernel_rfl) ?_
    refine ⟨0, A2, c3, l4, e5, ?_, rfl, ?_, ?_, ?_, ?_, ?_, hr_9, hR_10, HM⟩
    ·rw [rcnt]
     try simp only [hsp7]
     rw [if_pos h12, if_neg h16, if_pos h21]
     all_goals (try rfl)
    ·omega
    ·exact A2_n
    ·first | exact A2_c | omega
    ·omega
    ·omega
   ·skip
    have hb23 : (e5 != 0) = false := by rw [bne_eq_false_iff_eq]; exact Decidable.not_not.1 h21
    refine st_pure (l := [4]) (rest := []) (L := [(27, .bool false)]) rfl (Eq.trans (b := some [(27, .bool (e5 != 0))]) (by kernel_rfl) (by simp only [hb23])) ?_
    refine st_end ?_
    refine then_n ?_
    refine c_false (by kernel_rfl) ?_
    refine wp_skip ?_
    refine then_n ?_
    refine wp_seq ?_
    refine c_region (L := [0, 1, 2]) (by kernel_rfl) ?_
    have hw24 : IntKind.wrap .i64 (x1) = x1 := wi64 (by omega) (by omega)
    refine st_pure (l := [0, 1]) (rest := [2]) (L := [(28, .int .u64 x1), (29, .int .i64 x1)]) rfl (Eq.trans (b := some [(28, .int .u64 x1), (29, .int .i64 (IntKind.wrap .i64 (x1)))]) (by kernel_rfl) (by simp only [hw24])) ?_
    refine st_pure (l := [2]) (rest := []) (L := [(4, .int .i64 x1)]) rfl (by kernel_rfl) ?_
    refine st_end ?_
    refine then_n ?_
    refine wp_ret ?_
    refine post_ret (v := .int .i64 x1) (by kernel_rfl) ?_
    refine ⟨x1, A2, c3, l4, e5, ?_, rfl, ?_, ?_, ?_, ?_, ?_, hr_9, hR_10, HM⟩
    ·rw [rcnt]
     try simp only [hsp7]
     rw [if_pos h12, if_neg h16, if_neg h21]
     all_goals (try rfl)
    ·omega
    ·exact A2_n
    ·first | exact A2_c | omega
    ·omega
    ·omega
 ·skip
  have hb25 : (e5 == 0) = false := beq_eq_false_iff_ne.2 h12
  refine st_pure (l := [4, 5]) (rest := [6, 7, 8, 9, 10, 11]) (L := [(12, .bool (e5 == 0)), (13, .bool false)]) rfl (Eq.trans (b := some [(12, .bool (e5 == 0)), (13, .bool (e5 == 0))]) (by kernel_rfl) (by simp only [hb25])) ?_
  refine st_pure (l := [6, 7, 8, 9, 10, 11]) (rest := []) (L := [(14, undef), (15, undef), (16, undef), (17, undef), (18, undef), (19, .bool false)]) rfl (by kernel_rfl) ?_
  refine st_end ?_
  refine then_n ?_
  refine c_false (by kernel_rfl) ?_
  refine wp_skip ?_
  refine then_n ?_
  refine wp_seq ?_
  refine wp_seq ?_
  refine c_region (L := [0, 1, 2, 3, 4]) (by kernel_rfl) ?_
  refine st_pure (l := [0, 1, 2]) (rest := [3, 4]) (L := [(23, .pointer (some ⟨r, 0, none⟩)), (24, .pointer (some ⟨r, 0, none⟩)), (25, .pointer (some ⟨r, 1, none⟩))]) rfl (by kernel_rfl) ?_
  refine st_load (d := 26) (t := 26) (cs := _) (v := .int .i64 e5) (by kernel_rfl) (hr_9.sub 1) (by kernel_rfl) ?_
  by_cases h26 : e5 ≠ 0
  ·skip
   have hb27 : (e5 != 0) = true := by first | (rw [bne_iff_ne]; exact h26) | (rw [bne_eq_false_iff_eq]; omega)
   refine st_pure (l := [4]) (rest := []) (L := [(27, .bool true)]) rfl (Eq.trans (b := some [(27, .bool (e5 != 0))]) (by kernel_rfl) (by simp only [hb27])) ?_
   refine st_end ?_
   refine then_n ?_
   refine c_true (by kernel_rfl) ?_
   refine wp_seq ?_
   refine c_region (L := [0]) (by kernel_rfl) ?_
   refine st_pure (l := [0]) (rest := []) (L := [(4, .int .i64 0)]) rfl (by kernel_rfl) ?_
   refine st_end ?_
   refine then_n ?_
   refine wp_ret ?_
   refine then_r ?_
   refine post_ret (v := .int .i64 0) (by kernel_rfl) ?_
   refine ⟨0, A2, c3, l4, e5, ?_, rfl, ?_, ?_, ?_, ?_, ?_, hr_9, hR_10, HM⟩
   ·rw [rcnt]
    try simp only [hsp7]
    rw [if_neg h12, if_pos h26]
    all_goals (try rfl)
   ·omega
   ·exact A2_n
   ·first | exact A2_c | omega
   ·omega
   ·omega
  ·skip
   have hb28 : (e5 != 0) = false := by rw [bne_eq_false_iff_eq]; exact Decidable.not_not.1 h26
   refine st_pure (l := [4]) (rest := []) (L := [(27, .bool false)]) rfl (Eq.trans (b := some [(27, .bool (e5 != 0))]) (by kernel_rfl) (by simp only [hb28])) ?_
   refine st_end ?_
   refine then_n ?_
   refine c_false (by kernel_rfl) ?_
   refine wp_skip ?_
   refine then_n ?_
   refine wp_seq ?_
   refine c_region (L := [0, 1, 2]) (by kernel_rfl) ?_
   have hwr29 := wi64_lo (x1)
   refine st_pure (l := [0, 1, 2]) (rest := []) (L := [(28, .int .u64 x1), (29, .int .i64 (IntKind.wrap .i64 (x1))), (4, .int .i64 (IntKind.wrap .i64 (x1)))]) rfl (by kernel_rfl) ?_
   refine st_end ?_
   refine then_n ?_
   refine wp_ret ?_
   refine post_ret (v := .int .i64 (IntKind.wrap .i64 (x1))) (by kernel_rfl) ?_
   refine ⟨IntKind.wrap .i64 (x1), A2, c3, l4, e5, ?_, rfl, ?_, ?_, ?_, ?_, ?_, hr_9, hR_10, HM⟩
   ·rw [rcnt]
    try simp only [hsp7]
    rw [if_neg h12, if_neg h26]
    all_goals (try rfl)
   ·omega
   ·exact A2_n
   ·first | exact A2_c | omega
   ·omega
   ·omega

def rblk (l : List UInt8) (e : Int) : List UInt8 × List UInt8 × Int :=
 match rd1 l e with
 | (x1, l4, e5) =>
  if e5 ≠ 0 then
   ([], l4, e5)
  else
   if x1 > 1048576 then
    ([], l4, 3)
   else
    if x1 > (l4.length : Int) then
     ([], l4, 5)
    else
     ([] ++ l4.take x1.toNat, l4.drop x1.toNat, e5)

theorem ref_RBlock {w : World} {r : Nat} {A : Option Addr} {cA : Nat} {l : List UInt8} {e : Int} {lo : Nat} {hi : Nat} (hr : Blk w r 165 [.slice A l.length cA, .int .i64 e]) (hR : RdA tyU8 w lo hi A l) (A_n : A = none → cA = 0) (A_c : l.length ≤ cA) (e_r : -9223372036854775808 ≤ e ∧ e ≤ 9223372036854775807) (hR_hi : hi ≤ w.heap.size) (hsep : hi ≤ r ∨ r < lo) :
  Ret Try.prog 119 #[.pointer (some ⟨r, 0, none⟩)] w fun v w' => ∃ p : List UInt8, ∃ A3 : Option Addr, ∃ c3 : Nat, ∃ A2 : Option Addr, ∃ c2 : Nat, ∃ l2 : List UInt8, ∃ e2 : Int, rblk l e = (p, l2, e2) ∧ v = .slice A3 p.length c3 ∧ (A3 = none → c3 = 0) ∧ (p.length ≤ c3) ∧ (A2 = none → c2 = 0) ∧ (l2.length ≤ c2) ∧ (-9223372036854775808 ≤ e2 ∧ e2 ≤ 9223372036854775807) ∧ Blk w' r 165 [.slice A2 l2.length c2, .int .i64 e2] ∧ RdA tyU8 w' lo hi A2 l2 ∧ RdA tyU8 w' (w.heap.size) (w'.heap.size) A3 p ∧ Mod (fun k => k = r) w w' := by
 have lt_hr := hr.lt
 have hR_l := hR.len
 have HM : Mod (fun k => k = r) w w := Mod.refl _ w
 refine ret_of Try.func119 rfl rfl ?_
 refine wp_seq ?_
 refine c_region (L := [0]) (by kernel_rfl) ?_
 refine st_pure (l := [0]) (rest := []) (L := [(2, .slice none 0 0)]) rfl (by kernel_rfl) ?_
 refine st_end ?_
 refine then_n ?_
 refine wp_seq ?_
 refine c_region (L := [0, 1, 2]) (by kernel_rfl) ?_
 refine st_pure (l := [0]) (rest := [1, 2]) (L := [(5, .pointer (some ⟨r, 0, none⟩))]) rfl (by kernel_rfl) ?_
 refine st_fn (d := 6) (f := 166) (xs := #[.pointer (some ⟨r, 0, none⟩)]) (R := _) (by kernel_rfl) (ref_RNumber (w := w) (r := r) (A := A) (cA := cA) (l := l) (e := e) (lo := lo) (hi := hi) (hr := hr) (hR := hR) (A_n := A_n) (A_c := by first | exact A_c | omega) (e_r := by omega) (hR_hi := by omega) (hsep := by first | omega | (simp only [List.length_cons, List.length_nil, List.length_append, List.length_take, List.length_drop] at *; omega))) ?_
 rintro vw6 w6 ⟨x1, A2, c3, l4, e5, hsp7, rfl, x1_r, A2_n, A2_c, e5_r, hr_9, hR_10, m11⟩
 clear hr
 clear hR
 replace HM := HM.trans m11 (by intro k h1 h3; (try simp only [Iv] at h3 ⊢); omega)
 have hszw6 := m11.size
 have lt_hr_9 := hr_9.lt
 have hR_10_l := hR_10.len
 refine st_pure (l := [2]) (rest := []) (L := [(3, .int .u64 x1)]) rfl (by kernel_rfl) ?_
 refine st_end ?_
 refine then_n ?_
 refine wp_seq ?_
 refine wp_seq ?_
 refine c_region (L := [0, 1, 2, 3, 4]) (by kernel_rfl) ?_
 refine st_pure (l := [0, 1, 2]) (rest := [3, 4]) (L := [(7, .pointer (some ⟨r, 0, none⟩)), (8, .pointer (some ⟨r, 0, none⟩)), (9, .pointer (some ⟨r, 1, none⟩))]) rfl (by kernel_rfl) ?_
 refine st_load (d := 10) (t := 26) (cs := _) (v := .int .i64 e5) (by kernel_rfl) (hr_9.sub 1) (by kernel_rfl) ?_
 by_cases h12 : e5 ≠ 0
 ·skip
  have hb13 : (e5 != 0) = true := by first | (rw [bne_iff_ne]; exact h12) | (rw [bne_eq_false_iff_eq]; omega)
  refine st_pure (l := [4]) (rest := []) (L := [(11, .bool true)]) rfl (Eq.trans (b := some [(11, .bool (e5 != 0))]) (by kernel_rfl) (by simp only [hb13])) ?_
  refine st_end ?_
  refine then_n ?_
  refine c_true (by kernel_rfl) ?_
  refine wp_seq ?_
  refine c_region (L := [0]) (by kernel_rfl) ?_
  refine st_pure (l := [0]) (rest := []) (L := [(2, .slice none 0 0)]) rfl (by kernel_rfl) ?_
  refine st_end ?_
  refine then_n ?_
  refine wp_ret ?_
  refine then_r ?_
  refine post_ret (v := .slice none 0 0) (by kernel_rfl) ?_
  refine ⟨[], none, 0, A2, c3, l4, e5, ?_, rfl, ?_, ?_, ?_, ?_, ?_, hr_9, hR_10, RdA.nil, HM⟩
  ·rw [rblk]
   try simp only [hsp7]
   rw [if_pos h12]
   all_goals (try rfl)
  ·exact fun _ => rfl
  ·simp
  ·exact A2_n
  ·first | exact A2_c | omega
  ·omega
 ·skip
  have hb14 : (e5 != 0) = false := by rw [bne_eq_false_iff_eq]; exact Decidable.not_not.1 h12
  refine st_pure (l := [4]) (rest := []) (L := [(11, .bool false)]) rfl (Eq.trans (b := some [(11, .bool (e5 != 0))]) (by kernel_rfl) (by simp only [hb14])) ?_
  refine st_end ?_
  refine then_n ?_
  refine c_false (by kernel_rfl) ?_
  refine wp_skip ?_
  refine then_n ?_
  refine wp_seq ?_
  refine wp_seq ?_
  refine c_region (L := [0, 1]) (by kernel_rfl) ?_
  by_cases h15 : x1 > 1048576
  ·skip
   have hb16 : (decide (x1 > 1048576)) = true := decide_eq_true h15
   refine st_pure (l := [0, 1]) (rest := []) (L := [(12, .int .u64 x1), (13, .bool true)]) rfl (Eq.trans (b := some [(12, .int .u64 x1), (13, .bool (decide (x1 > 1048576)))]) (by kernel_rfl) (by simp only [hb16])) ?_
   refine st_end ?_
   refine then_n ?_
   refine c_true (by kernel_rfl) ?_
   refine wp_seq ?_
   refine c_region (L := [0, 1, 2, 3]) (by kernel_rfl) ?_
   refine st_pure (l := [0, 1, 2]) (rest := [3]) (L := [(14, .pointer (some ⟨r, 0, none⟩)), (15, .pointer (some ⟨r, 0, none⟩)), (16, .pointer (some ⟨r, 1, none⟩))]) rfl (by kernel_rfl) ?_
   refine st_store (t := 26) (v := .int .i64 3) (o := 1) (C' := [.slice A2 l4.length c3, .int .i64 3]) (by kernel_rfl) hr_9 (by kernel_rfl) ?_
   intro w17 m18 zm18 Nhr_9
   clear hr_9; have hr_9 := Nhr_9; clear Nhr_9
   replace hR_10 := hR_10.mod m18 (by intro k h1 h2 h3; (try simp only [Iv] at h3); omega)
   replace HM := HM.trans m18 (by intro k h1 h3; (try simp only [Iv] at h3 ⊢); omega)
   have hszw17 := m18.size
   refine st_end ?_
   refine then_n ?_
   refine wp_seq ?_
   refine c_region (L := [0]) (by kernel_rfl) ?_
   refine st_pure (l := [0]) (rest := []) (L := [(2, .slice none 0 0)]) rfl (by kernel_rfl) ?_
   refine st_end ?_
   refine then_n ?_
   refine wp_ret ?_
   refine then_r ?_
   refine post_ret (v := .slice none 0 0) (by kernel_rfl) ?_
   refine ⟨[], none, 0, A2, c3, l4, 3, ?_, rfl, ?_, ?_, ?_, ?_, ?_, hr_9, hR_10, RdA.nil, HM⟩
   ·rw [rblk]
    try simp only [hsp7]
    rw [if_neg h12, if_pos h15]
    all_goals (try rfl)
   ·exact fun _ => rfl
   ·simp
   ·exact A2_n
   ·first | exact A2_c | omega
   ·omega
  ·skip
   have hb19 : (decide (x1 > 1048576)) = false := decide_eq_false h15
   refine st_pure (l := [0, 1]) (rest := []) (L := [(12, .int .u64 x1), (13, .bool false)]) rfl (Eq.trans (b := some [(12, .int .u64 x1), (13, .bool (decide (x1 > 1048576)))]) (by kernel_rfl) (by simp only [hb19])) ?_
   refine st_end ?_
   refine then_n ?_
   refine c_false (by kernel_rfl) ?_
   refine wp_skip ?_
   refine then_n ?_
   refine wp_seq ?_
   refine wp_seq ?_
   refine c_region (L := [0, 1, 2, 3, 4, 5, 6, 7]) (by kernel_rfl) ?_
   refine st_pure (l := [0, 1, 2, 3]) (rest := [4, 5, 6, 7]) (L := [(17, .int .u64 x1), (18, .pointer (some ⟨r, 0, none⟩)), (19, .pointer (some ⟨r, 0, none⟩)), (20, .pointer (some ⟨r, 0, none⟩))]) rfl (by kernel_rfl) ?_
   refine st_load (d := 21) (t := 23) (cs := _) (v := .slice A2 l4.length c3) (by kernel_rfl) (hr_9.sub 0) (by kernel_rfl) ?_
   have hw20 : IntKind.wrap .u64 ((l4.length : Int)) = (l4.length : Int) := wu64 (by omega) (by omega)
   refine st_pure (l := [5, 6]) (rest := [7]) (L := [(22, .int .i64 (l4.length : Int)), (23, .int .u64 (l4.length : Int))]) rfl (Eq.trans (b := some [(22, .int .i64 (l4.length : Int)), (23, .int .u64 (IntKind.wrap .u64 ((l4.length : Int))))]) (by kernel_rfl) (by simp only [hw20])) ?_
   by_cases h21 : x1 > (l4.length : Int)
   ·skip
    have hb22 : (decide (x1 > (l4.length : Int))) = true := decide_eq_true h21
    refine st_pure (l := [7]) (rest := []) (L := [(24, .bool true)]) rfl (Eq.trans (b := some [(24, .bool (decide (x1 > (l4.length : Int))))]) (by kernel_rfl) (by simp only [hb22])) ?_
    refine st_end ?_
    refine then_n ?_
    refine c_true (by kernel_rfl) ?_
    refine wp_seq ?_
    refine c_region (L := [0, 1, 2, 3]) (by kernel_rfl) ?_
    refine st_pure (l := [0, 1, 2]) (rest := [3]) (L := [(25, .pointer (some ⟨r, 0, none⟩)), (26, .pointer (some ⟨r, 0, none⟩)), (27, .pointer (some ⟨r, 1, none⟩))]) rfl (by kernel_rfl) ?_
    refine st_store (t := 26) (v := .int .i64 5) (o := 1) (C' := [.slice A2 l4.length c3, .int .i64 5]) (by kernel_rfl) hr_9 (by kernel_rfl) ?_
    intro w23 m24 zm24 Nhr_9
    clear hr_9; have hr_9 := Nhr_9; clear Nhr_9
    replace hR_10 := hR_10.mod m24 (by intro k h1 h2 h3; (try simp only [Iv] at h3); omega)
    replace HM := HM.trans m24 (by intro k h1 h3; (try simp only [Iv] at h3 ⊢); omega)
    have hszw23 := m24.size
    refine st_end ?_
    refine then_n ?_
    refine wp_seq ?_
    refine c_region (L := [0]) (by kernel_rfl) ?_
    refine st_pure (l := [0]) (rest := []) (L := [(2, .slice none 0 0)]) rfl (by kernel_rfl) ?_
    refine st_end ?_
    refine then_n ?_
    refine wp_ret ?_
    refine then_r ?_
    refine post_ret (v := .slice none 0 0) (by kernel_rfl) ?_
    refine ⟨[], none, 0, A2, c3, l4, 5, ?_, rfl, ?_, ?_, ?_, ?_, ?_, hr_9, hR_10, RdA.nil, HM⟩
    ·rw [rblk]
     try simp only [hsp7]
     rw [if_neg h12, if_neg h15, if_pos h21]
     all_goals (try rfl)
    ·exact fun _ => rfl
    ·simp
    ·exact A2_n
    ·first | exact A2_c | omega
    ·omega
   ·skip
    have hb25 : (decide (x1 > (l4.length : Int))) = false := decide_eq_false h21
    refine st_pure (l := [7]) (rest := []) (L := [(24, .bool false)]) rfl (Eq.trans (b := some [(24, .bool (decide (x1 > (l4.length : Int))))]) (by kernel_rfl) (by simp only [hb25])) ?_
    refine st_end ?_
    refine then_n ?_
    refine c_false (by kernel_rfl) ?_
    refine wp_skip ?_
    refine then_n ?_
    refine wp_seq ?_
    refine c_region (L := [0, 1, 2, 3, 4, 5, 6, 7, 8]) (by kernel_rfl) ?_
    refine st_new (d := 28) (e := 5) (C := []) (V := fun r => .slice (some ⟨r, 0, none⟩) 0 0) (by kernel_rfl) ?_
    intro b26 w27 m28 lb26 ub26 hB29
    replace hr_9 := hr_9.mod m28 (fun q => q)
    replace hR_10 := hR_10.mod0 m28
    replace HM := HM.tr0 m28
    have hszw27 := m28.size
    refine st_pure (l := [1, 2, 3]) (rest := [4, 5, 6, 7, 8]) (L := [(29, .pointer (some ⟨r, 0, none⟩)), (30, .pointer (some ⟨r, 0, none⟩)), (31, .pointer (some ⟨r, 0, none⟩))]) rfl (by kernel_rfl) ?_
    refine st_load (d := 32) (t := 23) (cs := _) (v := .slice A2 l4.length c3) (by kernel_rfl) (hr_9.sub 0) (by kernel_rfl) ?_
    refine st_pure (l := [5]) (rest := [6, 7, 8]) (L := [(33, .int .u64 x1)]) rfl (by kernel_rfl) ?_
    refine st_upto (d := 34) (tn := 23) (e := 5) (t := tyU8) (A := A2) (n := l4.length) (c := c3) (hi := (.int .u64 x1)) (j := x1) (l := l4) (k := x1.toNat) (by kernel_rfl) Try.underlying23 (by kernel_rfl) rfl (by omega) (by omega) (by first | rfl | simp) (by first | exact A2_c | omega) (A2_n) hR_10 rfl ?_
    intro A30 c31 hR32 A30_c A30_n
    have hR32_l := hR32.len; simp only [List.length_drop, List.length_take] at hR32_l
    refine st_append (d := 35) (tn := 23) (e := 5) (ty := 23) (t := tyU8) (v := .slice (some ⟨b26, 0, none⟩) 0 0) (A := A30) (n := (l4.take x1.toNat).length) (c := c31) (l := []) (m := l4.take x1.toNat) (z := .int .u8 0) (bytes := 1) (by kernel_rfl) Try.underlying23 (by kernel_rfl) rfl (by decide) (Blk.own (t := tyU8) (l := []) hB29 rfl (by simp) b26 (b26 + 1) (Nat.le_refl _) (by omega)) hR32 (by simp) (by simp only [List.length_append, List.length_cons, List.length_nil, List.length_take, List.length_drop] at *; omega) (by omega) A30_n ?_
    intro v33 w34 m35 hO36
    clear hB29
    replace hr_9 := hr_9.mod m35 (by intro h3; (try simp only [Iv] at h3); omega)
    replace hR_10 := hR_10.mod m35 (by intro k h1 h2 h3; (try simp only [Iv] at h3); omega)
    replace hR32 := hR32.mod m35 (by intro k h1 h2 h3; (try simp only [Iv] at h3); omega)
    replace HM := HM.trans m35 (by intro k h1 h3; (try simp only [Iv] at h3 ⊢); omega)
    have hszw34 := m35.size
    obtain ⟨A37, c38, rfl, A37_c, A37_n, hR40⟩ := hO36.rd
    have hR40_l := hR40.len
    refine st_pure (l := [8]) (rest := []) (L := [(4, .slice A37 (([] ++ l4.take x1.toNat).length) c38)]) rfl (by kernel_rfl) ?_
    refine st_end ?_
    refine then_n ?_
    refine wp_seq ?_
    refine c_region (L := [0, 1, 2, 3, 4, 5, 6, 7, 8, 9]) (by kernel_rfl) ?_
    refine st_pure (l := [0, 1, 2, 3]) (rest := [4, 5, 6, 7, 8, 9]) (L := [(36, .pointer (some ⟨r, 0, none⟩)), (37, .pointer (some ⟨r, 0, none⟩)), (38, .pointer (some ⟨r, 0, none⟩)), (39, .pointer (some ⟨r, 0, none⟩))]) rfl (by kernel_rfl) ?_
    refine st_load (d := 40) (t := 23) (cs := _) (v := .slice A2 l4.length c3) (by kernel_rfl) (hr_9.sub 0) (by kernel_rfl) ?_
    refine st_pure (l := [5]) (rest := [6, 7, 8, 9]) (L := [(41, .int .u64 x1)]) rfl (by kernel_rfl) ?_
    refine st_from (d := 42) (tn := 23) (e := 5) (t := tyU8) (A := A2) (n := l4.length) (c := c3) (lo := (.int .u64 x1)) (i' := x1) (l := l4) (k := x1.toNat) (by kernel_rfl) Try.underlying23 (by kernel_rfl) rfl (by omega) (by omega) (by first | rfl | simp) (by first | exact A2_c | omega) (A2_n) hR_10 rfl ?_
    intro A41 c42 hR43 A41_c A41_n
    have hR43_l := hR43.len; simp only [List.length_drop, List.length_take] at hR43_l
    refine st_pure (l := [7, 8]) (rest := [9]) (L := [(43, .pointer (some ⟨r, 0, none⟩)), (44, .pointer (some ⟨r, 0, none⟩))]) rfl (by kernel_rfl) ?_
    refine st_store (t := 23) (v := .slice A41 ((l4.drop x1.toNat).length) c42) (o := 0) (C' := [.slice A41 ((l4.drop x1.toNat).length) c42, .int .i64 e5]) (by kernel_rfl) hr_9 (by kernel_rfl) ?_
    intro w44 m45 zm45 Nhr_9
    clear hr_9; have hr_9 := Nhr_9; clear Nhr_9
    replace hR_10 := hR_10.mod m45 (by intro k h1 h2 h3; (try simp only [Iv] at h3); omega)
    replace hR32 := hR32.mod m45 (by intro k h1 h2 h3; (try simp only [Iv] at h3); omega)
    replace hO36 := hO36.mod m45 (by intro k h1 h2 h3; (try simp only [Iv] at h3); omega)
    replace hR40 := hR40.mod m45 (by intro k h1 h2 h3; (try simp only [Iv] at h3); omega)
    replace hR43 := hR43.mod m45 (by intro k h1 h2 h3; (try simp only [Iv] at h3); omega)
    replace HM := HM.trans m45 (by intro k h1 h3; (try simp only [Iv] at h3 ⊢); omega)
    have hszw44 := m45.size
    refine st_end ?_
    refine then_n ?_
    refine wp_seq ?_
    refine c_region (L := [0, 1]) (by kernel_rfl) ?_
    refine st_pure (l := [0, 1]) (rest := []) (L := [(45, .slice A37 (([] ++ l4.take x1.toNat).length) c38), (2, .slice A37 (([] ++ l4.take x1.toNat).length) c38)]) rfl (by kernel_rfl) ?_
    refine st_end ?_
    refine then_n ?_
    refine wp_ret ?_
    refine post_ret (v := .slice A37 (([] ++ l4.take x1.toNat).length) c38) (by kernel_rfl) ?_
    refine ⟨[] ++ l4.take x1.toNat, A37, c38, A41, c42, l4.drop x1.toNat, e5, ?_, rfl, ?_, ?_, ?_, ?_, ?_, hr_9, hR43, (hR40.wide (by omega) (by omega)), HM⟩
    ·rw [rblk]
     try simp only [hsp7]
     rw [if_neg h12, if_neg h15, if_neg h21]
     all_goals (try rfl)
    ·exact A37_n
    ·first | exact A37_c | omega
    ·exact A41_n
    ·first | exact A41_c | omega
    ·omega

def rrend (l : List UInt8) (e : Int) : Int :=
 if e = 0 then
  if (l.length : Int) > 0 then
   4
  else
   e
 else
  e

theorem ref_REnd {w : World} {r : Nat} {A : Option Addr} {cA : Nat} {l : List UInt8} {e : Int} (hr : Blk w r 165 [.slice A l.length cA, .int .i64 e]) (A_n : A = none → cA = 0) (A_c : l.length ≤ cA) (e_r : -9223372036854775808 ≤ e ∧ e ≤ 9223372036854775807) :
  Ret Try.prog 120 #[.pointer (some ⟨r, 0, none⟩)] w fun v w' => ∃ e2 : Int, rrend l e = e2 ∧ v = .int .i64 e2 ∧ (-9223372036854775808 ≤ e2 ∧ e2 ≤ 9223372036854775807) ∧ Blk w' r 165 [.slice A l.length cA, .int .i64 e2] ∧ Mod (fun k => k = r) w w' := by
 have lt_hr := hr.lt
 have HM : Mod (fun k => k = r) w w := Mod.refl _ w
 refine ret_of Try.func120 rfl rfl ?_
 refine wp_seq ?_
 refine c_region (L := [0]) (by kernel_rfl) ?_
 refine st_pure (l := [0]) (rest := []) (L := [(2, .int .i64 0)]) rfl (by kernel_rfl) ?_
 refine st_end ?_
 refine then_n ?_
 refine wp_seq ?_
 refine wp_seq ?_
 refine c_region (L := [0, 1, 2, 3, 4, 5, 6, 7, 8, 9, 10, 11, 12]) (by kernel_rfl) ?_
 refine st_pure (l := [0, 1, 2]) (rest := [3, 4, 5, 6, 7, 8, 9, 10, 11, 12]) (L := [(3, .pointer (some ⟨r, 0, none⟩)), (4, .pointer (some ⟨r, 0, none⟩)), (5, .pointer (some ⟨r, 1, none⟩))]) rfl (by kernel_rfl) ?_
 refine st_load (d := 6) (t := 26) (cs := _) (v := .int .i64 e) (by kernel_rfl) (hr.sub 1) (by kernel_rfl) ?_
 by_cases h1 : e = 0
 ·skip
  have hb2 : (e == 0) = true := beq_iff_eq.2 h1
  refine st_pure (l := [4, 5]) (rest := [6, 7, 8, 9, 10, 11, 12]) (L := [(7, .bool (e == 0)), (8, .bool true)]) rfl (Eq.trans (b := some [(7, .bool (e == 0)), (8, .bool (e == 0))]) (by kernel_rfl) (by simp only [hb2])) ?_
  refine st_pure (l := [6, 7, 8]) (rest := [9, 10, 11, 12]) (L := [(9, .pointer (some ⟨r, 0, none⟩)), (10, .pointer (some ⟨r, 0, none⟩)), (11, .pointer (some ⟨r, 0, none⟩))]) rfl (by kernel_rfl) ?_
  refine st_load (d := 12) (t := 23) (cs := _) (v := .slice A l.length cA) (by kernel_rfl) (hr.sub 0) (by kernel_rfl) ?_
  by_cases h3 : (l.length : Int) > 0
  ·skip
   have hb4 : (decide ((l.length : Int) > 0)) = true := decide_eq_true h3
   refine st_pure (l := [10, 11, 12]) (rest := []) (L := [(13, .int .i64 (l.length : Int)), (14, .bool (decide ((l.length : Int) > 0))), (15, .bool true)]) rfl (Eq.trans (b := some [(13, .int .i64 (l.length : Int)), (14, .bool (decide ((l.length : Int) > 0))), (15, .bool (decide ((l.length : Int) > 0)))]) (by kernel_rfl) (by simp only [hb4])) ?_
   refine st_end ?_
   refine then_n ?_
   refine c_true (by kernel_rfl) ?_
   refine c_region (L := [0, 1, 2, 3]) (by kernel_rfl) ?_
   refine st_pure (l := [0, 1, 2]) (rest := [3]) (L := [(16, .pointer (some ⟨r, 0, none⟩)), (17, .pointer (some ⟨r, 0, none⟩)), (18, .pointer (some ⟨r, 1, none⟩))]) rfl (by kernel_rfl) ?_
   refine st_store (t := 26) (v := .int .i64 4) (o := 1) (C' := [.slice A l.length cA, .int .i64 4]) (by kernel_rfl) hr (by kernel_rfl) ?_
   intro w5 m6 zm6 Nhr
   clear hr; have hr := Nhr; clear Nhr
   replace HM := HM.trans m6 (by intro k h1 h3; (try simp only [Iv] at h3 ⊢); omega)
   have hszw5 := m6.size
   refine st_end ?_
   refine then_n ?_
   refine wp_seq ?_
   refine c_region (L := [0, 1, 2, 3, 4]) (by kernel_rfl) ?_
   refine st_pure (l := [0, 1, 2]) (rest := [3, 4]) (L := [(19, .pointer (some ⟨r, 0, none⟩)), (20, .pointer (some ⟨r, 0, none⟩)), (21, .pointer (some ⟨r, 1, none⟩))]) rfl (by kernel_rfl) ?_
   refine st_load (d := 22) (t := 26) (cs := _) (v := .int .i64 4) (by kernel_rfl) (hr.sub 1) (by kernel_rfl) ?_
   refine st_pure (l := [4]) (rest := []) (L := [(2, .int .i64 4)]) rfl (by kernel_rfl) ?_
   refine st_end ?_
   refine then_n ?_
   refine wp_ret ?_
   refine post_ret (v := .int .i64 4) (by kernel_rfl) ?_
   refine ⟨4, ?_, rfl, ?_, hr, HM⟩
   ·rw [rrend, if_pos h1, if_pos h3]
    all_goals (try rfl)
   ·omega
  ·skip
   have hb7 : (decide ((l.length : Int) > 0)) = false := decide_eq_false h3
   refine st_pure (l := [10, 11, 12]) (rest := []) (L := [(13, .int .i64 (l.length : Int)), (14, .bool (decide ((l.length : Int) > 0))), (15, .bool false)]) rfl (Eq.trans (b := some [(13, .int .i64 (l.length : Int)), (14, .bool (decide ((l.length : Int) > 0))), (15, .bool (decide ((l.length : Int) > 0)))]) (by kernel_rfl) (by simp only [hb7])) ?_
   refine st_end ?_
   refine then_n ?_
   refine c_false (by kernel_rfl) ?_
   refine wp_skip ?_
   refine then_n ?_
   refine wp_seq ?_
   refine c_region (L := [0, 1, 2, 3, 4]) (by kernel_rfl) ?_
   refine st_pure (l := [0, 1, 2]) (rest := [3, 4]) (L := [(19, .pointer (some ⟨r, 0, none⟩)), (20, .pointer (some ⟨r, 0, none⟩)), (21, .pointer (some ⟨r, 1, none⟩))]) rfl (by kernel_rfl) ?_
   refine st_load (d := 22) (t := 26) (cs := _) (v := .int .i64 e) (by kernel_rfl) (hr.sub 1) (by kernel_rfl) ?_
   refine st_pure (l := [4]) (rest := []) (L := [(2, .int .i64 e)]) rfl (by kernel_rfl) ?_
   refine st_end ?_
   refine then_n ?_
   refine wp_ret ?_
   refine post_ret (v := .int .i64 e) (by kernel_rfl) ?_
   refine ⟨e, ?_, rfl, ?_, hr, HM⟩
   ·rw [rrend, if_pos h1, if_neg h3]
    all_goals (try rfl)
   ·omega
 ·skip
  have hb8 : (e == 0) = false := beq_eq_false_iff_ne.2 h1
  refine st_pure (l := [4, 5]) (rest := [6, 7, 8, 9, 10, 11, 12]) (L := [(7, .bool (e == 0)), (8, .bool false)]) rfl (Eq.trans (b := some [(7, .bool (e == 0)), (8, .bool (e == 0))]) (by kernel_rfl) (by simp only [hb8])) ?_
  refine st_pure (l := [6, 7, 8, 9, 10, 11, 12]) (rest := []) (L := [(9, undef), (10, undef), (11, undef), (12, undef), (13, undef), (14, undef), (15, .bool false)]) rfl (by kernel_rfl) ?_
  refine st_end ?_
  refine then_n ?_
  refine c_false (by kernel_rfl) ?_
  refine wp_skip ?_
  refine then_n ?_
  refine wp_seq ?_
  refine c_region (L := [0, 1, 2, 3, 4]) (by kernel_rfl) ?_
  refine st_pure (l := [0, 1, 2]) (rest := [3, 4]) (L := [(19, .pointer (some ⟨r, 0, none⟩)), (20, .pointer (some ⟨r, 0, none⟩)), (21, .pointer (some ⟨r, 1, none⟩))]) rfl (by kernel_rfl) ?_
  refine st_load (d := 22) (t := 26) (cs := _) (v := .int .i64 e) (by kernel_rfl) (hr.sub 1) (by kernel_rfl) ?_
  refine st_pure (l := [4]) (rest := []) (L := [(2, .int .i64 e)]) rfl (by kernel_rfl) ?_
  refine st_end ?_
  refine then_n ?_
  refine wp_ret ?_
  refine post_ret (v := .int .i64 e) (by kernel_rfl) ?_
  refine ⟨e, ?_, rfl, ?_, hr, HM⟩
  ·rw [rrend, if_neg h1]
   all_goals (try rfl)
  ·omega

end Go.Proofs.Ytjkapifbinmjhaa
