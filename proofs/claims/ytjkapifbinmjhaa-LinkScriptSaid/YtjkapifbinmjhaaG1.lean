import Derived.Test.YtjkapifbinmjhaaVxF
import Derived.Test.YtjkapifbinmjhaaProg
namespace Go.Proofs.Ytjkapifbinmjhaa
open Go.Vx Go.RowKit
set_option linter.unusedVariables false
set_option linter.unusedSimpArgs false
set_option maxRecDepth 100000
theorem Clone_u8_some {w : World} {a : Addr} {c : Nat} {l : List UInt8} {lo hi : Nat} (hl : RdA tyU8 w lo hi (some a) l) :
  Ret Try.prog 163 #[.slice (some a) l.length c] w fun v w' => ∃ A' c', v = .slice A' l.length c' ∧ (A' = none → c' = 0) ∧ l.length ≤ c' ∧ Own tyU8 5 w' w.heap.size w'.heap.size v l ∧ RdA tyU8 w' w.heap.size w'.heap.size A' l ∧ Mod Nil w w' := by
 replace hl := hl.bound
 have hll := hl.len
 have HM : Mod (Nil) w w := Mod.refl _ w
 refine ret_of Try.func163 rfl rfl ?_
 refine wp_seq ?_
 refine c_region (L := [0]) (by kernel_rfl) ?_
 refine st_pure (l := [0]) (rest := []) (L := [(2, .slice none 0 0)]) rfl (by kernel_rfl) ?_
 refine st_end ?_
 refine then_n ?_
 refine wp_seq ?_
 refine wp_seq ?_
 refine c_region (L := [0, 1]) (by kernel_rfl) ?_
 refine st_pure (l := [0, 1]) (rest := []) (L := [(3, .slice (some a) l.length c), (4, .bool false)]) rfl (by kernel_rfl) ?_
 refine st_end ?_
 refine then_n ?_
 refine c_false (by kernel_rfl) ?_
 refine wp_skip ?_
 refine then_n ?_
 refine wp_seq ?_
 refine c_region (L := [0, 1, 2, 3]) (by kernel_rfl) ?_
 refine st_new (d := 5) (e := 5) (C := []) (V := fun r => .slice (some ⟨r, 0, none⟩) 0 0) (by kernel_rfl) ?_
 intro b1 w2 m3 lb1 ub1 hB4
 replace hl := hl.mod0 m3
 replace HM := HM.tr0 m3
 have hszw2 := m3.size
 refine st_pure (l := [1]) (rest := [2, 3]) (L := [(6, .slice (some a) l.length c)]) rfl (by kernel_rfl) ?_
 refine st_append (d := 7) (tn := 23) (e := 5) (ty := 23) (t := tyU8) (v := .slice (some ⟨b1, 0, none⟩) 0 0) (A := some a) (n := l.length) (c := c) (l := []) (m := l) (z := .int .u8 0) (bytes := 1) (by kernel_rfl) Try.underlying23 (by kernel_rfl) rfl (by decide) (Blk.own (t := tyU8) (l := []) hB4 rfl (by simp) b1 (b1 + 1) (Nat.le_refl _) (by omega)) hl (by simp) (by simp only [List.length_append, List.length_cons, List.length_nil, List.length_take, List.length_drop] at *; omega) (by omega) (by intro h; cases h) ?_
 intro v5 w6 m7 hO8
 clear hB4
 replace hl := hl.mod m7 (by intro k h1 h2 h3; (try simp only [Iv] at h3); omega)
 replace HM := HM.trans m7 (by intro k h1 h3; (try simp only [Iv] at h3 ⊢); omega)
 have hszw6 := m7.size
 obtain ⟨A9, c10, rfl, A9_c, A9_n, hR12⟩ := hO8.rd
 have hR12_l := hR12.len
 refine st_pure (l := [3]) (rest := []) (L := [(2, .slice A9 (([] ++ l).length) c10)]) rfl (by kernel_rfl) ?_
 refine st_end ?_
 refine then_n ?_
 refine wp_ret ?_
 refine post_ret (v := .slice A9 (([] ++ l).length) c10) (by kernel_rfl) ?_
 rw [List.nil_append] at *
 refine ⟨_, _, rfl, A9_n, A9_c, hO8.wide (by omega) (Nat.le_refl _), hR12.wide (by omega) (Nat.le_refl _), HM.weaken (by intro k h1 h2; exact h2.elim)⟩

theorem Clone_u8_none {w : World}  :
  Ret Try.prog 163 #[.slice none 0 0] w fun v w' => ∃ A' c', v = .slice A' 0 c' ∧ (A' = none → c' = 0) ∧ 0 ≤ c' ∧ Own tyU8 5 w' w.heap.size w'.heap.size v ([] : List UInt8) ∧ RdA tyU8 w' w.heap.size w'.heap.size A' ([] : List UInt8) ∧ Mod Nil w w' := by
 have HM : Mod (Nil) w w := Mod.refl _ w
 refine ret_of Try.func163 rfl rfl ?_
 refine wp_seq ?_
 refine c_region (L := [0]) (by kernel_rfl) ?_
 refine st_pure (l := [0]) (rest := []) (L := [(2, .slice none 0 0)]) rfl (by kernel_rfl) ?_
 refine st_end ?_
 refine then_n ?_
 refine wp_seq ?_
 refine wp_seq ?_
 refine c_region (L := [0, 1]) (by kernel_rfl) ?_
 refine st_pure (l := [0, 1]) (rest := []) (L := [(3, .slice none 0 0), (4, .bool true)]) rfl (by kernel_rfl) ?_
 refine st_end ?_
 refine then_n ?_
 refine c_true (by kernel_rfl) ?_
 refine wp_seq ?_
 refine c_region (L := [0]) (by kernel_rfl) ?_
 refine st_pure (l := [0]) (rest := []) (L := [(2, .slice none 0 0)]) rfl (by kernel_rfl) ?_
 refine st_end ?_
 refine then_n ?_
 refine wp_ret ?_
 refine then_r ?_
 refine post_ret (v := .slice none 0 0) (by kernel_rfl) ?_
 exact ⟨none, 0, rfl, fun _ => rfl, Nat.le_refl _, Own.nil, RdA.nil, HM⟩

theorem Clone_u8 {w : World} {A : Option Addr} {c : Nat} {l : List UInt8} {lo hi : Nat} (hl : RdA tyU8 w lo hi A l) (hc : A = none → c = 0) :
  Ret Try.prog 163 #[.slice A l.length c] w fun v w' => ∃ A' c', v = .slice A' l.length c' ∧ (A' = none → c' = 0) ∧ l.length ≤ c' ∧ Own tyU8 5 w' w.heap.size w'.heap.size v l ∧ RdA tyU8 w' w.heap.size w'.heap.size A' l ∧ Mod Nil w w' := by
 cases A with
 | some a => exact Clone_u8_some hl
 | none =>
  have : l = [] := by
   cases l with
   | nil => rfl
   | cons x l => obtain ⟨b, o, e, _⟩ := hl.2 (by simp); cases e
  subst this
  rw [hc rfl]
  exact Clone_u8_none

theorem Number {w : World} {x : Int} {A : Option Addr} {cA : Nat} {l : List UInt8} {lo : Nat} {hi : Nat} (hl : RdA tyU8 w lo hi A l) (A_n : A = none → cA = 0) (A_c : l.length ≤ cA) (x_r : 0 ≤ x ∧ x ≤ 18446744073709551615) (hl_hi : hi ≤ w.heap.size) (hll : l.length ≤ 140737488350000) :
  Ret Try.prog 124 #[.slice A l.length cA, .int .u64 x] w fun v w' => ∃ l2 : List UInt8, ∃ A2 : Option Addr, ∃ c2 : Nat, v = .slice A2 l2.length c2 ∧ (A2 = none → c2 = 0) ∧ (l2.length ≤ c2) ∧ (l2 = l ++ num x.toNat) ∧ Own tyU8 5 w' (w.heap.size) (w'.heap.size) (.slice A2 l2.length c2) l2 ∧ RdA tyU8 w' (w.heap.size) (w'.heap.size) A2 l2 ∧ Mod (Nil) w w' := by
 have hl_l := hl.len
 have h8 := le_len8 (x := x.toNat) (by omega)
 have HM : Mod (Nil) w w := Mod.refl _ w
 refine ret_of Try.func124 rfl rfl ?_
 refine wp_seq ?_
 refine c_region (L := [0]) (by kernel_rfl) ?_
 refine st_pure (l := [0]) (rest := []) (L := [(4, .slice none 0 0)]) rfl (by kernel_rfl) ?_
 refine st_end ?_
 refine then_n ?_
 refine wp_seq ?_
 refine c_region (L := [0, 1, 2]) (by kernel_rfl) ?_
 refine st_pure (l := [0]) (rest := [1, 2]) (L := [(7, .slice A l.length cA)]) rfl (by kernel_rfl) ?_
 refine st_fn (d := 8) (f := 163) (xs := #[.slice A l.length cA]) (R := _) (by kernel_rfl) (Clone_u8 hl A_n) ?_
 rintro _ w3 ⟨A1, c2, rfl, A1_n, hc7, hO5, hR6, m4⟩
 replace hl := hl.mod0 m4
 replace HM := HM.tr0 m4
 have hszw3 := m4.size
 have hR6_l := hR6.len
 refine st_pure (l := [2]) (rest := []) (L := [(0, .slice A1 ((l).length) c2)]) rfl (by kernel_rfl) ?_
 refine st_end ?_
 refine then_n ?_
 refine wp_seq ?_
 refine wp_seq ?_
 refine c_region (L := [0, 1]) (by kernel_rfl) ?_
 by_cases h8 : x ≤ 247
 ·skip
  have hb9 : (decide (x ≤ 247)) = true := decide_eq_true h8
  refine st_pure (l := [0, 1]) (rest := []) (L := [(9, .int .u64 x), (10, .bool true)]) rfl (Eq.trans (b := some [(9, .int .u64 x), (10, .bool (decide (x ≤ 247)))]) (by kernel_rfl) (by simp only [hb9])) ?_
  refine st_end ?_
  refine then_n ?_
  refine c_true (by kernel_rfl) ?_
  refine wp_seq ?_
  refine c_region (L := [0, 1, 2, 3, 4, 5]) (by kernel_rfl) ?_
  have hw10 : IntKind.wrap .u8 (x) = x := wu8 (by omega) (by omega)
  refine st_pure (l := [0, 1, 2]) (rest := [3, 4, 5]) (L := [(11, .slice A1 ((l).length) c2), (12, .int .u64 x), (13, .int .u8 x)]) rfl (Eq.trans (b := some [(11, .slice A1 ((l).length) c2), (12, .int .u64 x), (13, .int .u8 (IntKind.wrap .u8 (x)))]) (by kernel_rfl) (by simp only [hw10])) ?_
  refine st_new (d := 14) (e := 5) (C := [.int .u8 x]) (V := fun r => .slice (some ⟨r, 0, none⟩) 1 1) (by kernel_rfl) ?_
  intro b11 w12 m13 lb11 ub11 hB14
  replace hl := hl.mod0 m13
  replace hO5 := hO5.mod0 m13
  replace hR6 := hR6.mod0 m13
  replace HM := HM.tr0 m13
  have hszw12 := m13.size
  refine st_append (d := 15) (tn := 23) (e := 5) (ty := 23) (t := tyU8) (v := .slice A1 ((l).length) c2) (A := some ⟨b11, 0, none⟩) (n := 1) (c := 1) (l := l) (m := [u8 x]) (z := .int .u8 0) (bytes := 1) (by kernel_rfl) Try.underlying23 (by kernel_rfl) rfl (by decide) hO5 (Blk.rd (t := tyU8) (l := [u8 x]) hB14 (by simp only [Ty.cells, tyU8, List.flatMap_cons, List.flatMap_nil, List.append_nil, List.cons_append, List.nil_append, u8_val (e := x) (by omega) (by omega)]) (by simp) b11 (b11 + 1) (Nat.le_refl _) (by omega)) (by simp) (by simp only [List.length_append, List.length_cons, List.length_nil, List.length_take, List.length_drop] at *; omega) (by omega) (by intro h; cases h) ?_
  intro v15 w16 m17 hO18
  clear hO5
  clear hR6
  clear hB14
  replace hl := hl.mod m17 (by intro k h1 h2 h3; (try simp only [Iv] at h3); omega)
  replace HM := HM.trans m17 (by intro k h1 h3; (try simp only [Iv] at h3 ⊢); omega)
  have hszw16 := m17.size
  obtain ⟨A19, c20, rfl, A19_c, A19_n, hR22⟩ := hO18.rd
  have hR22_l := hR22.len
  refine st_pure (l := [5]) (rest := []) (L := [(4, .slice A19 ((l ++ [u8 x]).length) c20)]) rfl (by kernel_rfl) ?_
  refine st_end ?_
  refine then_n ?_
  refine wp_ret ?_
  refine then_r ?_
  refine post_ret (v := .slice A19 ((l ++ [u8 x]).length) c20) (by kernel_rfl) ?_
  refine ⟨l ++ [u8 x], A19, c20, rfl, ?_, ?_, ?_, hO18, hR22, HM⟩
  ·exact A19_n
  ·first | exact A19_c | omega
  ·unfold num
   first
   | (rw [if_pos (by omega), List.nil_append, u8_of (by omega)]; done)
   | (rw [if_neg (by omega), ← hs, show z.toNat = 0 by omega, le_zero, List.append_nil])
   | (rw [if_pos (by omega), u8_of (by omega)]; done)
 ·skip
  have hb23 : (decide (x ≤ 247)) = false := decide_eq_false h8
  refine st_pure (l := [0, 1]) (rest := []) (L := [(9, .int .u64 x), (10, .bool false)]) rfl (Eq.trans (b := some [(9, .int .u64 x), (10, .bool (decide (x ≤ 247)))]) (by kernel_rfl) (by simp only [hb23])) ?_
  refine st_end ?_
  refine then_n ?_
  refine c_false (by kernel_rfl) ?_
  refine wp_skip ?_
  refine then_n ?_
  refine wp_seq ?_
  refine c_region (L := [0]) (by kernel_rfl) ?_
  refine st_pure (l := [0]) (rest := []) (L := [(5, .int .i64 0)]) rfl (by kernel_rfl) ?_
  refine st_end ?_
  refine then_n ?_
  refine wp_seq ?_
  refine wp_seq ?_
  refine c_region (L := [0, 1]) (by kernel_rfl) ?_
  refine st_pure (l := [0, 1]) (rest := []) (L := [(16, .int .u64 x), (6, .int .u64 x)]) rfl (by kernel_rfl) ?_
  refine st_end ?_
  refine then_n ?_
  refine wp_block ?_
  refine c_loop (σ := Int × Int) (fun s a w' => match s with | ⟨y, n⟩ => Fr 39 [(0, .slice A1 ((l).length) c2), (1, .int .u64 x), (4, .slice none 0 0), (5, .int .i64 n), (6, .int .u64 y), (7, .slice A l.length cA), (8, .slice A1 ((l).length) c2), (9, .int .u64 x), (10, .bool false), (16, .int .u64 x)] a ∧ Mod (Nil) w w' ∧ w3.heap.size ≤ w'.heap.size ∧ RdA tyU8 w' lo hi A l ∧ Own tyU8 5 w' w.heap.size w3.heap.size (.slice A1 ((l).length) c2) l ∧ RdA tyU8 w' w.heap.size w3.heap.size A1 l ∧ (0 ≤ y ∧ y ≤ 18446744073709551615) ∧ (0 ≤ n ∧ n ≤ 8) ∧ (n + (le y.toNat).length = (le x.toNat).length) ∧ True) (fun s => match s with | ⟨y, n⟩ => y.toNat) (x, 0) ?_ ?_
  ·refine ⟨Fr.mk (by kernel_rfl) (by kernel_rfl), HM, Nat.le_refl _, hl, hO5, hR6, ?_, ?_, ?_, trivial⟩
   ·omega
   ·omega
   ·omega
  ·rintro ⟨y, n⟩ a w24 ⟨⟨Tf, rfl⟩, HM', hszw24, hl', hO5', hR6', hy, hn, hs, -⟩
   clear HM hl hO5 hR6
   have HM := HM'; clear HM'
   have hl := hl'; clear hl'
   have hO5 := hO5'; clear hO5'
   have hR6 := hR6'; clear hR6'
   have h8 := le_len8 (x := x.toNat) (by omega)
   refine wp_seq ?_
   refine wp_seq ?_
   refine c_region (L := [0, 1]) (by kernel_rfl) ?_
   by_cases h25 : y > 0
   ·skip
    have hb26 : (decide (y > 0)) = true := decide_eq_true h25
    refine st_pure (l := [0, 1]) (rest := []) (L := [(17, .int .u64 y), (18, .bool true)]) rfl (Eq.trans (b := some [(17, .int .u64 y), (18, .bool (decide (y > 0)))]) (by kernel_rfl) (by simp only [hb26])) ?_
    refine st_end ?_
    refine then_n ?_
    refine c_true (by kernel_rfl) ?_
    refine wp_skip ?_
    refine then_n ?_
    refine wp_seq ?_
    refine wp_block ?_
    refine c_region (L := [0, 1, 2]) (by kernel_rfl) ?_
    have hw27 : IntKind.wrap .i64 (n + 1) = n + 1 := wi64 (by omega) (by omega)
    refine st_pure (l := [0, 1]) (rest := [2]) (L := [(21, .int .i64 n), (22, .int .i64 (n + 1))]) rfl (Eq.trans (b := some [(21, .int .i64 n), (22, .int .i64 (IntKind.wrap .i64 (n + 1)))]) (by kernel_rfl) (by simp only [hw27])) ?_
    refine st_pure (l := [2]) (rest := []) (L := [(5, .int .i64 (n + 1))]) rfl (by kernel_rfl) ?_
    refine st_end ?_
    refine blk_n ?_
    refine then_n ?_
    refine c_region (L := [0, 1, 2]) (by kernel_rfl) ?_
    have hs28 : Int.fdiv y (2 ^ 8) = y / 256 := Int.fdiv_eq_ediv_of_nonneg _ (by decide)
    refine st_pure (l := [0, 1]) (rest := [2]) (L := [(19, .int .u64 y), (20, .int .u64 (y / 256))]) rfl (Eq.trans (b := some [(19, .int .u64 y), (20, .int .u64 (Int.fdiv y (2 ^ 8)))]) (by kernel_rfl) (by simp only [hs28])) ?_
    refine st_pure (l := [2]) (rest := []) (L := [(6, .int .u64 (y / 256))]) rfl (by kernel_rfl) ?_
    refine st_end ?_
    refine then_n ?_
    refine ⟨(y / 256, n + 1), ⟨Fr.mk (by kernel_rfl) (by kernel_rfl), HM, by omega, hl, hO5, hR6, ?_, ?_, ?_, trivial⟩, ?_⟩
    ·omega
    ·have := le_ne (x := y.toNat) (by omega); omega
    ·have h7 := le_pos (x := y.toNat) (by omega); rw [h7] at hs; simp only [List.length_cons] at hs; rw [show (y / 256).toNat = y.toNat / 256 by omega]; omega
    ·dsimp only; omega
   ·skip
    have hb29 : (decide (y > 0)) = false := decide_eq_false h25
    refine st_pure (l := [0, 1]) (rest := []) (L := [(17, .int .u64 y), (18, .bool false)]) rfl (Eq.trans (b := some [(17, .int .u64 y), (18, .bool (decide (y > 0)))]) (by kernel_rfl) (by simp only [hb29])) ?_
    refine st_end ?_
    refine then_n ?_
    refine c_false (by kernel_rfl) ?_
    refine wp_exit ?_
    refine then_x ?_
    refine then_x ?_
    refine blk_hit ?_
    refine then_n ?_
    refine wp_seq ?_
    refine c_region (L := [0, 1, 2, 3, 4, 5, 6]) (by kernel_rfl) ?_
    have hw30 : IntKind.wrap .i64 (247 + n) = 247 + n := wi64 (by omega) (by omega)
    refine st_pure (l := [0, 1, 2]) (rest := [3, 4, 5, 6]) (L := [(23, .slice A1 ((l).length) c2), (24, .int .i64 n), (25, .int .i64 (247 + n))]) rfl (Eq.trans (b := some [(23, .slice A1 ((l).length) c2), (24, .int .i64 n), (25, .int .i64 (IntKind.wrap .i64 (247 + n)))]) (by kernel_rfl) (by simp only [hw30])) ?_
    have hw31 : IntKind.wrap .u8 (247 + n) = 247 + n := wu8 (by omega) (by omega)
    refine st_pure (l := [3]) (rest := [4, 5, 6]) (L := [(26, .int .u8 (247 + n))]) rfl (Eq.trans (b := some [(26, .int .u8 (IntKind.wrap .u8 (247 + n)))]) (by kernel_rfl) (by simp only [hw31])) ?_
    refine st_new (d := 27) (e := 5) (C := [.int .u8 (247 + n)]) (V := fun r => .slice (some ⟨r, 0, none⟩) 1 1) (by kernel_rfl) ?_
    intro b32 w33 m34 lb32 ub32 hB35
    replace hl := hl.mod0 m34
    replace hO5 := hO5.mod0 m34
    replace hR6 := hR6.mod0 m34
    replace HM := HM.tr0 m34
    have hszw33 := m34.size
    refine st_append (d := 28) (tn := 23) (e := 5) (ty := 23) (t := tyU8) (v := .slice A1 ((l).length) c2) (A := some ⟨b32, 0, none⟩) (n := 1) (c := 1) (l := l) (m := [u8 (247 + n)]) (z := .int .u8 0) (bytes := 1) (by kernel_rfl) Try.underlying23 (by kernel_rfl) rfl (by decide) hO5 (Blk.rd (t := tyU8) (l := [u8 (247 + n)]) hB35 (by simp only [Ty.cells, tyU8, List.flatMap_cons, List.flatMap_nil, List.append_nil, List.cons_append, List.nil_append, u8_val (e := (247 + n)) (by omega) (by omega)]) (by simp) b32 (b32 + 1) (Nat.le_refl _) (by omega)) (by simp) (by simp only [List.length_append, List.length_cons, List.length_nil, List.length_take, List.length_drop] at *; omega) (by omega) (by intro h; cases h) ?_
    intro v36 w37 m38 hO39
    clear hO5
    clear hR6
    clear hB35
    replace hl := hl.mod m38 (by intro k h1 h2 h3; (try simp only [Iv] at h3); omega)
    replace HM := HM.trans m38 (by intro k h1 h3; (try simp only [Iv] at h3 ⊢); omega)
    have hszw37 := m38.size
    obtain ⟨A40, c41, rfl, A40_c, A40_n, hR43⟩ := hO39.rd
    have hR43_l := hR43.len
    refine st_pure (l := [6]) (rest := []) (L := [(0, .slice A40 ((l ++ [u8 (247 + n)]).length) c41)]) rfl (by kernel_rfl) ?_
    refine st_end ?_
    refine then_n ?_
    refine wp_seq ?_
    refine wp_block ?_
    refine c_loop (σ := Int × Option Addr × Nat × List UInt8) (fun s a w' => match s with | ⟨z, Ag, cg, acc⟩ => Fr 39 [(0, .slice Ag acc.length cg), (1, .int .u64 z), (2, Tf 2), (3, Tf 3), (4, .slice none 0 0), (5, .int .i64 n), (6, .int .u64 y), (7, .slice A l.length cA), (8, .slice A1 ((l).length) c2), (9, .int .u64 x), (10, .bool false), (11, Tf 11), (12, Tf 12), (13, Tf 13), (14, Tf 14), (15, Tf 15), (16, .int .u64 x), (17, .int .u64 y), (18, .bool false), (19, Tf 19), (20, Tf 20), (21, Tf 21), (22, Tf 22), (23, .slice A1 ((l).length) c2), (24, .int .i64 n), (25, .int .i64 (247 + n)), (26, .int .u8 (247 + n)), (27, .slice (some ⟨b32, 0, none⟩) 1 1), (28, .slice A40 ((l ++ [u8 (247 + n)]).length) c41), (38, Tf 38)] a ∧ Mod (Nil) w w' ∧ w37.heap.size ≤ w'.heap.size ∧ RdA tyU8 w' lo hi A l ∧ Own tyU8 5 w' w.heap.size (w'.heap.size) (.slice Ag acc.length cg) acc ∧ RdA tyU8 w' w.heap.size (w'.heap.size) Ag acc ∧ (0 ≤ z ∧ z ≤ 18446744073709551615) ∧ (Ag = none → cg = 0) ∧ (acc.length ≤ cg) ∧ (acc ++ le z.toNat = l ++ UInt8.ofNat (247 + (le x.toNat).length) :: le x.toNat) ∧ True) (fun s => match s with | ⟨z, Ag, cg, acc⟩ => z.toNat) (x, A40, c41, l ++ [u8 (247 + n)]) ?_ ?_
    ·refine ⟨Fr.mk (by kernel_rfl) (by kernel_rfl), HM, Nat.le_refl _, hl, hO39.wide (by omega) (by omega), hR43.wide (by omega) (by omega), ?_, ?_, ?_, ?_, trivial⟩
     ·omega
     ·exact A40_n
     ·exact A40_c
     ·have h9 : (le y.toNat).length = 0 := by rw [show y.toNat = 0 by omega, le_zero]; rfl
      rw [u8_of (by omega), show (247 + n).toNat = 247 + (le x.toNat).length by omega]; simp
    ·rintro ⟨z, Ag, cg, acc⟩ a w44 ⟨⟨Tf, rfl⟩, HM', hszw44, hl', hO', hR', hy, Ag_n, Ag_c, hs, -⟩
     clear HM hl hO39 hR43
     have HM := HM'; clear HM'
     have hl := hl'; clear hl'
     have hO := hO'; clear hO'
     have hR := hR'; clear hR'
     have hal := hR.len
     have h8 := le_len8 (x := z.toNat) (by omega)
     have hsl := congrArg List.length hs; simp only [List.length_append, List.length_cons] at hsl
     refine wp_seq ?_
     refine wp_seq ?_
     refine c_region (L := [0, 1]) (by kernel_rfl) ?_
     by_cases h45 : z > 0
     ·skip
      have hb46 : (decide (z > 0)) = true := decide_eq_true h45
      refine st_pure (l := [0, 1]) (rest := []) (L := [(29, .int .u64 z), (30, .bool true)]) rfl (Eq.trans (b := some [(29, .int .u64 z), (30, .bool (decide (z > 0)))]) (by kernel_rfl) (by simp only [hb46])) ?_
      refine st_end ?_
      refine then_n ?_
      refine c_true (by kernel_rfl) ?_
      refine wp_skip ?_
      refine then_n ?_
      refine wp_seq ?_
      refine wp_block ?_
      refine c_region (L := [0, 1, 2, 3, 4, 5]) (by kernel_rfl) ?_
      have hwr47 := wu8_lo (z)
      refine st_pure (l := [0, 1, 2]) (rest := [3, 4, 5]) (L := [(33, .slice Ag acc.length cg), (34, .int .u64 z), (35, .int .u8 (IntKind.wrap .u8 (z)))]) rfl (by kernel_rfl) ?_
      refine st_new (d := 36) (e := 5) (C := [.int .u8 (IntKind.wrap .u8 (z))]) (V := fun r => .slice (some ⟨r, 0, none⟩) 1 1) (by kernel_rfl) ?_
      intro b48 w49 m50 lb48 ub48 hB51
      replace hl := hl.mod0 m50
      replace hO := hO.mod0 m50
      replace hR := hR.mod0 m50
      replace HM := HM.tr0 m50
      have hszw49 := m50.size
      refine st_append (d := 37) (tn := 23) (e := 5) (ty := 23) (t := tyU8) (v := .slice Ag acc.length cg) (A := some ⟨b48, 0, none⟩) (n := 1) (c := 1) (l := acc) (m := [u8 (IntKind.wrap .u8 (z))]) (z := .int .u8 0) (bytes := 1) (by kernel_rfl) Try.underlying23 (by kernel_rfl) rfl (by decide) hO (Blk.rd (t := tyU8) (l := [u8 (IntKind.wrap .u8 (z))]) hB51 (by simp only [Ty.cells, tyU8, List.flatMap_cons, List.flatMap_nil, List.append_nil, List.cons_append, List.nil_append, u8_val (e := (IntKind.wrap .u8 (z))) (u8_wr_lo _) (u8_wr_hi _)]) (by simp) b48 (b48 + 1) (Nat.le_refl _) (by omega)) (by simp) (by simp only [List.length_append, List.length_cons, List.length_nil, List.length_take, List.length_drop] at *; omega) (by omega) (by intro h; cases h) ?_
      intro v52 w53 m54 hO55
      clear hO
      clear hR
      clear hB51
      replace hl := hl.mod m54 (by intro k h1 h2 h3; (try simp only [Iv] at h3); omega)
      replace HM := HM.trans m54 (by intro k h1 h3; (try simp only [Iv] at h3 ⊢); omega)
      have hszw53 := m54.size
      obtain ⟨A56, c57, rfl, A56_c, A56_n, hR59⟩ := hO55.rd
      have hR59_l := hR59.len
      refine st_pure (l := [5]) (rest := []) (L := [(0, .slice A56 ((acc ++ [u8 (IntKind.wrap .u8 (z))]).length) c57)]) rfl (by kernel_rfl) ?_
      refine st_end ?_
      refine blk_n ?_
      refine then_n ?_
      refine c_region (L := [0, 1, 2]) (by kernel_rfl) ?_
      have hs60 : Int.fdiv z (2 ^ 8) = z / 256 := Int.fdiv_eq_ediv_of_nonneg _ (by decide)
      refine st_pure (l := [0, 1]) (rest := [2]) (L := [(31, .int .u64 z), (32, .int .u64 (z / 256))]) rfl (Eq.trans (b := some [(31, .int .u64 z), (32, .int .u64 (Int.fdiv z (2 ^ 8)))]) (by kernel_rfl) (by simp only [hs60])) ?_
      refine st_pure (l := [2]) (rest := []) (L := [(1, .int .u64 (z / 256))]) rfl (by kernel_rfl) ?_
      refine st_end ?_
      refine then_n ?_
      refine ⟨(z / 256, A56, c57, acc ++ [u8 (IntKind.wrap .u8 (z))]), ⟨Fr.mk (by kernel_rfl) (by kernel_rfl), HM, by omega, hl, hO55.wide (by omega) (by omega), hR59.wide (by omega) (by omega), ?_, ?_, ?_, ?_, trivial⟩, ?_⟩
      ·omega
      ·exact A56_n
      ·exact A56_c
      ·rw [le_pos (x := z.toNat) (by omega)] at hs; rw [show (z / 256).toNat = z.toNat / 256 by omega, u8_wrap (by omega)]; simpa using hs
      ·dsimp only; omega
     ·skip
      have hb61 : (decide (z > 0)) = false := decide_eq_false h45
      refine st_pure (l := [0, 1]) (rest := []) (L := [(29, .int .u64 z), (30, .bool false)]) rfl (Eq.trans (b := some [(29, .int .u64 z), (30, .bool (decide (z > 0)))]) (by kernel_rfl) (by simp only [hb61])) ?_
      refine st_end ?_
      refine then_n ?_
      refine c_false (by kernel_rfl) ?_
      refine wp_exit ?_
      refine then_x ?_
      refine then_x ?_
      refine blk_hit ?_
      refine then_n ?_
      refine wp_seq ?_
      refine c_region (L := [0, 1]) (by kernel_rfl) ?_
      refine st_pure (l := [0, 1]) (rest := []) (L := [(38, .slice Ag acc.length cg), (4, .slice Ag acc.length cg)]) rfl (by kernel_rfl) ?_
      refine st_end ?_
      refine then_n ?_
      refine wp_ret ?_
      refine post_ret (v := .slice Ag acc.length cg) (by kernel_rfl) ?_
      refine ⟨acc, Ag, cg, rfl, ?_, ?_, ?_, hO, hR, HM⟩
      ·exact Ag_n
      ·first | exact Ag_c | omega
      ·unfold num
       first
       | (rw [if_pos (by omega), List.nil_append, u8_of (by omega)]; done)
       | (rw [if_neg (by omega), ← hs, show z.toNat = 0 by omega, le_zero, List.append_nil])
       | (rw [if_pos (by omega), u8_of (by omega)]; done)

theorem Reader_dead {w : World} {r : Nat} {A : Option Addr} {cA : Nat} {l : List UInt8} {e : Int} (hr : Blk w r 209 [.slice A l.length cA, .int .i64 e, .bool true]) (A_n : A = none → cA = 0) (A_c : l.length ≤ cA) (e_r : -9223372036854775808 ≤ e ∧ e ≤ 9223372036854775807) :
  Ret Try.prog 164 #[.pointer (some ⟨r, 0, none⟩)] w fun v w' => v = .bool (decide (e ≠ 0)) ∧ Mod (Nil) w w' := by
 have lt_hr := hr.lt
 have HM : Mod (Nil) w w := Mod.refl _ w
 refine ret_of Try.func164 rfl rfl ?_
 refine wp_seq ?_
 refine c_region (L := [0]) (by kernel_rfl) ?_
 refine st_pure (l := [0]) (rest := []) (L := [(2, .bool false)]) rfl (by kernel_rfl) ?_
 refine st_end ?_
 refine then_n ?_
 refine wp_seq ?_
 refine c_region (L := [0, 1, 2, 3, 4, 5, 6, 7, 8, 9, 10, 11, 12, 13, 14, 15, 16]) (by kernel_rfl) ?_
 refine st_pure (l := [0, 1, 2, 3, 4, 5]) (rest := [6, 7, 8, 9, 10, 11, 12, 13, 14, 15, 16]) (L := [(3, .pointer (some ⟨r, 0, none⟩)), (4, .bool false), (5, .bool false), (6, .pointer (some ⟨r, 0, none⟩)), (7, .pointer (some ⟨r, 0, none⟩)), (8, .pointer (some ⟨r, 2, none⟩))]) rfl (by kernel_rfl) ?_
 refine st_load (d := 9) (t := 4) (cs := _) (v := .bool true) (by kernel_rfl) (hr.sub 2) (by kernel_rfl) ?_
 refine st_pure (l := [7, 8, 9, 10, 11, 12]) (rest := [13, 14, 15, 16]) (L := [(10, .bool false), (11, .bool false), (12, .bool false), (13, .pointer (some ⟨r, 0, none⟩)), (14, .pointer (some ⟨r, 0, none⟩)), (15, .pointer (some ⟨r, 1, none⟩))]) rfl (by kernel_rfl) ?_
 refine st_load (d := 16) (t := 26) (cs := _) (v := .int .i64 e) (by kernel_rfl) (hr.sub 1) (by kernel_rfl) ?_
 refine st_pure (l := [14, 15, 16]) (rest := []) (L := [(17, .bool (e != 0)), (18, .bool (e != 0)), (2, .bool (e != 0))]) rfl (by kernel_rfl) ?_
 refine st_end ?_
 refine then_n ?_
 refine wp_ret ?_
 refine post_ret (v := .bool (e != 0)) (by kernel_rfl) ?_
 have hq1 : (e != 0) = (decide (e ≠ 0)) := by first | rfl | exact (decide_eq_true (by omega)).symm | exact (decide_eq_false (by omega)).symm | (simp only [ne_eq, decide_not]; rfl) | simp_all
 refine ⟨(congrArg (fun zB => (.bool zB : Value)) hq1), HM⟩

theorem Reader_fail {w : World} {r : Nat} {A : Option Addr} {cA : Nat} {l : List UInt8} {e : Int} {f : Int} (hr : Blk w r 209 [.slice A l.length cA, .int .i64 e, .bool true]) (f_r : -9223372036854775808 ≤ f ∧ f ≤ 9223372036854775807) (A_n : A = none → cA = 0) (A_c : l.length ≤ cA) (e_r : -9223372036854775808 ≤ e ∧ e ≤ 9223372036854775807) :
  Ret Try.prog 165 #[.pointer (some ⟨r, 0, none⟩), .int .i64 f] w fun v w' => v = .int .u64 0 ∧ Blk w' r 209 [.slice A l.length cA, .int .i64 f, .bool true] ∧ Mod (fun k => k = r) w w' := by
 have lt_hr := hr.lt
 have HM : Mod (fun k => k = r) w w := Mod.refl _ w
 refine ret_of Try.func165 rfl rfl ?_
 refine wp_seq ?_
 refine c_region (L := [0]) (by kernel_rfl) ?_
 refine st_pure (l := [0]) (rest := []) (L := [(4, .int .u64 0)]) rfl (by kernel_rfl) ?_
 refine st_end ?_
 refine then_n ?_
 refine wp_seq ?_
 refine c_region (L := [0, 1, 2, 3, 4]) (by kernel_rfl) ?_
 refine st_pure (l := [0, 1, 2, 3]) (rest := [4]) (L := [(5, .pointer (some ⟨r, 0, none⟩)), (6, .int .i64 f), (7, .pointer (some ⟨r, 0, none⟩)), (8, .pointer (some ⟨r, 1, none⟩))]) rfl (by kernel_rfl) ?_
 refine st_store (t := 26) (v := .int .i64 f) (o := 1) (C' := [.slice A l.length cA, .int .i64 f, .bool true]) (by kernel_rfl) hr (by kernel_rfl) ?_
 intro w1 m2 zm2 Nhr
 clear hr; have hr := Nhr; clear Nhr
 replace HM := HM.trans m2 (by intro k h1 h3; (try simp only [Iv] at h3 ⊢); omega)
 have hszw1 := m2.size
 refine st_end ?_
 refine then_n ?_
 refine wp_seq ?_
 refine c_region (L := [0]) (by kernel_rfl) ?_
 refine st_pure (l := [0]) (rest := []) (L := [(4, .int .u64 0)]) rfl (by kernel_rfl) ?_
 refine st_end ?_
 refine then_n ?_
 refine wp_ret ?_
 refine post_ret (v := .int .u64 0) (by kernel_rfl) ?_
 refine ⟨rfl, hr, HM⟩

theorem Reader_Err {w : World} {r : Nat} {A : Option Addr} {cA : Nat} {l : List UInt8} {e : Int} (hr : Blk w r 209 [.slice A l.length cA, .int .i64 e, .bool true]) (A_n : A = none → cA = 0) (A_c : l.length ≤ cA) (e_r : -9223372036854775808 ≤ e ∧ e ≤ 9223372036854775807) :
  Ret Try.prog 147 #[.pointer (some ⟨r, 0, none⟩)] w fun v w' => v = .int .i64 e ∧ Mod (Nil) w w' := by
 have lt_hr := hr.lt
 have HM : Mod (Nil) w w := Mod.refl _ w
 refine ret_of Try.func147 rfl rfl ?_
 refine wp_seq ?_
 refine c_region (L := [0]) (by kernel_rfl) ?_
 refine st_pure (l := [0]) (rest := []) (L := [(2, .int .i64 0)]) rfl (by kernel_rfl) ?_
 refine st_end ?_
 refine then_n ?_
 refine wp_seq ?_
 refine wp_seq ?_
 refine c_region (L := [0, 1, 2, 3, 4, 5, 6, 7, 8]) (by kernel_rfl) ?_
 refine st_pure (l := [0, 1, 2, 3, 4, 5]) (rest := [6, 7, 8]) (L := [(3, .pointer (some ⟨r, 0, none⟩)), (4, .bool false), (5, .bool false), (6, .pointer (some ⟨r, 0, none⟩)), (7, .pointer (some ⟨r, 0, none⟩)), (8, .pointer (some ⟨r, 2, none⟩))]) rfl (by kernel_rfl) ?_
 refine st_load (d := 9) (t := 4) (cs := _) (v := .bool true) (by kernel_rfl) (hr.sub 2) (by kernel_rfl) ?_
 refine st_pure (l := [7, 8]) (rest := []) (L := [(10, .bool false), (11, .bool false)]) rfl (by kernel_rfl) ?_
 refine st_end ?_
 refine then_n ?_
 refine c_false (by kernel_rfl) ?_
 refine wp_skip ?_
 refine then_n ?_
 refine wp_seq ?_
 refine c_region (L := [0, 1, 2, 3, 4]) (by kernel_rfl) ?_
 refine st_pure (l := [0, 1, 2]) (rest := [3, 4]) (L := [(12, .pointer (some ⟨r, 0, none⟩)), (13, .pointer (some ⟨r, 0, none⟩)), (14, .pointer (some ⟨r, 1, none⟩))]) rfl (by kernel_rfl) ?_
 refine st_load (d := 15) (t := 26) (cs := _) (v := .int .i64 e) (by kernel_rfl) (hr.sub 1) (by kernel_rfl) ?_
 refine st_pure (l := [4]) (rest := []) (L := [(2, .int .i64 e)]) rfl (by kernel_rfl) ?_
 refine st_end ?_
 refine then_n ?_
 refine wp_ret ?_
 refine post_ret (v := .int .i64 e) (by kernel_rfl) ?_
 refine ⟨rfl, HM⟩

theorem Reader_New {w : World} {A : Option Addr} {cA : Nat} {l : List UInt8} {lo : Nat} {hi : Nat} (hl : RdA tyU8 w lo hi A l) (A_n : A = none → cA = 0) (A_c : l.length ≤ cA) (hl_hi : hi ≤ w.heap.size) :
  Ret Try.prog 108 #[.slice A l.length cA] w fun v w' => ∃ r : Nat, ∃ A2 : Option Addr, ∃ c2 : Nat, ∃ lo2 : Nat, ∃ hi2 : Nat, v = .pointer (some ⟨r, 0, none⟩) ∧ (A2 = none → c2 = 0) ∧ (l.length ≤ c2) ∧ (w.heap.size ≤ lo2 ∧ lo2 ≤ hi2 ∧ hi2 ≤ r ∧ r < w'.heap.size) ∧ Blk w' r 209 [.slice A2 l.length c2, .int .i64 0, .bool true] ∧ RdA tyU8 w' lo2 hi2 A2 l ∧ Mod (Nil) w w' := by
 have hl_l := hl.len
 have HM : Mod (Nil) w w := Mod.refl _ w
 refine ret_of Try.func108 rfl rfl ?_
 refine wp_seq ?_
 refine c_region (L := [0]) (by kernel_rfl) ?_
 refine st_pure (l := [0]) (rest := []) (L := [(2, .pointer none)]) rfl (by kernel_rfl) ?_
 refine st_end ?_
 refine then_n ?_
 refine wp_seq ?_
 refine c_region (L := [0, 1, 2, 3, 4]) (by kernel_rfl) ?_
 refine st_pure (l := [0]) (rest := [1, 2, 3, 4]) (L := [(3, .slice A l.length cA)]) rfl (by kernel_rfl) ?_
 refine st_fn (d := 4) (f := 163) (xs := #[.slice A l.length cA]) (R := _) (by kernel_rfl) (Clone_u8 hl A_n) ?_
 rintro _ w3 ⟨A1, c2, rfl, A1_n, hc7, hO5, hR6, m4⟩
 replace hl := hl.mod0 m4
 replace HM := HM.tr0 m4
 have hszw3 := m4.size
 have hR6_l := hR6.len
 refine st_pure (l := [2]) (rest := [3, 4]) (L := [(5, .agg #[.slice A1 ((l).length) c2, .int .i64 0, .bool true])]) rfl (by kernel_rfl) ?_
 refine st_new (d := 6) (e := 209) (C := [.slice A1 ((l).length) c2, .int .i64 0, .bool true]) (V := fun r => .pointer (some ⟨r, 0, none⟩)) (by kernel_rfl) ?_
 intro b8 w9 m10 lb8 ub8 hB11
 replace hl := hl.mod0 m10
 replace hO5 := hO5.mod0 m10
 replace hR6 := hR6.mod0 m10
 replace HM := HM.tr0 m10
 have hszw9 := m10.size
 refine st_pure (l := [4]) (rest := []) (L := [(2, .pointer (some ⟨b8, 0, none⟩))]) rfl (by kernel_rfl) ?_
 refine st_end ?_
 refine then_n ?_
 refine wp_ret ?_
 refine post_ret (v := .pointer (some ⟨b8, 0, none⟩)) (by kernel_rfl) ?_
 refine ⟨b8, A1, c2, w.heap.size, w3.heap.size, rfl, ?_, ?_, ?_, hB11, hR6, HM⟩
 ·exact A1_n
 ·first | exact A1_c | omega
 ·omega

theorem Reader_Number {w : World} {r : Nat} {A : Option Addr} {cA : Nat} {l : List UInt8} {e : Int} {lo : Nat} {hi : Nat} (hr : Blk w r 209 [.slice A l.length cA, .int .i64 e, .bool true]) (hR : RdA tyU8 w lo hi A l) (A_n : A = none → cA = 0) (A_c : l.length ≤ cA) (e_r : -9223372036854775808 ≤ e ∧ e ≤ 9223372036854775807) (hR_hi : hi ≤ w.heap.size) (hsep : hi ≤ r ∨ r < lo) :
  Ret Try.prog 110 #[.pointer (some ⟨r, 0, none⟩)] w fun v w' => ∃ x2 : Int, ∃ A2 : Option Addr, ∃ c2 : Nat, ∃ l2 : List UInt8, ∃ e2 : Int, rd1 l e = (x2, l2, e2) ∧ v = .int .u64 x2 ∧ (0 ≤ x2 ∧ x2 ≤ 18446744073709551615) ∧ (A2 = none → c2 = 0) ∧ (l2.length ≤ c2) ∧ (-9223372036854775808 ≤ e2 ∧ e2 ≤ 9223372036854775807) ∧ Blk w' r 209 [.slice A2 l2.length c2, .int .i64 e2, .bool true] ∧ RdA tyU8 w' lo hi A2 l2 ∧ Mod (fun k => k = r) w w' := by
 have lt_hr := hr.lt
 have hR_l := hR.len
 have HM : Mod (fun k => k = r) w w := Mod.refl _ w
 refine ret_of Try.func110 rfl rfl ?_
 refine wp_seq ?_
 refine c_region (L := [0]) (by kernel_rfl) ?_
 refine st_pure (l := [0]) (rest := []) (L := [(2, .int .u64 0)]) rfl (by kernel_rfl) ?_
 refine st_end ?_
 refine then_n ?_
 refine wp_seq ?_
 refine wp_seq ?_
 refine c_region (L := [0, 1]) (by kernel_rfl) ?_
 refine st_pure (l := [0]) (rest := [1]) (L := [(7, .pointer (some ⟨r, 0, none⟩))]) rfl (by kernel_rfl) ?_
 refine st_fn (d := 8) (f := 164) (xs := #[.pointer (some ⟨r, 0, none⟩)]) (R := _) (by kernel_rfl) (Reader_dead (w := w) (r := r) (A := A) (cA := cA) (l := l) (e := e) (hr := hr) (A_n := A_n) (A_c := by first | exact A_c | omega) (e_r := by omega)) ?_
 rintro vw1 w1 ⟨hv2, m3⟩
 replace hr := hr.mod m3 (fun q => q)
 replace hR := hR.mod0 m3
 replace HM := HM.tr0 m3
 have hszw1 := m3.size
 by_cases h4 : e ≠ 0
 ·skip
  have hb5 : (decide (e ≠ 0)) = true := decide_eq_true h4
  rw [hb5] at hv2; subst hv2
  refine st_end ?_
  refine then_n ?_
  refine c_true (by kernel_rfl) ?_
  refine wp_seq ?_
  refine c_region (L := [0]) (by kernel_rfl) ?_
  refine st_pure (l := [0]) (rest := []) (L := [(2, .int .u64 0)]) rfl (by kernel_rfl) ?_
  refine st_end ?_
  refine then_n ?_
  refine wp_ret ?_
  refine then_r ?_
  refine post_ret (v := .int .u64 0) (by kernel_rfl) ?_
  refine ⟨0, A, cA, l, e, ?_, rfl, ?_, ?_, ?_, ?_, hr, hR, HM⟩
  ·first
   | exact rd1_dead (by omega)
   | (have he : e = 0 := (by omega); subst he; exact rd1_nil (by omega))
  ·omega
  ·exact A_n
  ·first | exact A_c | omega
  ·omega
 ·skip
  have hb6 : (decide (e ≠ 0)) = false := decide_eq_false h4
  rw [hb6] at hv2; subst hv2
  refine st_end ?_
  refine then_n ?_
  refine c_false (by kernel_rfl) ?_
  refine wp_skip ?_
  refine then_n ?_
  refine wp_seq ?_
  refine wp_seq ?_
  refine c_region (L := [0, 1, 2, 3, 4, 5]) (by kernel_rfl) ?_
  refine st_pure (l := [0, 1, 2]) (rest := [3, 4, 5]) (L := [(9, .pointer (some ⟨r, 0, none⟩)), (10, .pointer (some ⟨r, 0, none⟩)), (11, .pointer (some ⟨r, 0, none⟩))]) rfl (by kernel_rfl) ?_
  refine st_load (d := 12) (t := 23) (cs := _) (v := .slice A l.length cA) (by kernel_rfl) (hr.sub 0) (by kernel_rfl) ?_
  by_cases h7 : (l.length : Int) = 0
  ·skip
   have hb8 : ((l.length : Int) == 0) = true := beq_iff_eq.2 h7
   refine st_pure (l := [4, 5]) (rest := []) (L := [(13, .int .i64 (l.length : Int)), (14, .bool true)]) rfl (Eq.trans (b := some [(13, .int .i64 (l.length : Int)), (14, .bool ((l.length : Int) == 0))]) (by kernel_rfl) (by simp only [hb8])) ?_
   refine st_end ?_
   refine then_n ?_
   refine c_true (by kernel_rfl) ?_
   refine wp_seq ?_
   refine c_region (L := [0, 1, 2]) (by kernel_rfl) ?_
   refine st_pure (l := [0]) (rest := [1, 2]) (L := [(15, .pointer (some ⟨r, 0, none⟩))]) rfl (by kernel_rfl) ?_
   refine st_fn (d := 16) (f := 165) (xs := #[.pointer (some ⟨r, 0, none⟩), .int .i64 5]) (R := _) (by kernel_rfl) (Reader_fail (w := w1) (r := r) (A := A) (cA := cA) (l := l) (e := e) (f := 5) (hr := hr) (f_r := by omega) (A_n := A_n) (A_c := by first | exact A_c | omega) (e_r := by omega)) ?_
   rintro vw9 w9 ⟨rfl, hr_11, m12⟩
   clear hr
   replace hR := hR.mod m12 (by intro k h1 h2 h3; (try simp only [Iv] at h3); omega)
   replace HM := HM.trans m12 (by intro k h1 h3; (try simp only [Iv] at h3 ⊢); omega)
   have hszw9 := m12.size
   have lt_hr_11 := hr_11.lt
   refine st_pure (l := [2]) (rest := []) (L := [(2, .int .u64 0)]) rfl (by kernel_rfl) ?_
   refine st_end ?_
   refine then_n ?_
   refine wp_ret ?_
   refine then_r ?_
   refine post_ret (v := .int .u64 0) (by kernel_rfl) ?_
   refine ⟨0, A, cA, l, 5, ?_, rfl, ?_, ?_, ?_, ?_, hr_11, hR, HM⟩
   ·first
    | exact rd1_dead (by omega)
    | (have he : e = 0 := (by omega); subst he; exact rd1_nil (by omega))
   ·omega
   ·exact A_n
   ·first | exact A_c | omega
   ·omega
  ·skip
   have hb13 : ((l.length : Int) == 0) = false := beq_eq_false_iff_ne.2 h7
   refine st_pure (l := [4, 5]) (rest := []) (L := [(13, .int .i64 (l.length : Int)), (14, .bool false)]) rfl (Eq.trans (b := some [(13, .int .i64 (l.length : Int)), (14, .bool ((l.length : Int) == 0))]) (by kernel_rfl) (by simp only [hb13])) ?_
   refine st_end ?_
   refine then_n ?_
   refine c_false (by kernel_rfl) ?_
   refine wp_skip ?_
   refine then_n ?_
   refine wp_seq ?_
   refine c_region (L := [0, 1, 2, 3, 4, 5, 6]) (by kernel_rfl) ?_
   refine st_pure (l := [0, 1, 2]) (rest := [3, 4, 5, 6]) (L := [(17, .pointer (some ⟨r, 0, none⟩)), (18, .pointer (some ⟨r, 0, none⟩)), (19, .pointer (some ⟨r, 0, none⟩))]) rfl (by kernel_rfl) ?_
   refine st_load (d := 20) (t := 23) (cs := _) (v := .slice A l.length cA) (by kernel_rfl) (hr.sub 0) (by kernel_rfl) ?_
   have hi17 : (0 : Int).toNat < (l).length := by omega
   obtain ⟨b14, o15, ehA16, lhA16, uhA16, hA16⟩ := hR.get hi17
   obtain ⟨x18, ex18⟩ : ∃ y, y = (l)[(0 : Int).toNat] := ⟨_, rfl⟩
   rw [← ex18] at hA16
   have dx18 := getD_of (d := 0) hi17 ex18
   simp only [show (0 : Int).toNat = 0 from rfl] at dx18
   have hrx18 : x18.toNat < 256 := UInt8.toNat_lt x18
   refine st_index (d := 21) (tn := 23) (n := l.length) (c := cA) (ix := 0) (k := .i64) (e := 5) (t := tyU8) (b := b14) (by kernel_rfl) Try.underlying23 (by kernel_rfl) ehA16 (by omega) (by omega) ?_
   refine st_load (d := 22) (t := 5) (cs := _) (v := .int .u8 (x18.toNat : Int)) (by kernel_rfl) (hA16.dropk 0) (by kernel_rfl) ?_
   refine st_pure (l := [6]) (rest := []) (L := [(3, .int .u8 (x18.toNat : Int))]) rfl (by kernel_rfl) ?_
   refine st_end ?_
   refine then_n ?_
   refine wp_seq ?_
   refine wp_seq ?_
   refine c_region (L := [0, 1]) (by kernel_rfl) ?_
   by_cases h19 : (x18.toNat : Int) ≤ 247
   ·skip
    have hb20 : (decide ((x18.toNat : Int) ≤ 247)) = true := decide_eq_true h19
    refine st_pure (l := [0, 1]) (rest := []) (L := [(23, .int .u8 (x18.toNat : Int)), (24, .bool true)]) rfl (Eq.trans (b := some [(23, .int .u8 (x18.toNat : Int)), (24, .bool (decide ((x18.toNat : Int) ≤ 247)))]) (by kernel_rfl) (by simp only [hb20])) ?_
    refine st_end ?_
    refine then_n ?_
    refine c_true (by kernel_rfl) ?_
    refine wp_seq ?_
    refine c_region (L := [0, 1, 2, 3, 4, 5, 6, 7, 8]) (by kernel_rfl) ?_
    refine st_pure (l := [0, 1, 2, 3]) (rest := [4, 5, 6, 7, 8]) (L := [(25, .pointer (some ⟨r, 0, none⟩)), (26, .pointer (some ⟨r, 0, none⟩)), (27, .pointer (some ⟨r, 0, none⟩)), (28, .pointer (some ⟨r, 0, none⟩))]) rfl (by kernel_rfl) ?_
    refine st_load (d := 29) (t := 23) (cs := _) (v := .slice A l.length cA) (by kernel_rfl) (hr.sub 0) (by kernel_rfl) ?_
    refine st_from (d := 30) (tn := 23) (e := 5) (t := tyU8) (A := A) (n := l.length) (c := cA) (lo := (.int .i64 1)) (i' := 1) (l := l) (k := 1) (by kernel_rfl) Try.underlying23 (by kernel_rfl) rfl (by omega) (by omega) (by first | rfl | simp) (by first | exact A_c | omega) (A_n) hR rfl ?_
    intro A21 c22 hR23 A21_c A21_n
    have hR23_l := hR23.len; simp only [List.length_drop, List.length_take] at hR23_l
    refine st_pure (l := [6, 7]) (rest := [8]) (L := [(31, .pointer (some ⟨r, 0, none⟩)), (32, .pointer (some ⟨r, 0, none⟩))]) rfl (by kernel_rfl) ?_
    refine st_store (t := 23) (v := .slice A21 ((l.drop 1).length) c22) (o := 0) (C' := [.slice A21 ((l.drop 1).length) c22, .int .i64 e, .bool true]) (by kernel_rfl) hr (by kernel_rfl) ?_
    intro w24 m25 zm25 Nhr
    clear hr; have hr := Nhr; clear Nhr
    replace hR := hR.mod m25 (by intro k h1 h2 h3; (try simp only [Iv] at h3); omega)
    replace hA16 := hA16.mod m25 (by intro h3; (try simp only [Iv] at h3); omega)
    replace hR23 := hR23.mod m25 (by intro k h1 h2 h3; (try simp only [Iv] at h3); omega)
    replace HM := HM.trans m25 (by intro k h1 h3; (try simp only [Iv] at h3 ⊢); omega)
    have hszw24 := m25.size
    refine st_end ?_
    refine then_n ?_
    refine wp_seq ?_
    refine c_region (L := [0, 1, 2]) (by kernel_rfl) ?_
    have hw26 : IntKind.wrap .u64 ((x18.toNat : Int)) = (x18.toNat : Int) := wu64 (by omega) (by omega)
    refine st_pure (l := [0, 1]) (rest := [2]) (L := [(33, .int .u8 (x18.toNat : Int)), (34, .int .u64 (x18.toNat : Int))]) rfl (Eq.trans (b := some [(33, .int .u8 (x18.toNat : Int)), (34, .int .u64 (IntKind.wrap .u64 ((x18.toNat : Int))))]) (by kernel_rfl) (by simp only [hw26])) ?_
    refine st_pure (l := [2]) (rest := []) (L := [(2, .int .u64 (x18.toNat : Int))]) rfl (by kernel_rfl) ?_
    refine st_end ?_
    refine then_n ?_
    refine wp_ret ?_
    refine then_r ?_
    refine post_ret (v := .int .u64 (x18.toNat : Int)) (by kernel_rfl) ?_
    refine ⟨(x18.toNat : Int), A21, c22, l.drop 1, e, ?_, rfl, ?_, ?_, ?_, ?_, hr, hR23, HM⟩
    ·have he : e = 0 := by omega
     subst he
     first
     | exact rd1_one (by omega) ex18 (by omega)
     | exact rd1_more (by omega) ex18 (by omega) (by omega)
    ·omega
    ·exact A21_n
    ·first | exact A21_c | omega
    ·omega
   ·skip
    have hb27 : (decide ((x18.toNat : Int) ≤ 247)) = false := decide_eq_false h19
    refine st_pure (l := [0, 1]) (rest := []) (L := [(23, .int .u8 (x18.toNat : Int)), (24, .bool false)]) rfl (Eq.trans (b := some [(23, .int .u8 (x18.toNat : Int)), (24, .bool (decide ((x18.toNat : Int) ≤ 247)))]) (by kernel_rfl) (by simp only [hb27])) ?_
    refine st_end ?_
    refine then_n ?_
    refine c_false (by kernel_rfl) ?_
    refine wp_skip ?_
    refine then_n ?_
    refine wp_seq ?_
    refine c_region (L := [0, 1, 2, 3]) (by kernel_rfl) ?_
    have hw28 : IntKind.wrap .i64 ((x18.toNat : Int)) = (x18.toNat : Int) := wi64 (by omega) (by omega)
    refine st_pure (l := [0, 1]) (rest := [2, 3]) (L := [(35, .int .u8 (x18.toNat : Int)), (36, .int .i64 (x18.toNat : Int))]) rfl (Eq.trans (b := some [(35, .int .u8 (x18.toNat : Int)), (36, .int .i64 (IntKind.wrap .i64 ((x18.toNat : Int))))]) (by kernel_rfl) (by simp only [hw28])) ?_
    have hw29 : IntKind.wrap .i64 ((x18.toNat : Int) - 247) = (x18.toNat : Int) - 247 := wi64 (by omega) (by omega)
    refine st_pure (l := [2]) (rest := [3]) (L := [(37, .int .i64 ((x18.toNat : Int) - 247))]) rfl (Eq.trans (b := some [(37, .int .i64 (IntKind.wrap .i64 ((x18.toNat : Int) - 247)))]) (by kernel_rfl) (by simp only [hw29])) ?_
    refine st_pure (l := [3]) (rest := []) (L := [(4, .int .i64 ((x18.toNat : Int) - 247))]) rfl (by kernel_rfl) ?_
    refine st_end ?_
    refine then_n ?_
    refine wp_seq ?_
    refine wp_seq ?_
    refine c_region (L := [0, 1, 2, 3, 4, 5, 6, 7]) (by kernel_rfl) ?_
    refine st_pure (l := [0, 1, 2]) (rest := [3, 4, 5, 6, 7]) (L := [(38, .pointer (some ⟨r, 0, none⟩)), (39, .pointer (some ⟨r, 0, none⟩)), (40, .pointer (some ⟨r, 0, none⟩))]) rfl (by kernel_rfl) ?_
    refine st_load (d := 41) (t := 23) (cs := _) (v := .slice A l.length cA) (by kernel_rfl) (hr.sub 0) (by kernel_rfl) ?_
    have hw30 : IntKind.wrap .i64 (1 + ((x18.toNat : Int) - 247)) = 1 + ((x18.toNat : Int) - 247) := wi64 (by omega) (by omega)
    refine st_pure (l := [4, 5, 6]) (rest := [7]) (L := [(42, .int .i64 (l.length : Int)), (43, .int .i64 ((x18.toNat : Int) - 247)), (44, .int .i64 (1 + ((x18.toNat : Int) - 247)))]) rfl (Eq.trans (b := some [(42, .int .i64 (l.length : Int)), (43, .int .i64 ((x18.toNat : Int) - 247)), (44, .int .i64 (IntKind.wrap .i64 (1 + ((x18.toNat : Int) - 247))))]) (by kernel_rfl) (by simp only [hw30])) ?_
    by_cases h31 : (l.length : Int) < (1 + ((x18.toNat : Int) - 247))
    ·skip
     have hb32 : (decide ((l.length : Int) < (1 + ((x18.toNat : Int) - 247)))) = true := decide_eq_true h31
     refine st_pure (l := [7]) (rest := []) (L := [(45, .bool true)]) rfl (Eq.trans (b := some [(45, .bool (decide ((l.length : Int) < (1 + ((x18.toNat : Int) - 247)))))]) (by kernel_rfl) (by simp only [hb32])) ?_
     refine st_end ?_
     refine then_n ?_
     refine c_true (by kernel_rfl) ?_
     refine wp_seq ?_
     refine c_region (L := [0, 1, 2]) (by kernel_rfl) ?_
     refine st_pure (l := [0]) (rest := [1, 2]) (L := [(46, .pointer (some ⟨r, 0, none⟩))]) rfl (by kernel_rfl) ?_
     refine st_fn (d := 47) (f := 165) (xs := #[.pointer (some ⟨r, 0, none⟩), .int .i64 5]) (R := _) (by kernel_rfl) (Reader_fail (w := w1) (r := r) (A := A) (cA := cA) (l := l) (e := e) (f := 5) (hr := hr) (f_r := by omega) (A_n := A_n) (A_c := by first | exact A_c | omega) (e_r := by omega)) ?_
     rintro vw33 w33 ⟨rfl, hr_35, m36⟩
     clear hr
     replace hR := hR.mod m36 (by intro k h1 h2 h3; (try simp only [Iv] at h3); omega)
     replace hA16 := hA16.mod m36 (by intro h3; (try simp only [Iv] at h3); omega)
     replace HM := HM.trans m36 (by intro k h1 h3; (try simp only [Iv] at h3 ⊢); omega)
     have hszw33 := m36.size
     have lt_hr_35 := hr_35.lt
     refine st_pure (l := [2]) (rest := []) (L := [(2, .int .u64 0)]) rfl (by kernel_rfl) ?_
     refine st_end ?_
     refine then_n ?_
     refine wp_ret ?_
     refine then_r ?_
     refine post_ret (v := .int .u64 0) (by kernel_rfl) ?_
     refine ⟨0, A, cA, l, 5, ?_, rfl, ?_, ?_, ?_, ?_, hr_35, hR, HM⟩
     ·have he : e = 0 := by omega
      subst he
      first
      | exact rd1_one (by omega) ex18 (by omega)
      | exact rd1_more (by omega) ex18 (by omega) (by omega)
     ·omega
     ·exact A_n
     ·first | exact A_c | omega
     ·omega
    ·skip
     have hb37 : (decide ((l.length : Int) < (1 + ((x18.toNat : Int) - 247)))) = false := decide_eq_false h31
     refine st_pure (l := [7]) (rest := []) (L := [(45, .bool false)]) rfl (Eq.trans (b := some [(45, .bool (decide ((l.length : Int) < (1 + ((x18.toNat : Int) - 247)))))]) (by kernel_rfl) (by simp only [hb37])) ?_
     refine st_end ?_
     refine then_n ?_
     refine c_false (by kernel_rfl) ?_
     refine wp_skip ?_
     refine then_n ?_
     refine wp_seq ?_
     refine c_region (L := [0]) (by kernel_rfl) ?_
     refine st_pure (l := [0]) (rest := []) (L := [(5, .int .u64 0)]) rfl (by kernel_rfl) ?_
     refine st_end ?_
     refine then_n ?_
     refine wp_seq ?_
     refine wp_seq ?_
     refine c_region (L := [0, 1]) (by kernel_rfl) ?_
     refine st_pure (l := [0, 1]) (rest := []) (L := [(48, .int .i64 ((x18.toNat : Int) - 247)), (6, .int .i64 ((x18.toNat : Int) - 247))]) rfl (by kernel_rfl) ?_
     refine st_end ?_
     refine then_n ?_
     refine wp_block ?_
     refine c_loop (σ := Int × Int) (fun s a w' => match s with | ⟨x, i⟩ => Fr 89 [(0, .pointer (some ⟨r, 0, none⟩)), (2, .int .u64 0), (3, .int .u8 (x18.toNat : Int)), (4, .int .i64 ((x18.toNat : Int) - 247)), (5, .int .u64 x), (6, .int .i64 i), (7, .pointer (some ⟨r, 0, none⟩)), (8, .bool false), (9, .pointer (some ⟨r, 0, none⟩)), (10, .pointer (some ⟨r, 0, none⟩)), (11, .pointer (some ⟨r, 0, none⟩)), (12, .slice A l.length cA), (13, .int .i64 (l.length : Int)), (14, .bool false), (17, .pointer (some ⟨r, 0, none⟩)), (18, .pointer (some ⟨r, 0, none⟩)), (19, .pointer (some ⟨r, 0, none⟩)), (20, .slice A l.length cA), (21, .pointer (some ⟨b14, o15 + (0 : Int).toNat * 1, none⟩)), (22, .int .u8 (x18.toNat : Int)), (23, .int .u8 (x18.toNat : Int)), (24, .bool false), (35, .int .u8 (x18.toNat : Int)), (36, .int .i64 (x18.toNat : Int)), (37, .int .i64 ((x18.toNat : Int) - 247)), (38, .pointer (some ⟨r, 0, none⟩)), (39, .pointer (some ⟨r, 0, none⟩)), (40, .pointer (some ⟨r, 0, none⟩)), (41, .slice A l.length cA), (42, .int .i64 (l.length : Int)), (43, .int .i64 ((x18.toNat : Int) - 247)), (44, .int .i64 (1 + ((x18.toNat : Int) - 247))), (45, .bool false), (48, .int .i64 ((x18.toNat : Int) - 247))] a ∧ Mod (fun k => k = r) w w' ∧ w1.heap.size ≤ w'.heap.size ∧ Blk w' r 209 [.slice A l.length cA, .int .i64 e, .bool true] ∧ RdA tyU8 w' lo hi A l ∧ At w' b14 (o15 + (0 : Int).toNat * 1) [.int .u8 (x18.toNat : Int)] ∧ (0 ≤ i ∧ i ≤ (x18.toNat : Int) - 247) ∧ (x = lev ((l.take (((x18.toNat : Int) - 247).toNat + 1)).drop (i.toNat + 1))) ∧ (0 ≤ x ∧ x ≤ 18446744073709551615) ∧ True) (fun s => match s with | ⟨x, i⟩ => i.toNat) (0, (x18.toNat : Int) - 247) ?_ ?_
     ·refine ⟨Fr.mk (by kernel_rfl) (by kernel_rfl), HM, Nat.le_refl _, hr, hR, hA16, ?_, ?_, ?_, trivial⟩
      ·omega
      ·rw [List.drop_of_length_le (by simp only [List.length_take]; omega)]; rfl
      ·omega
     ·rintro ⟨x, i⟩ a w38 ⟨⟨Tf, rfl⟩, HM', hszw38, hr', hR', hA16', hib, hx, hxb, -⟩
      clear HM hr hR hA16
      have HM := HM'; clear HM'
      have hr := hr'; clear hr'
      have hR := hR'; clear hR'
      have hA16 := hA16'; clear hA16'
      refine wp_seq ?_
      refine wp_seq ?_
      refine c_region (L := [0, 1]) (by kernel_rfl) ?_
      by_cases h39 : i ≥ 1
      ·skip
       have hb40 : (decide (i ≥ 1)) = true := decide_eq_true h39
       refine st_pure (l := [0, 1]) (rest := []) (L := [(49, .int .i64 i), (50, .bool true)]) rfl (Eq.trans (b := some [(49, .int .i64 i), (50, .bool (decide (i ≥ 1)))]) (by kernel_rfl) (by simp only [hb40])) ?_
       refine st_end ?_
       refine then_n ?_
       refine c_true (by kernel_rfl) ?_
       refine wp_skip ?_
       refine then_n ?_
       refine wp_seq ?_
       refine wp_block ?_
       refine c_region (L := [0, 1, 2, 3, 4, 5, 6, 7, 8, 9, 10, 11]) (by kernel_rfl) ?_
       have hlv := lev_lt ((l.take (((x18.toNat : Int) - 247).toNat + 1)).drop (i.toNat + 1))
       have hln : ((l.take (((x18.toNat : Int) - 247).toNat + 1)).drop (i.toNat + 1)).length = ((x18.toNat : Int) - 247).toNat - i.toNat := by simp only [List.length_drop, List.length_take]; omega
       rw [hln] at hlv
       have hp7 : (256 : Nat) ^ (((x18.toNat : Int) - 247).toNat - i.toNat) ≤ 256 ^ 7 := Nat.pow_le_pow_right (by omega) (by omega)
       have hx7 : x ≤ 72057594037927935 := by omega
       have hw41 : IntKind.wrap .u64 (x * 2 ^ 8) = x * 256 := (wu64 (by omega) (by omega)).trans (by omega)
       refine st_pure (l := [0, 1]) (rest := [2, 3, 4, 5, 6, 7, 8, 9, 10, 11]) (L := [(53, .int .u64 x), (54, .int .u64 (x * 256))]) rfl (Eq.trans (b := some [(53, .int .u64 x), (54, .int .u64 (IntKind.wrap .u64 (x * 2 ^ 8)))]) (by kernel_rfl) (by simp only [hw41])) ?_
       refine st_pure (l := [2, 3, 4]) (rest := [5, 6, 7, 8, 9, 10, 11]) (L := [(55, .pointer (some ⟨r, 0, none⟩)), (56, .pointer (some ⟨r, 0, none⟩)), (57, .pointer (some ⟨r, 0, none⟩))]) rfl (by kernel_rfl) ?_
       refine st_load (d := 58) (t := 23) (cs := _) (v := .slice A l.length cA) (by kernel_rfl) (hr.sub 0) (by kernel_rfl) ?_
       refine st_pure (l := [6]) (rest := [7, 8, 9, 10, 11]) (L := [(59, .int .i64 i)]) rfl (by kernel_rfl) ?_
       have hi45 : (i).toNat < (l).length := by omega
       obtain ⟨b42, o43, ehA44, lhA44, uhA44, hA44⟩ := hR.get hi45
       obtain ⟨x46, ex46⟩ : ∃ y, y = (l)[(i).toNat] := ⟨_, rfl⟩
       rw [← ex46] at hA44
       have dx46 := getD_of (d := 0) hi45 ex46
       have hrx46 : x46.toNat < 256 := UInt8.toNat_lt x46
       refine st_index (d := 60) (tn := 23) (n := l.length) (c := cA) (ix := i) (k := .i64) (e := 5) (t := tyU8) (b := b42) (by kernel_rfl) Try.underlying23 (by kernel_rfl) ehA44 (by omega) (by omega) ?_
       refine st_load (d := 61) (t := 5) (cs := _) (v := .int .u8 (x46.toNat : Int)) (by kernel_rfl) (hA44.dropk 0) (by kernel_rfl) ?_
       have hw47 : IntKind.wrap .u64 ((x46.toNat : Int)) = (x46.toNat : Int) := wu64 (by omega) (by omega)
       refine st_pure (l := [9]) (rest := [10, 11]) (L := [(62, .int .u64 (x46.toNat : Int))]) rfl (Eq.trans (b := some [(62, .int .u64 (IntKind.wrap .u64 ((x46.toNat : Int))))]) (by kernel_rfl) (by simp only [hw47])) ?_
       have hb48 : bor .u64 (x * 256) (x46.toNat : Int) = x * 256 + (x46.toNat : Int) := bor_add (by omega) (by omega) (by omega) (by omega)
       refine st_pure (l := [10]) (rest := [11]) (L := [(63, .int .u64 (x * 256 + (x46.toNat : Int)))]) rfl (Eq.trans (b := some [(63, .int .u64 (bor .u64 (x * 256) (x46.toNat : Int)))]) (by kernel_rfl) (by simp only [hb48])) ?_
       refine st_pure (l := [11]) (rest := []) (L := [(5, .int .u64 (x * 256 + (x46.toNat : Int)))]) rfl (by kernel_rfl) ?_
       refine st_end ?_
       refine blk_n ?_
       refine then_n ?_
       refine c_region (L := [0, 1, 2]) (by kernel_rfl) ?_
       have hw49 : IntKind.wrap .i64 (i - 1) = i - 1 := wi64 (by omega) (by omega)
       refine st_pure (l := [0, 1]) (rest := [2]) (L := [(51, .int .i64 i), (52, .int .i64 (i - 1))]) rfl (Eq.trans (b := some [(51, .int .i64 i), (52, .int .i64 (IntKind.wrap .i64 (i - 1)))]) (by kernel_rfl) (by simp only [hw49])) ?_
       refine st_pure (l := [2]) (rest := []) (L := [(6, .int .i64 (i - 1))]) rfl (by kernel_rfl) ?_
       refine st_end ?_
       refine then_n ?_
       refine ⟨(x * 256 + (x46.toNat : Int), i - 1), ⟨Fr.mk (by kernel_rfl) (by kernel_rfl), HM, by omega, hr, hR, hA16, ?_, ?_, ?_, trivial⟩, ?_⟩
       ·omega
       ·have h9 := lev_step (l := l) (n := ((x18.toNat : Int) - 247).toNat) (i := i.toNat) (by omega) (by omega) ex46; rw [show (i - 1).toNat + 1 = i.toNat by omega, h9]; omega
       ·omega
       ·dsimp only; omega
      ·skip
       have hb50 : (decide (i ≥ 1)) = false := decide_eq_false h39
       refine st_pure (l := [0, 1]) (rest := []) (L := [(49, .int .i64 i), (50, .bool false)]) rfl (Eq.trans (b := some [(49, .int .i64 i), (50, .bool (decide (i ≥ 1)))]) (by kernel_rfl) (by simp only [hb50])) ?_
       refine st_end ?_
       refine then_n ?_
       refine c_false (by kernel_rfl) ?_
       refine wp_exit ?_
       refine then_x ?_
       refine then_x ?_
       refine blk_hit ?_
       refine then_n ?_
       refine wp_seq ?_
       refine wp_seq ?_
       refine c_region (L := [0, 1, 2, 3, 4, 5, 6, 7, 8, 9, 10, 11]) (by kernel_rfl) ?_
       refine st_pure (l := [0, 1, 2]) (rest := [3, 4, 5, 6, 7, 8, 9, 10, 11]) (L := [(64, .pointer (some ⟨r, 0, none⟩)), (65, .pointer (some ⟨r, 0, none⟩)), (66, .pointer (some ⟨r, 0, none⟩))]) rfl (by kernel_rfl) ?_
       refine st_load (d := 67) (t := 23) (cs := _) (v := .slice A l.length cA) (by kernel_rfl) (hr.sub 0) (by kernel_rfl) ?_
       refine st_pure (l := [4]) (rest := [5, 6, 7, 8, 9, 10, 11]) (L := [(68, .int .i64 ((x18.toNat : Int) - 247))]) rfl (by kernel_rfl) ?_
       have hi54 : ((x18.toNat : Int) - 247).toNat < (l).length := by omega
       obtain ⟨b51, o52, ehA53, lhA53, uhA53, hA53⟩ := hR.get hi54
       obtain ⟨x55, ex55⟩ : ∃ y, y = (l)[((x18.toNat : Int) - 247).toNat] := ⟨_, rfl⟩
       rw [← ex55] at hA53
       have dx55 := getD_of (d := 0) hi54 ex55
       have hrx55 : x55.toNat < 256 := UInt8.toNat_lt x55
       refine st_index (d := 69) (tn := 23) (n := l.length) (c := cA) (ix := (x18.toNat : Int) - 247) (k := .i64) (e := 5) (t := tyU8) (b := b51) (by kernel_rfl) Try.underlying23 (by kernel_rfl) ehA53 (by omega) (by omega) ?_
       refine st_load (d := 70) (t := 5) (cs := _) (v := .int .u8 (x55.toNat : Int)) (by kernel_rfl) (hA53.dropk 0) (by kernel_rfl) ?_
       by_cases h56 : (x55.toNat : Int) = 0
       ·skip
        have hb57 : ((x55.toNat : Int) == 0) = true := beq_iff_eq.2 h56
        refine st_pure (l := [7, 8]) (rest := [9, 10, 11]) (L := [(71, .bool ((x55.toNat : Int) == 0)), (72, .bool true)]) rfl (Eq.trans (b := some [(71, .bool ((x55.toNat : Int) == 0)), (72, .bool ((x55.toNat : Int) == 0))]) (by kernel_rfl) (by simp only [hb57])) ?_
        refine st_pure (l := [9, 10, 11]) (rest := []) (L := [(73, undef), (74, undef), (75, .bool true)]) rfl (by kernel_rfl) ?_
        refine st_end ?_
        refine then_n ?_
        refine c_true (by kernel_rfl) ?_
        refine wp_seq ?_
        refine c_region (L := [0, 1, 2]) (by kernel_rfl) ?_
        refine st_pure (l := [0]) (rest := [1, 2]) (L := [(76, .pointer (some ⟨r, 0, none⟩))]) rfl (by kernel_rfl) ?_
        refine st_fn (d := 77) (f := 165) (xs := #[.pointer (some ⟨r, 0, none⟩), .int .i64 4]) (R := _) (by kernel_rfl) (Reader_fail (w := w38) (r := r) (A := A) (cA := cA) (l := l) (e := e) (f := 4) (hr := hr) (f_r := by omega) (A_n := A_n) (A_c := by first | exact A_c | omega) (e_r := by omega)) ?_
        rintro vw58 w58 ⟨rfl, hr_60, m61⟩
        clear hr
        replace hR := hR.mod m61 (by intro k h1 h2 h3; (try simp only [Iv] at h3); omega)
        replace hA16 := hA16.mod m61 (by intro h3; (try simp only [Iv] at h3); omega)
        replace hA53 := hA53.mod m61 (by intro h3; (try simp only [Iv] at h3); omega)
        replace HM := HM.trans m61 (by intro k h1 h3; (try simp only [Iv] at h3 ⊢); omega)
        have hszw58 := m61.size
        have lt_hr_60 := hr_60.lt
        refine st_pure (l := [2]) (rest := []) (L := [(2, .int .u64 0)]) rfl (by kernel_rfl) ?_
        refine st_end ?_
        refine then_n ?_
        refine wp_ret ?_
        refine then_r ?_
        refine post_ret (v := .int .u64 0) (by kernel_rfl) ?_
        refine ⟨0, A, cA, l, 4, ?_, rfl, ?_, ?_, ?_, ?_, hr_60, hR, HM⟩
        ·have he : e = 0 := by omega
         subst he
         have hE := rd1_end (l := l) (n := ((x18.toNat : Int) - 247).toNat) (v := x.toNat) (by omega) ex18 (by omega) (by omega) (by omega) ex55 (by have hi0 : i.toNat + 1 = 1 := (by omega); rw [hi0] at hx; rw [hx]; rfl)
         first
         | (rw [if_pos (by omega)] at hE; exact hE)
         | (rw [if_neg (by omega), show ((x.toNat : Nat) : Int) = x by omega] at hE; rw [hE]; first | rfl | (congr 3; omega))
        ·omega
        ·exact A_n
        ·first | exact A_c | omega
        ·omega
       ·skip
        have hb62 : ((x55.toNat : Int) == 0) = false := beq_eq_false_iff_ne.2 h56
        refine st_pure (l := [7, 8]) (rest := [9, 10, 11]) (L := [(71, .bool ((x55.toNat : Int) == 0)), (72, .bool false)]) rfl (Eq.trans (b := some [(71, .bool ((x55.toNat : Int) == 0)), (72, .bool ((x55.toNat : Int) == 0))]) (by kernel_rfl) (by simp only [hb62])) ?_
        by_cases h63 : x ≤ 247
        ·skip
         have hb64 : (decide (x ≤ 247)) = true := decide_eq_true h63
         refine st_pure (l := [9, 10, 11]) (rest := []) (L := [(73, .int .u64 x), (74, .bool (decide (x ≤ 247))), (75, .bool true)]) rfl (Eq.trans (b := some [(73, .int .u64 x), (74, .bool (decide (x ≤ 247))), (75, .bool (decide (x ≤ 247)))]) (by kernel_rfl) (by simp only [hb64])) ?_
         refine st_end ?_
         refine then_n ?_
         refine c_true (by kernel_rfl) ?_
         refine wp_seq ?_
         refine c_region (L := [0, 1, 2]) (by kernel_rfl) ?_
         refine st_pure (l := [0]) (rest := [1, 2]) (L := [(76, .pointer (some ⟨r, 0, none⟩))]) rfl (by kernel_rfl) ?_
         refine st_fn (d := 77) (f := 165) (xs := #[.pointer (some ⟨r, 0, none⟩), .int .i64 4]) (R := _) (by kernel_rfl) (Reader_fail (w := w38) (r := r) (A := A) (cA := cA) (l := l) (e := e) (f := 4) (hr := hr) (f_r := by omega) (A_n := A_n) (A_c := by first | exact A_c | omega) (e_r := by omega)) ?_
         rintro vw65 w65 ⟨rfl, hr_67, m68⟩
         clear hr
         replace hR := hR.mod m68 (by intro k h1 h2 h3; (try simp only [Iv] at h3); omega)
         replace hA16 := hA16.mod m68 (by intro h3; (try simp only [Iv] at h3); omega)
         replace hA53 := hA53.mod m68 (by intro h3; (try simp only [Iv] at h3); omega)
         replace HM := HM.trans m68 (by intro k h1 h3; (try simp only [Iv] at h3 ⊢); omega)
         have hszw65 := m68.size
         have lt_hr_67 := hr_67.lt
         refine st_pure (l := [2]) (rest := []) (L := [(2, .int .u64 0)]) rfl (by kernel_rfl) ?_
         refine st_end ?_
         refine then_n ?_
         refine wp_ret ?_
         refine then_r ?_
         refine post_ret (v := .int .u64 0) (by kernel_rfl) ?_
         refine ⟨0, A, cA, l, 4, ?_, rfl, ?_, ?_, ?_, ?_, hr_67, hR, HM⟩
         ·have he : e = 0 := by omega
          subst he
          have hE := rd1_end (l := l) (n := ((x18.toNat : Int) - 247).toNat) (v := x.toNat) (by omega) ex18 (by omega) (by omega) (by omega) ex55 (by have hi0 : i.toNat + 1 = 1 := (by omega); rw [hi0] at hx; rw [hx]; rfl)
          first
          | (rw [if_pos (by omega)] at hE; exact hE)
          | (rw [if_neg (by omega), show ((x.toNat : Nat) : Int) = x by omega] at hE; rw [hE]; first | rfl | (congr 3; omega))
         ·omega
         ·exact A_n
         ·first | exact A_c | omega
         ·omega
        ·skip
         have hb69 : (decide (x ≤ 247)) = false := decide_eq_false h63
         refine st_pure (l := [9, 10, 11]) (rest := []) (L := [(73, .int .u64 x), (74, .bool (decide (x ≤ 247))), (75, .bool false)]) rfl (Eq.trans (b := some [(73, .int .u64 x), (74, .bool (decide (x ≤ 247))), (75, .bool (decide (x ≤ 247)))]) (by kernel_rfl) (by simp only [hb69])) ?_
         refine st_end ?_
         refine then_n ?_
         refine c_false (by kernel_rfl) ?_
         refine wp_skip ?_
         refine then_n ?_
         refine wp_seq ?_
         refine c_region (L := [0, 1, 2, 3, 4, 5, 6, 7, 8, 9, 10]) (by kernel_rfl) ?_
         refine st_pure (l := [0, 1, 2, 3]) (rest := [4, 5, 6, 7, 8, 9, 10]) (L := [(78, .pointer (some ⟨r, 0, none⟩)), (79, .pointer (some ⟨r, 0, none⟩)), (80, .pointer (some ⟨r, 0, none⟩)), (81, .pointer (some ⟨r, 0, none⟩))]) rfl (by kernel_rfl) ?_
         refine st_load (d := 82) (t := 23) (cs := _) (v := .slice A l.length cA) (by kernel_rfl) (hr.sub 0) (by kernel_rfl) ?_
         have hw70 : IntKind.wrap .i64 (1 + ((x18.toNat : Int) - 247)) = 1 + ((x18.toNat : Int) - 247) := wi64 (by omega) (by omega)
         refine st_pure (l := [5, 6]) (rest := [7, 8, 9, 10]) (L := [(83, .int .i64 ((x18.toNat : Int) - 247)), (84, .int .i64 (1 + ((x18.toNat : Int) - 247)))]) rfl (Eq.trans (b := some [(83, .int .i64 ((x18.toNat : Int) - 247)), (84, .int .i64 (IntKind.wrap .i64 (1 + ((x18.toNat : Int) - 247))))]) (by kernel_rfl) (by simp only [hw70])) ?_
         refine st_from (d := 85) (tn := 23) (e := 5) (t := tyU8) (A := A) (n := l.length) (c := cA) (lo := (.int .i64 (1 + ((x18.toNat : Int) - 247)))) (i' := 1 + ((x18.toNat : Int) - 247)) (l := l) (k := (1 + ((x18.toNat : Int) - 247)).toNat) (by kernel_rfl) Try.underlying23 (by kernel_rfl) rfl (by omega) (by omega) (by first | rfl | simp) (by first | exact A_c | omega) (A_n) hR rfl ?_
         intro A71 c72 hR73 A71_c A71_n
         have hR73_l := hR73.len; simp only [List.length_drop, List.length_take] at hR73_l
         refine st_pure (l := [8, 9]) (rest := [10]) (L := [(86, .pointer (some ⟨r, 0, none⟩)), (87, .pointer (some ⟨r, 0, none⟩))]) rfl (by kernel_rfl) ?_
         refine st_store (t := 23) (v := .slice A71 ((l.drop ((1 + ((x18.toNat : Int) - 247)).toNat)).length) c72) (o := 0) (C' := [.slice A71 ((l.drop ((1 + ((x18.toNat : Int) - 247)).toNat)).length) c72, .int .i64 e, .bool true]) (by kernel_rfl) hr (by kernel_rfl) ?_
         intro w74 m75 zm75 Nhr
         clear hr; have hr := Nhr; clear Nhr
         replace hR := hR.mod m75 (by intro k h1 h2 h3; (try simp only [Iv] at h3); omega)
         replace hA16 := hA16.mod m75 (by intro h3; (try simp only [Iv] at h3); omega)
         replace hA53 := hA53.mod m75 (by intro h3; (try simp only [Iv] at h3); omega)
         replace hR73 := hR73.mod m75 (by intro k h1 h2 h3; (try simp only [Iv] at h3); omega)
         replace HM := HM.trans m75 (by intro k h1 h3; (try simp only [Iv] at h3 ⊢); omega)
         have hszw74 := m75.size
         refine st_end ?_
         refine then_n ?_
         refine wp_seq ?_
         refine c_region (L := [0, 1]) (by kernel_rfl) ?_
         refine st_pure (l := [0, 1]) (rest := []) (L := [(88, .int .u64 x), (2, .int .u64 x)]) rfl (by kernel_rfl) ?_
         refine st_end ?_
         refine then_n ?_
         refine wp_ret ?_
         refine post_ret (v := .int .u64 x) (by kernel_rfl) ?_
         refine ⟨x, A71, c72, l.drop ((1 + ((x18.toNat : Int) - 247)).toNat), e, ?_, rfl, ?_, ?_, ?_, ?_, hr, hR73, HM⟩
         ·have he : e = 0 := by omega
          subst he
          have hE := rd1_end (l := l) (n := ((x18.toNat : Int) - 247).toNat) (v := x.toNat) (by omega) ex18 (by omega) (by omega) (by omega) ex55 (by have hi0 : i.toNat + 1 = 1 := (by omega); rw [hi0] at hx; rw [hx]; rfl)
          first
          | (rw [if_pos (by omega)] at hE; exact hE)
          | (rw [if_neg (by omega), show ((x.toNat : Nat) : Int) = x by omega] at hE; rw [hE]; first | rfl | (congr 3; omega))
         ·omega
         ·exact A71_n
         ·first | exact A71_c | omega
         ·omega

def cnt (l : List UInt8) (e : Int) (most : Int) : Int × List UInt8 × Int :=
 match rd1 l e with
 | (x1, l4, e5) =>
  if e5 ≠ 0 then
   (0, l4, e5)
  else
   if x1 > most then
    (0, l4, 3)
   else
    (x1, l4, e5)

theorem Reader_Count {w : World} {r : Nat} {A : Option Addr} {cA : Nat} {l : List UInt8} {e : Int} {lo : Nat} {hi : Nat} {most : Int} (hr : Blk w r 209 [.slice A l.length cA, .int .i64 e, .bool true]) (hR : RdA tyU8 w lo hi A l) (most_r : 0 ≤ most ∧ most ≤ 9223372036854775807) (A_n : A = none → cA = 0) (A_c : l.length ≤ cA) (e_r : -9223372036854775808 ≤ e ∧ e ≤ 9223372036854775807) (hR_hi : hi ≤ w.heap.size) (hsep : hi ≤ r ∨ r < lo) :
  Ret Try.prog 109 #[.pointer (some ⟨r, 0, none⟩), .int .i64 most] w fun v w' => ∃ x2 : Int, ∃ A2 : Option Addr, ∃ c2 : Nat, ∃ l2 : List UInt8, ∃ e2 : Int, cnt l e most = (x2, l2, e2) ∧ v = .int .i64 x2 ∧ (0 ≤ x2 ∧ x2 ≤ 9223372036854775807) ∧ (A2 = none → c2 = 0) ∧ (l2.length ≤ c2) ∧ (-9223372036854775808 ≤ e2 ∧ e2 ≤ 9223372036854775807) ∧ (x2 ≤ most) ∧ Blk w' r 209 [.slice A2 l2.length c2, .int .i64 e2, .bool true] ∧ RdA tyU8 w' lo hi A2 l2 ∧ Mod (fun k => k = r) w w' := by
 have lt_hr := hr.lt
 have hR_l := hR.len
 have HM : Mod (fun k => k = r) w w := Mod.refl _ w
 refine ret_of Try.func109 rfl rfl ?_
 refine wp_seq ?_
 refine c_region (L := [0]) (by kernel_rfl) ?_
 refine st_pure (l := [0]) (rest := []) (L := [(4, .int .i64 0)]) rfl (by kernel_rfl) ?_
 refine st_end ?_
 refine then_n ?_
 refine wp_seq ?_
 refine c_region (L := [0, 1, 2]) (by kernel_rfl) ?_
 refine st_pure (l := [0]) (rest := [1, 2]) (L := [(6, .pointer (some ⟨r, 0, none⟩))]) rfl (by kernel_rfl) ?_
 refine st_fn (d := 7) (f := 110) (xs := #[.pointer (some ⟨r, 0, none⟩)]) (R := _) (by kernel_rfl) (Reader_Number (w := w) (r := r) (A := A) (cA := cA) (l := l) (e := e) (lo := lo) (hi := hi) (hr := hr) (hR := hR) (A_n := A_n) (A_c := by first | exact A_c | omega) (e_r := by omega) (hR_hi := by omega) (hsep := by first | omega | (simp only [List.length_cons, List.length_nil, List.length_append, List.length_take, List.length_drop] at *; omega))) ?_
 rintro vw6 w6 ⟨x1, A2, c3, l4, e5, hsp7, rfl, x1_r, A2_n, A2_c, e5_r, hr_9, hR_10, m11⟩
 clear hr
 clear hR
 replace HM := HM.trans m11 (by intro k h1 h3; (try simp only [Iv] at h3 ⊢); omega)
 have hszw6 := m11.size
 have lt_hr_9 := hr_9.lt
 have hR_10_l := hR_10.len
 refine st_pure (l := [2]) (rest := []) (L := [(5, .int .u64 x1)]) rfl (by kernel_rfl) ?_
 refine st_end ?_
 refine then_n ?_
 refine wp_seq ?_
 refine wp_seq ?_
 refine c_region (L := [0, 1]) (by kernel_rfl) ?_
 refine st_pure (l := [0]) (rest := [1]) (L := [(8, .pointer (some ⟨r, 0, none⟩))]) rfl (by kernel_rfl) ?_
 refine st_fn (d := 9) (f := 164) (xs := #[.pointer (some ⟨r, 0, none⟩)]) (R := _) (by kernel_rfl) (Reader_dead (w := w6) (r := r) (A := A2) (cA := c3) (l := l4) (e := e5) (hr := hr_9) (A_n := A2_n) (A_c := by first | exact A2_c | omega) (e_r := by omega)) ?_
 rintro vw12 w12 ⟨hv13, m14⟩
 replace hr_9 := hr_9.mod m14 (fun q => q)
 replace hR_10 := hR_10.mod0 m14
 replace HM := HM.tr0 m14
 have hszw12 := m14.size
 by_cases h15 : e5 ≠ 0
 ·skip
  have hb16 : (decide (e5 ≠ 0)) = true := decide_eq_true h15
  rw [hb16] at hv13; subst hv13
  refine st_end ?_
  refine then_n ?_
  refine c_true (by kernel_rfl) ?_
  refine wp_seq ?_
  refine c_region (L := [0]) (by kernel_rfl) ?_
  refine st_pure (l := [0]) (rest := []) (L := [(4, .int .i64 0)]) rfl (by kernel_rfl) ?_
  refine st_end ?_
  refine then_n ?_
  refine wp_ret ?_
  refine then_r ?_
  refine post_ret (v := .int .i64 0) (by kernel_rfl) ?_
  refine ⟨0, A2, c3, l4, e5, ?_, rfl, ?_, ?_, ?_, ?_, ?_, hr_9, hR_10, HM⟩
  ·rw [cnt]
   try simp only [hsp7]
   rw [if_pos h15]
   all_goals (try rfl)
  ·omega
  ·exact A2_n
  ·first | exact A2_c | omega
  ·omega
  ·omega
 ·skip
  have hb17 : (decide (e5 ≠ 0)) = false := decide_eq_false h15
  rw [hb17] at hv13; subst hv13
  refine st_end ?_
  refine then_n ?_
  refine c_false (by kernel_rfl) ?_
  refine wp_skip ?_
  refine then_n ?_
  refine wp_seq ?_
  refine wp_seq ?_
  refine c_region (L := [0, 1, 2, 3, 4]) (by kernel_rfl) ?_
  have hx18 : (if most > 0 then most else 0) = most := by split <;> omega
  refine st_pure (l := [0, 1, 2]) (rest := [3, 4]) (L := [(10, .int .u64 x1), (11, .int .i64 most), (12, .int .i64 most)]) rfl (Eq.trans (b := some [(10, .int .u64 x1), (11, .int .i64 most), (12, .int .i64 (if most > 0 then most else 0))]) (by kernel_rfl) (by simp only [hx18])) ?_
  have hw19 : IntKind.wrap .u64 (most) = most := wu64 (by omega) (by omega)
  refine st_pure (l := [3]) (rest := [4]) (L := [(13, .int .u64 most)]) rfl (Eq.trans (b := some [(13, .int .u64 (IntKind.wrap .u64 (most)))]) (by kernel_rfl) (by simp only [hw19])) ?_
  by_cases h20 : x1 > most
  ·skip
   have hb21 : (decide (x1 > most)) = true := decide_eq_true h20
   refine st_pure (l := [4]) (rest := []) (L := [(14, .bool true)]) rfl (Eq.trans (b := some [(14, .bool (decide (x1 > most)))]) (by kernel_rfl) (by simp only [hb21])) ?_
   refine st_end ?_
   refine then_n ?_
   refine c_true (by kernel_rfl) ?_
   refine wp_seq ?_
   refine c_region (L := [0, 1]) (by kernel_rfl) ?_
   refine st_pure (l := [0]) (rest := [1]) (L := [(15, .pointer (some ⟨r, 0, none⟩))]) rfl (by kernel_rfl) ?_
   refine st_fn (d := 16) (f := 165) (xs := #[.pointer (some ⟨r, 0, none⟩), .int .i64 3]) (R := _) (by kernel_rfl) (Reader_fail (w := w12) (r := r) (A := A2) (cA := c3) (l := l4) (e := e5) (f := 3) (hr := hr_9) (f_r := by omega) (A_n := A2_n) (A_c := by first | exact A2_c | omega) (e_r := by omega)) ?_
   rintro vw22 w22 ⟨rfl, hr_24, m25⟩
   clear hr_9
   replace hR_10 := hR_10.mod m25 (by intro k h1 h2 h3; (try simp only [Iv] at h3); omega)
   replace HM := HM.trans m25 (by intro k h1 h3; (try simp only [Iv] at h3 ⊢); omega)
   have hszw22 := m25.size
   have lt_hr_24 := hr_24.lt
   refine st_end ?_
   refine then_n ?_
   refine wp_seq ?_
   refine c_region (L := [0]) (by kernel_rfl) ?_
   refine st_pure (l := [0]) (rest := []) (L := [(4, .int .i64 0)]) rfl (by kernel_rfl) ?_
   refine st_end ?_
   refine then_n ?_
   refine wp_ret ?_
   refine then_r ?_
   refine post_ret (v := .int .i64 0) (by kernel_rfl) ?_
   refine ⟨0, A2, c3, l4, 3, ?_, rfl, ?_, ?_, ?_, ?_, ?_, hr_24, hR_10, HM⟩
   ·rw [cnt]
    try simp only [hsp7]
    rw [if_neg h15, if_pos h20]
    all_goals (try rfl)
   ·omega
   ·exact A2_n
   ·first | exact A2_c | omega
   ·omega
   ·omega
  ·skip
   have hb26 : (decide (x1 > most)) = false := decide_eq_false h20
   refine st_pure (l := [4]) (rest := []) (L := [(14, .bool false)]) rfl (Eq.trans (b := some [(14, .bool (decide (x1 > most)))]) (by kernel_rfl) (by simp only [hb26])) ?_
   refine st_end ?_
   refine then_n ?_
   refine c_false (by kernel_rfl) ?_
   refine wp_skip ?_
   refine then_n ?_
   refine wp_seq ?_
   refine c_region (L := [0, 1, 2]) (by kernel_rfl) ?_
   have hw27 : IntKind.wrap .i64 (x1) = x1 := wi64 (by omega) (by omega)
   refine st_pure (l := [0, 1]) (rest := [2]) (L := [(17, .int .u64 x1), (18, .int .i64 x1)]) rfl (Eq.trans (b := some [(17, .int .u64 x1), (18, .int .i64 (IntKind.wrap .i64 (x1)))]) (by kernel_rfl) (by simp only [hw27])) ?_
   refine st_pure (l := [2]) (rest := []) (L := [(4, .int .i64 x1)]) rfl (by kernel_rfl) ?_
   refine st_end ?_
   refine then_n ?_
   refine wp_ret ?_
   refine post_ret (v := .int .i64 x1) (by kernel_rfl) ?_
   refine ⟨x1, A2, c3, l4, e5, ?_, rfl, ?_, ?_, ?_, ?_, ?_, hr_9, hR_10, HM⟩
   ·rw [cnt]
    try simp only [hsp7]
    rw [if_neg h15, if_neg h20]
    all_goals (try rfl)
   ·omega
   ·exact A2_n
   ·first | exact A2_c | omega
   ·omega
   ·omega

def blk (l : List UInt8) (e : Int) : List UInt8 × List UInt8 × Int :=
 match rd1 l e with
 | (x1, l4, e5) =>
  if e5 ≠ 0 then
   ([], l4, e5)
  else
   if x1 > 1048576 then
    ([], l4, 3)
   else
    if (l4.length : Int) < x1 then
     ([], l4, 5)
    else
     ([] ++ l4.take x1.toNat, l4.drop x1.toNat, e5)

theorem Reader_Block {w : World} {r : Nat} {A : Option Addr} {cA : Nat} {l : List UInt8} {e : Int} {lo : Nat} {hi : Nat} (hr : Blk w r 209 [.slice A l.length cA, .int .i64 e, .bool true]) (hR : RdA tyU8 w lo hi A l) (A_n : A = none → cA = 0) (A_c : l.length ≤ cA) (e_r : -9223372036854775808 ≤ e ∧ e ≤ 9223372036854775807) (hR_hi : hi ≤ w.heap.size) (hsep : hi ≤ r ∨ r < lo) :
  Ret Try.prog 112 #[.pointer (some ⟨r, 0, none⟩)] w fun v w' => ∃ p : List UInt8, ∃ A3 : Option Addr, ∃ c3 : Nat, ∃ A2 : Option Addr, ∃ c2 : Nat, ∃ l2 : List UInt8, ∃ e2 : Int, blk l e = (p, l2, e2) ∧ v = .slice A3 p.length c3 ∧ (A3 = none → c3 = 0) ∧ (p.length ≤ c3) ∧ (A2 = none → c2 = 0) ∧ (l2.length ≤ c2) ∧ (-9223372036854775808 ≤ e2 ∧ e2 ≤ 9223372036854775807) ∧ Blk w' r 209 [.slice A2 l2.length c2, .int .i64 e2, .bool true] ∧ RdA tyU8 w' lo hi A2 l2 ∧ RdA tyU8 w' (w.heap.size) (w'.heap.size) A3 p ∧ Mod (fun k => k = r) w w' := by
 have lt_hr := hr.lt
 have hR_l := hR.len
 have HM : Mod (fun k => k = r) w w := Mod.refl _ w
 refine ret_of Try.func112 rfl rfl ?_
 refine wp_seq ?_
 refine c_region (L := [0]) (by kernel_rfl) ?_
 refine st_pure (l := [0]) (rest := []) (L := [(2, .slice none 0 0)]) rfl (by kernel_rfl) ?_
 refine st_end ?_
 refine then_n ?_
 refine wp_seq ?_
 refine c_region (L := [0, 1, 2]) (by kernel_rfl) ?_
 refine st_pure (l := [0]) (rest := [1, 2]) (L := [(5, .pointer (some ⟨r, 0, none⟩))]) rfl (by kernel_rfl) ?_
 refine st_fn (d := 6) (f := 110) (xs := #[.pointer (some ⟨r, 0, none⟩)]) (R := _) (by kernel_rfl) (Reader_Number (w := w) (r := r) (A := A) (cA := cA) (l := l) (e := e) (lo := lo) (hi := hi) (hr := hr) (hR := hR) (A_n := A_n) (A_c := by first | exact A_c | omega) (e_r := by omega) (hR_hi := by omega) (hsep := by first | omega | (simp only [List.length_cons, List.length_nil, List.length_append, List.length_take, List.length_drop] at *; omega))) ?_
 rintro vw6 w6 ⟨x1, A2, c3, l4, e5, hsp7, rfl, x1_r, A2_n, A2_c, e5_r, hr_9, hR_10, m11⟩
 clear hr
 clear hR
 replace HM := HM.trans m11 (by intro k h1 h3; (try simp only [Iv] at h3 ⊢); omega)
 have hszw6 := m11.size
 have lt_hr_9 := hr_9.lt
 have hR_10_l := hR_10.len
 refine st_pure (l := [2]) (rest := []) (L := [(3, .int .u64 x1)]) rfl (by kernel_rfl) ?_
 refine st_end ?_
 refine then_n ?_
 refine wp_seq ?_
 refine wp_block ?_
 refine wp_seq ?_
 refine c_region (L := [0, 1, 2]) (by kernel_rfl) ?_
 refine st_pure (l := [0]) (rest := [1, 2]) (L := [(8, .pointer (some ⟨r, 0, none⟩))]) rfl (by kernel_rfl) ?_
 refine st_fn (d := 9) (f := 164) (xs := #[.pointer (some ⟨r, 0, none⟩)]) (R := _) (by kernel_rfl) (Reader_dead (w := w6) (r := r) (A := A2) (cA := c3) (l := l4) (e := e5) (hr := hr_9) (A_n := A2_n) (A_c := by first | exact A2_c | omega) (e_r := by omega)) ?_
 rintro vw12 w12 ⟨rfl, m14⟩
 replace hr_9 := hr_9.mod m14 (fun q => q)
 replace hR_10 := hR_10.mod0 m14
 replace HM := HM.tr0 m14
 have hszw12 := m14.size
 by_cases h15 : e5 ≠ 0
 ·skip
  have hb16 : (decide (e5 ≠ 0)) = true := decide_eq_true h15
  refine st_pure (l := [2]) (rest := []) (L := [(7, .bool true)]) rfl (Eq.trans (b := some [(7, .bool (decide (e5 ≠ 0)))]) (by kernel_rfl) (by simp only [hb16])) ?_
  refine st_end ?_
  refine then_n ?_
  refine c_true (by kernel_rfl) ?_
  refine wp_seq ?_
  refine c_region (L := [0]) (by kernel_rfl) ?_
  refine st_pure (l := [0]) (rest := []) (L := [(2, .slice none 0 0)]) rfl (by kernel_rfl) ?_
  refine st_end ?_
  refine then_n ?_
  refine wp_ret ?_
  refine blk_r ?_
  refine then_r ?_
  refine post_ret (v := .slice none 0 0) (by kernel_rfl) ?_
  refine ⟨[], none, 0, A2, c3, l4, e5, ?_, rfl, ?_, ?_, ?_, ?_, ?_, hr_9, hR_10, RdA.nil, HM⟩
  ·rw [blk]
   try simp only [hsp7]
   rw [if_pos h15]
   all_goals (try rfl)
  ·exact fun _ => rfl
  ·simp
  ·exact A2_n
  ·first | exact A2_c | omega
  ·omega
 ·skip
  have hb17 : (decide (e5 ≠ 0)) = false := decide_eq_false h15
  refine st_pure (l := [2]) (rest := []) (L := [(7, .bool false)]) rfl (Eq.trans (b := some [(7, .bool (decide (e5 ≠ 0)))]) (by kernel_rfl) (by simp only [hb17])) ?_
  refine st_end ?_
  refine then_n ?_
  refine c_false (by kernel_rfl) ?_
  refine wp_seq ?_
  refine c_region (L := [0, 1, 2]) (by kernel_rfl) ?_
  by_cases h18 : x1 > 1048576
  ·skip
   have hb19 : (decide (x1 > 1048576)) = true := decide_eq_true h18
   refine st_pure (l := [0, 1, 2]) (rest := []) (L := [(11, .int .u64 x1), (12, .bool (decide (x1 > 1048576))), (10, .bool true)]) rfl (Eq.trans (b := some [(11, .int .u64 x1), (12, .bool (decide (x1 > 1048576))), (10, .bool (decide (x1 > 1048576)))]) (by kernel_rfl) (by simp only [hb19])) ?_
   refine st_end ?_
   refine then_n ?_
   refine c_true (by kernel_rfl) ?_
   refine wp_seq ?_
   refine c_region (L := [0, 1]) (by kernel_rfl) ?_
   refine st_pure (l := [0]) (rest := [1]) (L := [(13, .pointer (some ⟨r, 0, none⟩))]) rfl (by kernel_rfl) ?_
   refine st_fn (d := 14) (f := 165) (xs := #[.pointer (some ⟨r, 0, none⟩), .int .i64 3]) (R := _) (by kernel_rfl) (Reader_fail (w := w12) (r := r) (A := A2) (cA := c3) (l := l4) (e := e5) (f := 3) (hr := hr_9) (f_r := by omega) (A_n := A2_n) (A_c := by first | exact A2_c | omega) (e_r := by omega)) ?_
   rintro vw20 w20 ⟨rfl, hr_22, m23⟩
   clear hr_9
   replace hR_10 := hR_10.mod m23 (by intro k h1 h2 h3; (try simp only [Iv] at h3); omega)
   replace HM := HM.trans m23 (by intro k h1 h3; (try simp only [Iv] at h3 ⊢); omega)
   have hszw20 := m23.size
   have lt_hr_22 := hr_22.lt
   refine st_end ?_
   refine then_n ?_
   refine wp_seq ?_
   refine c_region (L := [0]) (by kernel_rfl) ?_
   refine st_pure (l := [0]) (rest := []) (L := [(2, .slice none 0 0)]) rfl (by kernel_rfl) ?_
   refine st_end ?_
   refine then_n ?_
   refine wp_ret ?_
   refine blk_r ?_
   refine then_r ?_
   refine post_ret (v := .slice none 0 0) (by kernel_rfl) ?_
   refine ⟨[], none, 0, A2, c3, l4, 3, ?_, rfl, ?_, ?_, ?_, ?_, ?_, hr_22, hR_10, RdA.nil, HM⟩
   ·rw [blk]
    try simp only [hsp7]
    rw [if_neg h15, if_pos h18]
    all_goals (try rfl)
   ·exact fun _ => rfl
   ·simp
   ·exact A2_n
   ·first | exact A2_c | omega
   ·omega
  ·skip
   have hb24 : (decide (x1 > 1048576)) = false := decide_eq_false h18
   refine st_pure (l := [0, 1, 2]) (rest := []) (L := [(11, .int .u64 x1), (12, .bool (decide (x1 > 1048576))), (10, .bool false)]) rfl (Eq.trans (b := some [(11, .int .u64 x1), (12, .bool (decide (x1 > 1048576))), (10, .bool (decide (x1 > 1048576)))]) (by kernel_rfl) (by simp only [hb24])) ?_
   refine st_end ?_
   refine then_n ?_
   refine c_false (by kernel_rfl) ?_
   refine wp_seq ?_
   refine c_region (L := [0, 1, 2, 3, 4, 5, 6, 7, 8]) (by kernel_rfl) ?_
   refine st_pure (l := [0, 1, 2]) (rest := [3, 4, 5, 6, 7, 8]) (L := [(16, .pointer (some ⟨r, 0, none⟩)), (17, .pointer (some ⟨r, 0, none⟩)), (18, .pointer (some ⟨r, 0, none⟩))]) rfl (by kernel_rfl) ?_
   refine st_load (d := 19) (t := 23) (cs := _) (v := .slice A2 l4.length c3) (by kernel_rfl) (hr_9.sub 0) (by kernel_rfl) ?_
   have hw25 : IntKind.wrap .u64 ((l4.length : Int)) = (l4.length : Int) := wu64 (by omega) (by omega)
   refine st_pure (l := [4, 5]) (rest := [6, 7, 8]) (L := [(20, .int .i64 (l4.length : Int)), (21, .int .u64 (l4.length : Int))]) rfl (Eq.trans (b := some [(20, .int .i64 (l4.length : Int)), (21, .int .u64 (IntKind.wrap .u64 ((l4.length : Int))))]) (by kernel_rfl) (by simp only [hw25])) ?_
   by_cases h26 : (l4.length : Int) < x1
   ·skip
    have hb27 : (decide ((l4.length : Int) < x1)) = true := decide_eq_true h26
    refine st_pure (l := [6, 7, 8]) (rest := []) (L := [(22, .int .u64 x1), (23, .bool (decide ((l4.length : Int) < x1))), (15, .bool true)]) rfl (Eq.trans (b := some [(22, .int .u64 x1), (23, .bool (decide ((l4.length : Int) < x1))), (15, .bool (decide ((l4.length : Int) < x1)))]) (by kernel_rfl) (by simp only [hb27])) ?_
    refine st_end ?_
    refine then_n ?_
    refine c_true (by kernel_rfl) ?_
    refine wp_seq ?_
    refine c_region (L := [0, 1]) (by kernel_rfl) ?_
    refine st_pure (l := [0]) (rest := [1]) (L := [(24, .pointer (some ⟨r, 0, none⟩))]) rfl (by kernel_rfl) ?_
    refine st_fn (d := 25) (f := 165) (xs := #[.pointer (some ⟨r, 0, none⟩), .int .i64 5]) (R := _) (by kernel_rfl) (Reader_fail (w := w12) (r := r) (A := A2) (cA := c3) (l := l4) (e := e5) (f := 5) (hr := hr_9) (f_r := by omega) (A_n := A2_n) (A_c := by first | exact A2_c | omega) (e_r := by omega)) ?_
    rintro vw28 w28 ⟨rfl, hr_30, m31⟩
    clear hr_9
    replace hR_10 := hR_10.mod m31 (by intro k h1 h2 h3; (try simp only [Iv] at h3); omega)
    replace HM := HM.trans m31 (by intro k h1 h3; (try simp only [Iv] at h3 ⊢); omega)
    have hszw28 := m31.size
    have lt_hr_30 := hr_30.lt
    refine st_end ?_
    refine then_n ?_
    refine wp_seq ?_
    refine c_region (L := [0]) (by kernel_rfl) ?_
    refine st_pure (l := [0]) (rest := []) (L := [(2, .slice none 0 0)]) rfl (by kernel_rfl) ?_
    refine st_end ?_
    refine then_n ?_
    refine wp_ret ?_
    refine blk_r ?_
    refine then_r ?_
    refine post_ret (v := .slice none 0 0) (by kernel_rfl) ?_
    refine ⟨[], none, 0, A2, c3, l4, 5, ?_, rfl, ?_, ?_, ?_, ?_, ?_, hr_30, hR_10, RdA.nil, HM⟩
    ·rw [blk]
     try simp only [hsp7]
     rw [if_neg h15, if_neg h18, if_pos h26]
     all_goals (try rfl)
    ·exact fun _ => rfl
    ·simp
    ·exact A2_n
    ·first | exact A2_c | omega
    ·omega
   ·skip
    have hb32 : (decide ((l4.length : Int) < x1)) = false := decide_eq_false h26
    refine st_pure (l := [6, 7, 8]) (rest := []) (L := [(22, .int .u64 x1), (23, .bool (decide ((l4.length : Int) < x1))), (15, .bool false)]) rfl (Eq.trans (b := some [(22, .int .u64 x1), (23, .bool (decide ((l4.length : Int) < x1))), (15, .bool (decide ((l4.length : Int) < x1)))]) (by kernel_rfl) (by simp only [hb32])) ?_
    refine st_end ?_
    refine then_n ?_
    refine c_false (by kernel_rfl) ?_
    refine wp_skip ?_
    refine blk_n ?_
    refine then_n ?_
    refine wp_seq ?_
    refine c_region (L := [0, 1, 2, 3, 4, 5, 6, 7, 8]) (by kernel_rfl) ?_
    refine st_new (d := 26) (e := 5) (C := []) (V := fun r => .slice (some ⟨r, 0, none⟩) 0 0) (by kernel_rfl) ?_
    intro b33 w34 m35 lb33 ub33 hB36
    replace hr_9 := hr_9.mod m35 (fun q => q)
    replace hR_10 := hR_10.mod0 m35
    replace HM := HM.tr0 m35
    have hszw34 := m35.size
    refine st_pure (l := [1, 2, 3]) (rest := [4, 5, 6, 7, 8]) (L := [(27, .pointer (some ⟨r, 0, none⟩)), (28, .pointer (some ⟨r, 0, none⟩)), (29, .pointer (some ⟨r, 0, none⟩))]) rfl (by kernel_rfl) ?_
    refine st_load (d := 30) (t := 23) (cs := _) (v := .slice A2 l4.length c3) (by kernel_rfl) (hr_9.sub 0) (by kernel_rfl) ?_
    refine st_pure (l := [5]) (rest := [6, 7, 8]) (L := [(31, .int .u64 x1)]) rfl (by kernel_rfl) ?_
    refine st_upto (d := 32) (tn := 23) (e := 5) (t := tyU8) (A := A2) (n := l4.length) (c := c3) (hi := (.int .u64 x1)) (j := x1) (l := l4) (k := x1.toNat) (by kernel_rfl) Try.underlying23 (by kernel_rfl) rfl (by omega) (by omega) (by first | rfl | simp) (by first | exact A2_c | omega) (A2_n) hR_10 rfl ?_
    intro A37 c38 hR39 A37_c A37_n
    have hR39_l := hR39.len; simp only [List.length_drop, List.length_take] at hR39_l
    refine st_append (d := 33) (tn := 23) (e := 5) (ty := 23) (t := tyU8) (v := .slice (some ⟨b33, 0, none⟩) 0 0) (A := A37) (n := (l4.take x1.toNat).length) (c := c38) (l := []) (m := l4.take x1.toNat) (z := .int .u8 0) (bytes := 1) (by kernel_rfl) Try.underlying23 (by kernel_rfl) rfl (by decide) (Blk.own (t := tyU8) (l := []) hB36 rfl (by simp) b33 (b33 + 1) (Nat.le_refl _) (by omega)) hR39 (by simp) (by simp only [List.length_append, List.length_cons, List.length_nil, List.length_take, List.length_drop] at *; omega) (by omega) A37_n ?_
    intro v40 w41 m42 hO43
    clear hB36
    replace hr_9 := hr_9.mod m42 (by intro h3; (try simp only [Iv] at h3); omega)
    replace hR_10 := hR_10.mod m42 (by intro k h1 h2 h3; (try simp only [Iv] at h3); omega)
    replace hR39 := hR39.mod m42 (by intro k h1 h2 h3; (try simp only [Iv] at h3); omega)
    replace HM := HM.trans m42 (by intro k h1 h3; (try simp only [Iv] at h3 ⊢); omega)
    have hszw41 := m42.size
    obtain ⟨A44, c45, rfl, A44_c, A44_n, hR47⟩ := hO43.rd
    have hR47_l := hR47.len
    refine st_pure (l := [8]) (rest := []) (L := [(4, .slice A44 (([] ++ l4.take x1.toNat).length) c45)]) rfl (by kernel_rfl) ?_
    refine st_end ?_
    refine then_n ?_
    refine wp_seq ?_
    refine c_region (L := [0, 1, 2, 3, 4, 5, 6, 7, 8, 9]) (by kernel_rfl) ?_
    refine st_pure (l := [0, 1, 2, 3]) (rest := [4, 5, 6, 7, 8, 9]) (L := [(34, .pointer (some ⟨r, 0, none⟩)), (35, .pointer (some ⟨r, 0, none⟩)), (36, .pointer (some ⟨r, 0, none⟩)), (37, .pointer (some ⟨r, 0, none⟩))]) rfl (by kernel_rfl) ?_
    refine st_load (d := 38) (t := 23) (cs := _) (v := .slice A2 l4.length c3) (by kernel_rfl) (hr_9.sub 0) (by kernel_rfl) ?_
    refine st_pure (l := [5]) (rest := [6, 7, 8, 9]) (L := [(39, .int .u64 x1)]) rfl (by kernel_rfl) ?_
    refine st_from (d := 40) (tn := 23) (e := 5) (t := tyU8) (A := A2) (n := l4.length) (c := c3) (lo := (.int .u64 x1)) (i' := x1) (l := l4) (k := x1.toNat) (by kernel_rfl) Try.underlying23 (by kernel_rfl) rfl (by omega) (by omega) (by first | rfl | simp) (by first | exact A2_c | omega) (A2_n) hR_10 rfl ?_
    intro A48 c49 hR50 A48_c A48_n
    have hR50_l := hR50.len; simp only [List.length_drop, List.length_take] at hR50_l
    refine st_pure (l := [7, 8]) (rest := [9]) (L := [(41, .pointer (some ⟨r, 0, none⟩)), (42, .pointer (some ⟨r, 0, none⟩))]) rfl (by kernel_rfl) ?_
    refine st_store (t := 23) (v := .slice A48 ((l4.drop x1.toNat).length) c49) (o := 0) (C' := [.slice A48 ((l4.drop x1.toNat).length) c49, .int .i64 e5, .bool true]) (by kernel_rfl) hr_9 (by kernel_rfl) ?_
    intro w51 m52 zm52 Nhr_9
    clear hr_9; have hr_9 := Nhr_9; clear Nhr_9
    replace hR_10 := hR_10.mod m52 (by intro k h1 h2 h3; (try simp only [Iv] at h3); omega)
    replace hR39 := hR39.mod m52 (by intro k h1 h2 h3; (try simp only [Iv] at h3); omega)
    replace hO43 := hO43.mod m52 (by intro k h1 h2 h3; (try simp only [Iv] at h3); omega)
    replace hR47 := hR47.mod m52 (by intro k h1 h2 h3; (try simp only [Iv] at h3); omega)
    replace hR50 := hR50.mod m52 (by intro k h1 h2 h3; (try simp only [Iv] at h3); omega)
    replace HM := HM.trans m52 (by intro k h1 h3; (try simp only [Iv] at h3 ⊢); omega)
    have hszw51 := m52.size
    refine st_end ?_
    refine then_n ?_
    refine wp_seq ?_
    refine c_region (L := [0, 1]) (by kernel_rfl) ?_
    refine st_pure (l := [0, 1]) (rest := []) (L := [(43, .slice A44 (([] ++ l4.take x1.toNat).length) c45), (2, .slice A44 (([] ++ l4.take x1.toNat).length) c45)]) rfl (by kernel_rfl) ?_
    refine st_end ?_
    refine then_n ?_
    refine wp_ret ?_
    refine post_ret (v := .slice A44 (([] ++ l4.take x1.toNat).length) c45) (by kernel_rfl) ?_
    refine ⟨[] ++ l4.take x1.toNat, A44, c45, A48, c49, l4.drop x1.toNat, e5, ?_, rfl, ?_, ?_, ?_, ?_, ?_, hr_9, hR50, (hR47.wide (by omega) (by omega)), HM⟩
    ·rw [blk]
     try simp only [hsp7]
     rw [if_neg h15, if_neg h18, if_neg h26]
     all_goals (try rfl)
    ·exact A44_n
    ·first | exact A44_c | omega
    ·exact A48_n
    ·first | exact A48_c | omega
    ·omega

def rend (l : List UInt8) (e : Int) : Int :=
 if e ≠ 0 then
  e
 else
  if (l.length : Int) > 0 then
   4
  else
   e

theorem Reader_End {w : World} {r : Nat} {A : Option Addr} {cA : Nat} {l : List UInt8} {e : Int} (hr : Blk w r 209 [.slice A l.length cA, .int .i64 e, .bool true]) (A_n : A = none → cA = 0) (A_c : l.length ≤ cA) (e_r : -9223372036854775808 ≤ e ∧ e ≤ 9223372036854775807) :
  Ret Try.prog 113 #[.pointer (some ⟨r, 0, none⟩)] w fun v w' => ∃ e2 : Int, rend l e = e2 ∧ v = .int .i64 e2 ∧ (-9223372036854775808 ≤ e2 ∧ e2 ≤ 9223372036854775807) ∧ Blk w' r 209 [.slice A l.length cA, .int .i64 e2, .bool true] ∧ Mod (fun k => k = r) w w' := by
 have lt_hr := hr.lt
 have HM : Mod (fun k => k = r) w w := Mod.refl _ w
 refine ret_of Try.func113 rfl rfl ?_
 refine wp_seq ?_
 refine c_region (L := [0]) (by kernel_rfl) ?_
 refine st_pure (l := [0]) (rest := []) (L := [(2, .int .i64 0)]) rfl (by kernel_rfl) ?_
 refine st_end ?_
 refine then_n ?_
 refine wp_seq ?_
 refine wp_seq ?_
 refine c_region (L := [0, 1, 2]) (by kernel_rfl) ?_
 refine st_pure (l := [0]) (rest := [1, 2]) (L := [(4, .pointer (some ⟨r, 0, none⟩))]) rfl (by kernel_rfl) ?_
 refine st_fn (d := 5) (f := 147) (xs := #[.pointer (some ⟨r, 0, none⟩)]) (R := _) (by kernel_rfl) (Reader_Err (w := w) (r := r) (A := A) (cA := cA) (l := l) (e := e) (hr := hr) (A_n := A_n) (A_c := by first | exact A_c | omega) (e_r := by omega)) ?_
 rintro vw1 w1 ⟨rfl, m3⟩
 replace hr := hr.mod m3 (fun q => q)
 replace HM := HM.tr0 m3
 have hszw1 := m3.size
 refine st_pure (l := [2]) (rest := []) (L := [(3, .int .i64 e)]) rfl (by kernel_rfl) ?_
 refine st_end ?_
 refine then_n ?_
 refine wp_seq ?_
 refine c_region (L := [0, 1]) (by kernel_rfl) ?_
 by_cases h4 : e ≠ 0
 ·skip
  have hb5 : (e != 0) = true := by first | (rw [bne_iff_ne]; exact h4) | (rw [bne_eq_false_iff_eq]; omega)
  refine st_pure (l := [0, 1]) (rest := []) (L := [(6, .int .i64 e), (7, .bool true)]) rfl (Eq.trans (b := some [(6, .int .i64 e), (7, .bool (e != 0))]) (by kernel_rfl) (by simp only [hb5])) ?_
  refine st_end ?_
  refine then_n ?_
  refine c_true (by kernel_rfl) ?_
  refine wp_seq ?_
  refine c_region (L := [0, 1]) (by kernel_rfl) ?_
  refine st_pure (l := [0, 1]) (rest := []) (L := [(8, .int .i64 e), (2, .int .i64 e)]) rfl (by kernel_rfl) ?_
  refine st_end ?_
  refine then_n ?_
  refine wp_ret ?_
  refine then_r ?_
  refine post_ret (v := .int .i64 e) (by kernel_rfl) ?_
  refine ⟨e, ?_, rfl, ?_, hr, HM⟩
  ·rw [rend, if_pos h4]
   all_goals (try rfl)
  ·omega
 ·skip
  have hb6 : (e != 0) = false := by rw [bne_eq_false_iff_eq]; exact Decidable.not_not.1 h4
  refine st_pure (l := [0, 1]) (rest := []) (L := [(6, .int .i64 e), (7, .bool false)]) rfl (Eq.trans (b := some [(6, .int .i64 e), (7, .bool (e != 0))]) (by kernel_rfl) (by simp only [hb6])) ?_
  refine st_end ?_
  refine then_n ?_
  refine c_false (by kernel_rfl) ?_
  refine wp_skip ?_
  refine then_n ?_
  refine wp_seq ?_
  refine wp_seq ?_
  refine c_region (L := [0, 1, 2, 3, 4, 5]) (by kernel_rfl) ?_
  refine st_pure (l := [0, 1, 2]) (rest := [3, 4, 5]) (L := [(9, .pointer (some ⟨r, 0, none⟩)), (10, .pointer (some ⟨r, 0, none⟩)), (11, .pointer (some ⟨r, 0, none⟩))]) rfl (by kernel_rfl) ?_
  refine st_load (d := 12) (t := 23) (cs := _) (v := .slice A l.length cA) (by kernel_rfl) (hr.sub 0) (by kernel_rfl) ?_
  by_cases h7 : (l.length : Int) > 0
  ·skip
   have hb8 : (decide ((l.length : Int) > 0)) = true := decide_eq_true h7
   refine st_pure (l := [4, 5]) (rest := []) (L := [(13, .int .i64 (l.length : Int)), (14, .bool true)]) rfl (Eq.trans (b := some [(13, .int .i64 (l.length : Int)), (14, .bool (decide ((l.length : Int) > 0)))]) (by kernel_rfl) (by simp only [hb8])) ?_
   refine st_end ?_
   refine then_n ?_
   refine c_true (by kernel_rfl) ?_
   refine c_region (L := [0, 1, 2, 3]) (by kernel_rfl) ?_
   refine st_pure (l := [0, 1, 2]) (rest := [3]) (L := [(15, .pointer (some ⟨r, 0, none⟩)), (16, .pointer (some ⟨r, 0, none⟩)), (17, .pointer (some ⟨r, 1, none⟩))]) rfl (by kernel_rfl) ?_
   refine st_store (t := 26) (v := .int .i64 4) (o := 1) (C' := [.slice A l.length cA, .int .i64 4, .bool true]) (by kernel_rfl) hr (by kernel_rfl) ?_
   intro w9 m10 zm10 Nhr
   clear hr; have hr := Nhr; clear Nhr
   replace HM := HM.trans m10 (by intro k h1 h3; (try simp only [Iv] at h3 ⊢); omega)
   have hszw9 := m10.size
   refine st_end ?_
   refine then_n ?_
   refine wp_seq ?_
   refine c_region (L := [0, 1, 2, 3, 4]) (by kernel_rfl) ?_
   refine st_pure (l := [0, 1, 2]) (rest := [3, 4]) (L := [(18, .pointer (some ⟨r, 0, none⟩)), (19, .pointer (some ⟨r, 0, none⟩)), (20, .pointer (some ⟨r, 1, none⟩))]) rfl (by kernel_rfl) ?_
   refine st_load (d := 21) (t := 26) (cs := _) (v := .int .i64 4) (by kernel_rfl) (hr.sub 1) (by kernel_rfl) ?_
   refine st_pure (l := [4]) (rest := []) (L := [(2, .int .i64 4)]) rfl (by kernel_rfl) ?_
   refine st_end ?_
   refine then_n ?_
   refine wp_ret ?_
   refine post_ret (v := .int .i64 4) (by kernel_rfl) ?_
   refine ⟨4, ?_, rfl, ?_, hr, HM⟩
   ·rw [rend, if_neg h4, if_pos h7]
    all_goals (try rfl)
   ·omega
  ·skip
   have hb11 : (decide ((l.length : Int) > 0)) = false := decide_eq_false h7
   refine st_pure (l := [4, 5]) (rest := []) (L := [(13, .int .i64 (l.length : Int)), (14, .bool false)]) rfl (Eq.trans (b := some [(13, .int .i64 (l.length : Int)), (14, .bool (decide ((l.length : Int) > 0)))]) (by kernel_rfl) (by simp only [hb11])) ?_
   refine st_end ?_
   refine then_n ?_
   refine c_false (by kernel_rfl) ?_
   refine wp_skip ?_
   refine then_n ?_
   refine wp_seq ?_
   refine c_region (L := [0, 1, 2, 3, 4]) (by kernel_rfl) ?_
   refine st_pure (l := [0, 1, 2]) (rest := [3, 4]) (L := [(18, .pointer (some ⟨r, 0, none⟩)), (19, .pointer (some ⟨r, 0, none⟩)), (20, .pointer (some ⟨r, 1, none⟩))]) rfl (by kernel_rfl) ?_
   refine st_load (d := 21) (t := 26) (cs := _) (v := .int .i64 e) (by kernel_rfl) (hr.sub 1) (by kernel_rfl) ?_
   refine st_pure (l := [4]) (rest := []) (L := [(2, .int .i64 e)]) rfl (by kernel_rfl) ?_
   refine st_end ?_
   refine then_n ?_
   refine wp_ret ?_
   refine post_ret (v := .int .i64 e) (by kernel_rfl) ?_
   refine ⟨e, ?_, rfl, ?_, hr, HM⟩
   ·rw [rend, if_neg h4, if_neg h7]
    all_goals (try rfl)
   ·omega

def blockOf (l : List UInt8) (m : List UInt8) : List UInt8 × Int :=
 if (m.length : Int) > 1048576 then
  ([], 3)
 else
  ((l ++ num (m.length : Int).toNat) ++ m, 0)

theorem Block {w : World} {A : Option Addr} {cA : Nat} {l : List UInt8} {lo : Nat} {hi : Nat} {B : Option Addr} {cB : Nat} {m : List UInt8} {lo' : Nat} {hi' : Nat} (hl : RdA tyU8 w lo hi A l) (hm : RdA tyU8 w lo' hi' B m) (A_n : A = none → cA = 0) (A_c : l.length ≤ cA) (B_n : B = none → cB = 0) (B_c : m.length ≤ cB) (hl_hi : hi ≤ w.heap.size) (hm_hi : hi' ≤ w.heap.size) (hll : l.length + m.length ≤ 140737488340000) :
  Ret Try.prog 115 #[.slice A l.length cA, .slice B m.length cB] w fun v w' => ∃ l2 : List UInt8, ∃ e2 : Int, ∃ A2 : Option Addr, ∃ c2 : Nat, blockOf l m = (l2, e2) ∧ v = .tuple #[.slice A2 l2.length c2, .int .i64 e2] ∧ (A2 = none → c2 = 0) ∧ (l2.length ≤ c2) ∧ (-9223372036854775808 ≤ e2 ∧ e2 ≤ 9223372036854775807) ∧ (l2.length ≤ l.length + m.length + 9) ∧ Own tyU8 5 w' (w.heap.size) (w'.heap.size) (.slice A2 l2.length c2) l2 ∧ RdA tyU8 w' (w.heap.size) (w'.heap.size) A2 l2 ∧ Mod (Nil) w w' := by
 have hl_l := hl.len
 have hm_l := hm.len
 have HM : Mod (Nil) w w := Mod.refl _ w
 refine ret_of Try.func115 rfl rfl ?_
 refine wp_seq ?_
 refine c_region (L := [0, 1]) (by kernel_rfl) ?_
 refine st_pure (l := [0, 1]) (rest := []) (L := [(4, .slice none 0 0), (5, .int .i64 0)]) rfl (by kernel_rfl) ?_
 refine st_end ?_
 refine then_n ?_
 refine wp_seq ?_
 refine wp_seq ?_
 refine c_region (L := [0, 1, 2]) (by kernel_rfl) ?_
 by_cases h1 : (m.length : Int) > 1048576
 ·skip
  have hb2 : (decide ((m.length : Int) > 1048576)) = true := decide_eq_true h1
  refine st_pure (l := [0, 1, 2]) (rest := []) (L := [(6, .slice B m.length cB), (7, .int .i64 (m.length : Int)), (8, .bool true)]) rfl (Eq.trans (b := some [(6, .slice B m.length cB), (7, .int .i64 (m.length : Int)), (8, .bool (decide ((m.length : Int) > 1048576)))]) (by kernel_rfl) (by simp only [hb2])) ?_
  refine st_end ?_
  refine then_n ?_
  refine c_true (by kernel_rfl) ?_
  refine wp_seq ?_
  refine c_region (L := [0, 1]) (by kernel_rfl) ?_
  refine st_pure (l := [0, 1]) (rest := []) (L := [(4, .slice none 0 0), (5, .int .i64 3)]) rfl (by kernel_rfl) ?_
  refine st_end ?_
  refine then_n ?_
  refine wp_ret ?_
  refine then_r ?_
  refine post_ret (v := .tuple #[.slice none 0 0, .int .i64 3]) (by kernel_rfl) ?_
  refine ⟨[], 3, none, 0, ?_, rfl, ?_, ?_, ?_, ?_, Own.nil, RdA.nil, HM⟩
  ·rw [blockOf, if_pos h1]
   all_goals (try rfl)
  ·exact fun _ => rfl
  ·simp
  ·omega
  ·simp only [List.length_append, List.length_nil, List.length_cons]; omega
 ·skip
  have hb3 : (decide ((m.length : Int) > 1048576)) = false := decide_eq_false h1
  refine st_pure (l := [0, 1, 2]) (rest := []) (L := [(6, .slice B m.length cB), (7, .int .i64 (m.length : Int)), (8, .bool false)]) rfl (Eq.trans (b := some [(6, .slice B m.length cB), (7, .int .i64 (m.length : Int)), (8, .bool (decide ((m.length : Int) > 1048576)))]) (by kernel_rfl) (by simp only [hb3])) ?_
  refine st_end ?_
  refine then_n ?_
  refine c_false (by kernel_rfl) ?_
  refine wp_skip ?_
  refine then_n ?_
  refine wp_seq ?_
  refine c_region (L := [0, 1, 2, 3, 4, 5, 6, 7, 8]) (by kernel_rfl) ?_
  have hw4 : IntKind.wrap .u64 ((m.length : Int)) = (m.length : Int) := wu64 (by omega) (by omega)
  refine st_pure (l := [0, 1, 2, 3]) (rest := [4, 5, 6, 7, 8]) (L := [(9, .slice A l.length cA), (10, .slice B m.length cB), (11, .int .i64 (m.length : Int)), (12, .int .u64 (m.length : Int))]) rfl (Eq.trans (b := some [(9, .slice A l.length cA), (10, .slice B m.length cB), (11, .int .i64 (m.length : Int)), (12, .int .u64 (IntKind.wrap .u64 ((m.length : Int))))]) (by kernel_rfl) (by simp only [hw4])) ?_
  refine st_fn (d := 13) (f := 124) (xs := #[.slice A l.length cA, .int .u64 (m.length : Int)]) (R := _) (by kernel_rfl) (Number (w := w) (x := (m.length : Int)) (A := A) (cA := cA) (l := l) (lo := lo) (hi := hi) (hl := hl) (A_n := A_n) (A_c := by first | exact A_c | omega) (x_r := by omega) (hl_hi := by omega) (hll := by first | omega | (simp only [List.length_cons, List.length_nil, List.length_append, List.length_take, List.length_drop] at *; omega))) ?_
  rintro vw8 w8 ⟨l5, A6, c7, rfl, A6_n, A6_c, rfl, hO_10, hR_11, m12⟩
  have ha13 := (num_len (by omega) : (num (m.length : Int).toNat).length ≤ 9)
  replace hl := hl.mod0 m12
  replace hm := hm.mod0 m12
  replace HM := HM.tr0 m12
  have hszw8 := m12.size
  have hO_10_b := hO_10.bounds
  have hR_11_l := hR_11.len
  refine st_pure (l := [5]) (rest := [6, 7, 8]) (L := [(14, .slice B m.length cB)]) rfl (by kernel_rfl) ?_
  refine st_append (d := 15) (tn := 23) (e := 5) (ty := 23) (t := tyU8) (v := .slice A6 ((l ++ num (m.length : Int).toNat).length) c7) (A := B) (n := m.length) (c := cB) (l := (l ++ num (m.length : Int).toNat)) (m := m) (z := .int .u8 0) (bytes := 1) (by kernel_rfl) Try.underlying23 (by kernel_rfl) rfl (by decide) hO_10 hm (by simp) (by simp only [List.length_append, List.length_cons, List.length_nil, List.length_take, List.length_drop] at *; omega) (by omega) B_n ?_
  intro v14 w15 m16 hO17
  clear hO_10
  clear hR_11
  replace hl := hl.mod m16 (by intro k h1 h2 h3; (try simp only [Iv] at h3); omega)
  replace hm := hm.mod m16 (by intro k h1 h2 h3; (try simp only [Iv] at h3); omega)
  replace HM := HM.trans m16 (by intro k h1 h3; (try simp only [Iv] at h3 ⊢); omega)
  have hszw15 := m16.size
  obtain ⟨A18, c19, rfl, A18_c, A18_n, hR21⟩ := hO17.rd
  have hR21_l := hR21.len
  refine st_pure (l := [7, 8]) (rest := []) (L := [(4, .slice A18 (((l ++ num (m.length : Int).toNat) ++ m).length) c19), (5, .int .i64 0)]) rfl (by kernel_rfl) ?_
  refine st_end ?_
  refine then_n ?_
  refine wp_ret ?_
  refine post_ret (v := .tuple #[.slice A18 (((l ++ num (m.length : Int).toNat) ++ m).length) c19, .int .i64 0]) (by kernel_rfl) ?_
  refine ⟨(l ++ num (m.length : Int).toNat) ++ m, 0, A18, c19, ?_, rfl, ?_, ?_, ?_, ?_, hO17, hR21, HM⟩
  ·rw [blockOf, if_neg h1]
   all_goals (try rfl)
  ·exact A18_n
  ·first | exact A18_c | omega
  ·omega
  ·simp only [List.length_append, List.length_nil, List.length_cons]; omega

end Go.Proofs.Ytjkapifbinmjhaa
