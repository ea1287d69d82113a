import Derived.Test.YtjkapifbinmjhaaG3
namespace Go.Proofs.Ytjkapifbinmjhaa
open Go.Vx Go.RowKit
set_option linter.unusedVariables false
set_option linter.unusedSimpArgs false
set_option maxRecDepth 100000
theorem All_ok {w : World} {r : Nat} {A : Option Addr} {cA : Nat} {ring : List Msg} {fr : Int} {ct : Int} {mk : Int} {en : Bool} {lo : Nat} {hi : Nat} (hr : Blk w r 147 [.slice A ring.length cA, .int .i64 fr, .int .i64 ct, .int .i64 mk, .bool en]) (hq : RdA tyMsg w lo hi A ring) (A_n : A = none → cA = 0) (A_c : ring.length ≤ cA) (fr_r : 0 ≤ fr ∧ fr ≤ 4096) (ct_r : 0 ≤ ct ∧ ct ≤ 4096) (mk_r : -9223372036854775808 ≤ mk ∧ mk ≤ 9223372036854775807) (hq_hi : hi ≤ w.heap.size) (hlen : 0 < ring.length ∧ ring.length ≤ 4096 ∧ fr < ring.length ∧ ct ≤ ring.length) :
  Ret Try.prog 36 #[.pointer (some ⟨r, 0, none⟩)] w fun v w' => ∃ l2 : List Msg, ∃ A2 : Option Addr, ∃ c2 : Nat, v = .slice A2 l2.length c2 ∧ (A2 = none → c2 = 0) ∧ (l2.length ≤ c2) ∧ (l2 = allOf ring fr ct.toNat) ∧ Own tyMsg 35 w' (w.heap.size) (w'.heap.size) (.slice A2 l2.length c2) l2 ∧ RdA tyMsg w' (w.heap.size) (w'.heap.size) A2 l2 ∧ Mod (Nil) w w' := by
 have lt_hr := hr.lt
 have hq_l := hq.len
 have HM : Mod (Nil) w w := Mod.refl _ w
 refine ret_of Try.func36 rfl rfl ?_
 refine wp_seq ?_
 refine c_region (L := [0]) (by kernel_rfl) ?_
 refine st_pure (l := [0]) (rest := []) (L := [(2, .slice none 0 0)]) rfl (by kernel_rfl) ?_
 refine st_end ?_
 refine then_n ?_
 refine wp_seq ?_
 refine c_region (L := [0]) (by kernel_rfl) ?_
 refine st_pure (l := [0]) (rest := []) (L := [(3, .slice none 0 0)]) rfl (by kernel_rfl) ?_
 refine st_end ?_
 refine then_n ?_
 refine wp_seq ?_
 refine wp_seq ?_
 refine c_region (L := [0, 1, 2]) (by kernel_rfl) ?_
 refine st_pure (l := [0]) (rest := [1, 2]) (L := [(5, .pointer (some ⟨r, 0, none⟩))]) rfl (by kernel_rfl) ?_
 refine st_fn (d := 6) (f := 26) (xs := #[.pointer (some ⟨r, 0, none⟩)]) (R := _) (by kernel_rfl) (Len_ok (w := w) (r := r) (A := A) (cA := cA) (ring := ring) (fr := fr) (ct := ct) (mk := mk) (en := en) (hr := hr) (A_n := A_n) (A_c := by first | exact A_c | omega) (fr_r := by omega) (ct_r := by omega) (mk_r := by omega) (hlen := by first | omega | (simp only [List.length_cons, List.length_nil, List.length_append, List.length_take, List.length_drop] at *; omega))) ?_
 rintro vw1 w1 ⟨rfl, m3⟩
 replace hr := hr.mod m3 (fun q => q)
 replace hq := hq.mod0 m3
 replace HM := HM.tr0 m3
 have hszw1 := m3.size
 refine st_pure (l := [2]) (rest := []) (L := [(7, .int .i64 0)]) rfl (by kernel_rfl) ?_
 refine st_end ?_
 refine then_n ?_
 refine wp_block ?_
 refine c_loop (σ := Int × Option Addr × Nat × List Msg) (fun s a w' => match s with | ⟨i, Ag, cg, acc⟩ => Fr 33 [(0, .pointer (some ⟨r, 0, none⟩)), (2, .slice none 0 0), (3, .slice Ag acc.length cg), (5, .pointer (some ⟨r, 0, none⟩)), (6, .int .i64 ct), (7, .int .i64 i)] a ∧ Mod (Nil) w w' ∧ w1.heap.size ≤ w'.heap.size ∧ Blk w' r 147 [.slice A ring.length cA, .int .i64 fr, .int .i64 ct, .int .i64 mk, .bool en] ∧ RdA tyMsg w' lo hi A ring ∧ Own tyMsg 35 w' w.heap.size (w'.heap.size) (.slice Ag acc.length cg) acc ∧ RdA tyMsg w' w.heap.size (w'.heap.size) Ag acc ∧ (0 ≤ i ∧ i ≤ ct) ∧ (Ag = none → cg = 0) ∧ (acc.length ≤ cg) ∧ (acc = allOf ring fr (i.toNat)) ∧ True) (fun s => match s with | ⟨i, Ag, cg, acc⟩ => (ct - i).toNat) (0, none, 0, []) ?_ ?_
 ·refine ⟨Fr.mk (by kernel_rfl) (by kernel_rfl), HM, Nat.le_refl _, hr, hq, Own.nil, RdA.nil, ?_, ?_, ?_, ?_, trivial⟩
  ·omega
  ·exact fun _ => rfl
  ·exact Nat.le_refl _
  ·rfl
 ·rintro ⟨i, Ag, cg, acc⟩ a w4 ⟨⟨Tf, rfl⟩, HM', hszw4, hr', hq', hG', hH', hib, Ag_n, Ag_c, hinv, -⟩
  clear HM hr hq
  have HM := HM'; clear HM'
  have hr := hr'; clear hr'
  have hq := hq'; clear hq'
  have hG := hG'; clear hG'
  have hH := hH'; clear hH'
  have hal := congrArg List.length hinv; rw [allOf_len] at hal
  refine wp_seq ?_
  refine c_region (L := [0]) (by kernel_rfl) ?_
  by_cases h5 : i < ct
  ·skip
   have hb6 : (decide (i < ct)) = true := decide_eq_true h5
   refine st_pure (l := [0]) (rest := []) (L := [(8, .bool true)]) rfl (Eq.trans (b := some [(8, .bool (decide (i < ct)))]) (by kernel_rfl) (by simp only [hb6])) ?_
   refine st_end ?_
   refine then_n ?_
   refine wp_seq ?_
   refine c_true (by kernel_rfl) ?_
   refine wp_skip ?_
   refine then_n ?_
   refine wp_seq ?_
   refine wp_block ?_
   refine wp_seq ?_
   refine c_region (L := [0, 1]) (by kernel_rfl) ?_
   refine st_pure (l := [0, 1]) (rest := []) (L := [(9, .int .i64 i), (4, .int .i64 i)]) rfl (by kernel_rfl) ?_
   refine st_end ?_
   refine then_n ?_
   refine c_drawS (fun k => Iv w.heap.size w4.heap.size k) (fun k => Iv w.heap.size w4.heap.size k) [0, 1, 2, 3, 4, 5, 6, 7, 8, 9, 10, 11, 12, 13, 14, 15, 16, 17, 18, 21] [] 0 (fun _ q => q) (by kernel_rfl) (n := 22) (by kernel_rfl) (by kernel_rfl) ?_
   intro w7 HGw7
   have hr_w7 := hr
   have hq_w7 := hq
   have hG_w7 := hG
   have hH_w7 := hH
   have HC8 : Mod (fun k => Iv w.heap.size w4.heap.size k) w4 w7 := Mod.weaken HGw7 fun _ _ q => q.elim
   replace hr := hr.mod HGw7 (fun q => q)
   replace hq := hq.mod0 HGw7
   replace hG := hG.mod0 HGw7
   replace hH := hH.mod0 HGw7
   replace HM := HM.tr0 HGw7
   have hszw7 := HGw7.size
   refine m_p (k := 0) (n := 4) (fuel := 18) (L := [(10, .slice Ag acc.length cg), (11, .pointer (some ⟨r, 0, none⟩)), (12, .pointer (some ⟨r, 0, none⟩)), (13, .pointer (some ⟨r, 0, none⟩))]) (by kernel_rfl) (by kernel_rfl) rfl ?_
   refine m_load (d := 14) (t := 45) (b := r) (o := 0) (v := .slice A ring.length cA) (by kernel_rfl) (by kernel_rfl) (fun wQ (mQ : Mod (fun k => Iv w.heap.size w4.heap.size k) w4 wQ) => (hr_w7.mod mQ (by intro h3; (try simp only [Iv] at h3); omega)).sub 0) (by kernel_rfl) ?_
   refine m_p (k := 5) (n := 3) (fuel := 14) (L := [(15, .pointer (some ⟨r, 0, none⟩)), (16, .pointer (some ⟨r, 0, none⟩)), (17, .pointer (some ⟨r, 1, none⟩))]) (by kernel_rfl) (by kernel_rfl) rfl ?_
   refine m_load (d := 18) (t := 3) (b := r) (o := 1) (v := .int .i64 fr) (by kernel_rfl) (by kernel_rfl) (fun wQ (mQ : Mod (fun k => Iv w.heap.size w4.heap.size k) w4 wQ) => (hr_w7.mod mQ (by intro h3; (try simp only [Iv] at h3); omega)).sub 1) (by kernel_rfl) ?_
   have hw9 : IntKind.wrap .i64 (fr + i) = fr + i := wi64 (by omega) (by omega)
   refine m_p (k := 9) (n := 2) (fuel := 11) (L := [(19, .int .i64 i), (20, .int .i64 (fr + i))]) (by kernel_rfl) (Eq.trans (b := some [(19, .int .i64 i), (20, .int .i64 (IntKind.wrap .i64 (fr + i)))]) (by kernel_rfl) (by simp only [hw9])) rfl ?_
   refine m_p (k := 11) (n := 3) (fuel := 8) (L := [(21, .pointer (some ⟨r, 0, none⟩)), (22, .pointer (some ⟨r, 0, none⟩)), (23, .pointer (some ⟨r, 0, none⟩))]) (by kernel_rfl) (by kernel_rfl) rfl ?_
   refine m_load (d := 24) (t := 45) (b := r) (o := 0) (v := .slice A ring.length cA) (by kernel_rfl) (by kernel_rfl) (fun wQ (mQ : Mod (fun k => Iv w.heap.size w4.heap.size k) w4 wQ) => (hr_w7.mod mQ (by intro h3; (try simp only [Iv] at h3); omega)).sub 0) (by kernel_rfl) ?_
   refine m_p (k := 15) (n := 1) (fuel := 6) (L := [(25, .int .i64 (ring.length : Int))]) (by kernel_rfl) (by kernel_rfl) rfl ?_
   have hm10 := Int.emod_nonneg (fr + i) (show (ring.length : Int) ≠ 0 by omega)
   have hm11 := Int.emod_lt_of_pos (fr + i) (show 0 < (ring.length : Int) by omega)
   refine m_comes (d := 26) (v := .int .i64 ((fr + i) % (ring.length : Int))) (by kernel_rfl) (fun wQ (mQ : Mod (fun k => Iv w.heap.size w4.heap.size k) w4 wQ) => (comes_rem (k := .i64) (a := fr + i) (b := (ring.length : Int)) (by kernel_rfl) (by omega) (by omega))) HC8 ?_
   have hi15 : ((fr + i) % (ring.length : Int)).toNat < (ring).length := by omega
   obtain ⟨b12, o13, ehA14, lhA14, uhA14, hA14⟩ := hq_w7.get hi15
   obtain ⟨x16, ex16⟩ : ∃ y, y = (ring)[((fr + i) % (ring.length : Int)).toNat] := ⟨_, rfl⟩
   rw [← ex16] at hA14
   have dx16 := getD_of (d := Msg.zero) hi15 ex16
   have hrx16_0 := i64_lo x16.kind
   have hrx16_1 := i64_lo x16.time
   have hrx16_2 := i64_lo x16.cls
   have hrx16_4 := i64_lo x16.bank
   have hrx16_5 := i64_lo x16.place
   have hsx16_0 := i64_hi x16.kind
   have hsx16_1 := i64_hi x16.time
   have hsx16_2 := i64_hi x16.cls
   have hsx16_3 := u8_hi x16.high
   have hsx16_4 := i64_hi x16.bank
   have hsx16_5 := i64_hi x16.place
   have hsx16_6 := u8_hi x16.value
   refine m_index (d := 27) (tn := 45) (n := ring.length) (c := cA) (ix := (fr + i) % (ring.length : Int)) (kd := .i64) (e := 35) (t := tyMsg) (b := b12) (by kernel_rfl) (by kernel_rfl) Try.underlying45 (by kernel_rfl) ehA14 (by omega) (by omega) ?_
   refine m_load (d := 28) (t := 35) (b := b12) (o := o13 + ((fr + i) % (ring.length : Int)).toNat * 7) (v := .agg #[.int .i64 x16.kind.toInt, .int .i64 x16.time.toInt, .int .i64 x16.cls.toInt, .int .u8 (x16.high.toNat : Int), .int .i64 x16.bank.toInt, .int .i64 x16.place.toInt, .int .u8 (x16.value.toNat : Int)]) (by kernel_rfl) (by kernel_rfl) (fun wQ (mQ : Mod (fun k => Iv w.heap.size w4.heap.size k) w4 wQ) => (hA14.mod mQ (by intro h3; (try simp only [Iv] at h3); omega)).dropk 0) (by kernel_rfl) ?_
   refine m_Q (by kernel_rfl) ?_
   refine st_new (d := 29) (e := 35) (C := [.int .i64 x16.kind.toInt, .int .i64 x16.time.toInt, .int .i64 x16.cls.toInt, .int .u8 (x16.high.toNat : Int), .int .i64 x16.bank.toInt, .int .i64 x16.place.toInt, .int .u8 (x16.value.toNat : Int)]) (V := fun r => .slice (some ⟨r, 0, none⟩) 1 1) (by kernel_rfl) ?_
   intro b17 w18 m19 lb17 ub17 hB20
   replace hr := hr.mod m19 (fun q => q)
   replace hq := hq.mod0 m19
   replace hG := hG.mod0 m19
   replace hH := hH.mod0 m19
   replace HM := HM.tr0 m19
   have hszw18 := m19.size
   have HC21 := HC8.tr0 m19
   refine st_end (m_after HC21 ?_)
   refine m_Q (by kernel_rfl) ?_
   refine st_append (d := 30) (tn := 45) (e := 35) (ty := 45) (t := tyMsg) (v := .slice Ag acc.length cg) (A := some ⟨b17, 0, none⟩) (n := 1) (c := 1) (l := acc) (m := [x16]) (z := .agg #[.int .i64 0, .int .i64 0, .int .i64 0, .int .u8 0, .int .i64 0, .int .i64 0, .int .u8 0]) (bytes := 56) (by kernel_rfl) Try.underlying45 (by kernel_rfl) rfl (by decide) hG (Blk.rd (t := tyMsg) (l := [x16]) hB20 rfl (by simp) b17 (b17 + 1) (Nat.le_refl _) (by omega)) (by simp) (by simp only [List.length_append, List.length_cons, List.length_nil, List.length_take, List.length_drop] at *; omega) (by omega) (by intro h; cases h) ?_
   intro v22 w23 m24 hO25
   clear hG
   clear hH
   clear hB20
   replace hr := hr.mod m24 (by intro h3; (try simp only [Iv] at h3); omega)
   replace hq := hq.mod m24 (by intro k h1 h2 h3; (try simp only [Iv] at h3); omega)
   replace HM := HM.trans m24 (by intro k h1 h3; (try simp only [Iv] at h3 ⊢); omega)
   have hszw23 := m24.size
   have HC26 : Mod (fun k => Iv w.heap.size w4.heap.size k) w4 _ := HC21.trans m24 (by intro k h1 h3; (try simp only [Iv] at h3 ⊢); omega)
   refine st_end (m_after HC26 ?_)
   obtain ⟨A27, c28, rfl, A27_c, A27_n, hR30⟩ := hO25.rd
   have hR30_l := hR30.len
   refine m_p (k := 21) (n := 1) (fuel := 0) (L := [(3, .slice A27 ((acc ++ [x16]).length) c28)]) (by kernel_rfl) (by kernel_rfl) rfl ?_
   refine m_end ?_
   clear hA14
   refine blk_n ?_
   refine then_n ?_
   refine c_region (L := [0, 1]) (by kernel_rfl) ?_
   have hw31 : IntKind.wrap .i64 (i + 1) = i + 1 := wi64 (by omega) (by omega)
   refine st_pure (l := [0]) (rest := [1]) (L := [(31, .int .i64 (i + 1))]) rfl (Eq.trans (b := some [(31, .int .i64 (IntKind.wrap .i64 (i + 1)))]) (by kernel_rfl) (by simp only [hw31])) ?_
   refine st_pure (l := [1]) (rest := []) (L := [(7, .int .i64 (i + 1))]) rfl (by kernel_rfl) ?_
   refine st_end ?_
   refine then_n ?_
   refine ⟨(i + 1, A27, c28, acc ++ [x16]), ⟨Fr.mk (by kernel_rfl) (by kernel_rfl), HM, by omega, hr, hq, hO25.wide (by omega) (by omega), hR30.wide (by omega) (by omega), ?_, ?_, ?_, ?_, trivial⟩, ?_⟩
   ·omega
   ·exact A27_n
   ·first | exact A27_c | omega
   ·rw [hinv, show (i + 1).toNat = i.toNat + 1 by omega, allOf_succ, show fr.toNat + i.toNat = (fr + i).toNat by omega, mod_nat (by omega), dx16]
   ·dsimp only; omega
  ·skip
   have hb32 : (decide (i < ct)) = false := decide_eq_false h5
   refine st_pure (l := [0]) (rest := []) (L := [(8, .bool false)]) rfl (Eq.trans (b := some [(8, .bool (decide (i < ct)))]) (by kernel_rfl) (by simp only [hb32])) ?_
   refine st_end ?_
   refine then_n ?_
   refine wp_seq ?_
   refine c_false (by kernel_rfl) ?_
   refine wp_exit ?_
   refine then_x ?_
   refine then_x ?_
   refine blk_hit ?_
   refine then_n ?_
   refine wp_seq ?_
   refine c_region (L := [0, 1]) (by kernel_rfl) ?_
   refine st_pure (l := [0, 1]) (rest := []) (L := [(32, .slice Ag acc.length cg), (2, .slice Ag acc.length cg)]) rfl (by kernel_rfl) ?_
   refine st_end ?_
   refine then_n ?_
   refine wp_ret ?_
   refine post_ret (v := .slice Ag acc.length cg) (by kernel_rfl) ?_
   refine ⟨acc, Ag, cg, rfl, ?_, ?_, ?_, hG, hH, HM⟩
   ·exact Ag_n
   ·first | exact Ag_c | omega
   ·rw [hinv, show i.toNat = ct.toNat by omega]

theorem numbers_ok {w : World} {B : Option Addr} {cB : Nat} {m : List Int64} {lo : Nat} {hi : Nat} (hm : RdA tyI64 w lo hi B m) (B_n : B = none → cB = 0) (B_c : m.length ≤ cB) (hm_hi : hi ≤ w.heap.size) (hll : m.length ≤ 1000) :
  Ret Try.prog 103 #[.slice none 0 0, .slice B m.length cB] w fun v w' => ∃ l2 : List UInt8, ∃ A2 : Option Addr, ∃ c2 : Nat, v = .slice A2 l2.length c2 ∧ (A2 = none → c2 = 0) ∧ (l2.length ≤ c2) ∧ (l2 = nums m) ∧ Own tyU8 5 w' (w.heap.size) (w'.heap.size) (.slice A2 l2.length c2) l2 ∧ RdA tyU8 w' (w.heap.size) (w'.heap.size) A2 l2 ∧ Mod (Nil) w w' := by
 have hm_l := hm.len
 have HM : Mod (Nil) w w := Mod.refl _ w
 refine ret_of Try.func103 rfl rfl ?_
 refine wp_seq ?_
 refine c_region (L := [0]) (by kernel_rfl) ?_
 refine st_pure (l := [0]) (rest := []) (L := [(4, .slice none 0 0)]) rfl (by kernel_rfl) ?_
 refine st_end ?_
 refine then_n ?_
 refine wp_seq ?_
 refine wp_seq ?_
 refine c_region (L := [0, 1, 2]) (by kernel_rfl) ?_
 refine st_pure (l := [0, 1, 2]) (rest := []) (L := [(7, .slice B m.length cB), (8, .int .i64 (m.length : Int)), (9, .int .i64 0)]) rfl (by kernel_rfl) ?_
 refine st_end ?_
 refine then_n ?_
 refine wp_block ?_
 refine c_loop (σ := Int × Option Addr × Nat × List UInt8) (fun s a w' => match s with | ⟨i, Ag, cg, acc⟩ => Fr 19 [(0, .slice Ag acc.length cg), (1, .slice B m.length cB), (4, .slice none 0 0), (7, .slice B m.length cB), (8, .int .i64 (m.length : Int)), (9, .int .i64 i)] a ∧ Mod (Nil) w w' ∧ w.heap.size ≤ w'.heap.size ∧ RdA tyI64 w' lo hi B m ∧ Own tyU8 5 w' w.heap.size (w'.heap.size) (.slice Ag acc.length cg) acc ∧ RdA tyU8 w' w.heap.size (w'.heap.size) Ag acc ∧ (0 ≤ i ∧ i ≤ m.length) ∧ (Ag = none → cg = 0) ∧ (acc.length ≤ cg) ∧ (acc = nums (m.take (i.toNat))) ∧ True) (fun s => match s with | ⟨i, Ag, cg, acc⟩ => (m.length - i).toNat) (0, none, 0, []) ?_ ?_
 ·refine ⟨Fr.mk (by kernel_rfl) (by kernel_rfl), HM, Nat.le_refl _, hm, Own.nil, RdA.nil, ?_, ?_, ?_, ?_, trivial⟩
  ·omega
  ·exact fun _ => rfl
  ·exact Nat.le_refl _
  ·rfl
 ·rintro ⟨i, Ag, cg, acc⟩ a w1 ⟨⟨Tf, rfl⟩, HM', hszw1, hm', hG', hH', hib, Ag_n, Ag_c, hinv, -⟩
  clear HM hm
  have HM := HM'; clear HM'
  have hm := hm'; clear hm'
  have hG := hG'; clear hG'
  have hH := hH'; clear hH'
  have hal := congrArg List.length hinv; have hbl := nums_len (m.take i.toNat); rw [List.length_take] at hbl
  refine wp_seq ?_
  refine c_region (L := [0]) (by kernel_rfl) ?_
  by_cases h2 : i < (m.length : Int)
  ·skip
   have hb3 : (decide (i < (m.length : Int))) = true := decide_eq_true h2
   refine st_pure (l := [0]) (rest := []) (L := [(10, .bool true)]) rfl (Eq.trans (b := some [(10, .bool (decide (i < (m.length : Int))))]) (by kernel_rfl) (by simp only [hb3])) ?_
   refine st_end ?_
   refine then_n ?_
   refine wp_seq ?_
   refine c_true (by kernel_rfl) ?_
   refine wp_skip ?_
   refine then_n ?_
   refine wp_seq ?_
   refine wp_block ?_
   refine wp_seq ?_
   refine c_region (L := [0, 1, 2]) (by kernel_rfl) ?_
   have hi7 : (i).toNat < (m).length := by omega
   obtain ⟨b4, o5, ehA6, lhA6, uhA6, hA6⟩ := hm.get hi7
   obtain ⟨x8, ex8⟩ : ∃ y, y = (m)[(i).toNat] := ⟨_, rfl⟩
   rw [← ex8] at hA6
   have dx8 := getD_of (d := 0) hi7 ex8
   have hrx8 := i64_lo x8
   have hsx8 := i64_hi x8
   refine st_index (d := 11) (tn := 127) (n := m.length) (c := cB) (ix := i) (k := .i64) (e := 3) (t := tyI64) (b := b4) (by kernel_rfl) Try.underlying127 (by kernel_rfl) ehA6 (by omega) (by omega) ?_
   refine st_load (d := 12) (t := 3) (cs := _) (v := .int .i64 x8.toInt) (by kernel_rfl) (hA6.dropk 0) (by kernel_rfl) ?_
   refine st_pure (l := [2]) (rest := []) (L := [(6, .int .i64 x8.toInt)]) rfl (by kernel_rfl) ?_
   refine st_end ?_
   refine then_n ?_
   refine c_region (L := [0, 1, 2, 3, 4]) (by kernel_rfl) ?_
   have hwr9 := wu64_lo (x8.toInt)
   refine st_pure (l := [0, 1, 2]) (rest := [3, 4]) (L := [(13, .slice Ag acc.length cg), (14, .int .i64 x8.toInt), (15, .int .u64 (IntKind.wrap .u64 (x8.toInt)))]) rfl (by kernel_rfl) ?_
   refine st_fn (d := 16) (f := 124) (xs := #[.slice Ag acc.length cg, .int .u64 (IntKind.wrap .u64 (x8.toInt))]) (R := _) (by kernel_rfl) (Number (w := w1) (x := IntKind.wrap .u64 (x8.toInt)) (A := Ag) (cA := cg) (l := acc) (lo := w.heap.size) (hi := w1.heap.size) (hl := hH) (A_n := Ag_n) (A_c := by first | exact Ag_c | omega) (x_r := by omega) (hl_hi := by omega) (hll := by first | omega | (simp only [List.length_cons, List.length_nil, List.length_append, List.length_take, List.length_drop] at *; omega))) ?_
   rintro vw13 w13 ⟨l10, A11, c12, rfl, A11_n, A11_c, rfl, hO_15, hR_16, m17⟩
   have ha18 := (num_len (by omega) : (num (IntKind.wrap .u64 (x8.toInt)).toNat).length ≤ 9)
   replace hm := hm.mod0 m17
   replace hG := hG.mod0 m17
   replace hH := hH.mod0 m17
   replace hA6 := hA6.mod m17 (fun q => q)
   replace HM := HM.tr0 m17
   have hszw13 := m17.size
   have hO_15_b := hO_15.bounds
   have hR_16_l := hR_16.len
   refine st_pure (l := [4]) (rest := []) (L := [(0, .slice A11 ((acc ++ num (IntKind.wrap .u64 (x8.toInt)).toNat).length) c12)]) rfl (by kernel_rfl) ?_
   refine st_end ?_
   refine blk_n ?_
   refine then_n ?_
   refine c_region (L := [0, 1]) (by kernel_rfl) ?_
   have hw19 : IntKind.wrap .i64 (i + 1) = i + 1 := wi64 (by omega) (by omega)
   refine st_pure (l := [0]) (rest := [1]) (L := [(17, .int .i64 (i + 1))]) rfl (Eq.trans (b := some [(17, .int .i64 (IntKind.wrap .i64 (i + 1)))]) (by kernel_rfl) (by simp only [hw19])) ?_
   refine st_pure (l := [1]) (rest := []) (L := [(9, .int .i64 (i + 1))]) rfl (by kernel_rfl) ?_
   refine st_end ?_
   refine then_n ?_
   refine ⟨(i + 1, A11, c12, acc ++ num (IntKind.wrap .u64 (x8.toInt)).toNat), ⟨Fr.mk (by kernel_rfl) (by kernel_rfl), HM, by omega, hm, hO_15.wide (by omega) (by omega), hR_16.wide (by omega) (by omega), ?_, ?_, ?_, ?_, trivial⟩, ?_⟩
   ·omega
   ·exact A11_n
   ·first | exact A11_c | omega
   ·rw [hinv, show (i + 1).toNat = i.toNat + 1 by omega, take_snoc (by omega) ex8, nums_snoc]
   ·dsimp only; omega
  ·skip
   have hb20 : (decide (i < (m.length : Int))) = false := decide_eq_false h2
   refine st_pure (l := [0]) (rest := []) (L := [(10, .bool false)]) rfl (Eq.trans (b := some [(10, .bool (decide (i < (m.length : Int))))]) (by kernel_rfl) (by simp only [hb20])) ?_
   refine st_end ?_
   refine then_n ?_
   refine wp_seq ?_
   refine c_false (by kernel_rfl) ?_
   refine wp_exit ?_
   refine then_x ?_
   refine then_x ?_
   refine blk_hit ?_
   refine then_n ?_
   refine wp_seq ?_
   refine c_region (L := [0, 1]) (by kernel_rfl) ?_
   refine st_pure (l := [0, 1]) (rest := []) (L := [(18, .slice Ag acc.length cg), (4, .slice Ag acc.length cg)]) rfl (by kernel_rfl) ?_
   refine st_end ?_
   refine then_n ?_
   refine wp_ret ?_
   refine post_ret (v := .slice Ag acc.length cg) (by kernel_rfl) ?_
   refine ⟨acc, Ag, cg, rfl, ?_, ?_, ?_, hG, hH, HM⟩
   ·exact Ag_n
   ·first | exact Ag_c | omega
   ·rw [hinv, List.take_of_length_le (by omega)]

def mbytes (m : Msg) : List UInt8 × Int :=
 match chk m with
 | e5 =>
  if e5 ≠ 0 then
   ([], e5)
  else
   ((nums ([m.kind, m.time, m.cls, Int64.ofInt (m.high.toNat : Int), m.bank, m.place, Int64.ofInt (m.value.toNat : Int)])), 0)

theorem Bytes_ok {w : World} {m : Msg} :
  Ret Try.prog 15 #[.agg #[.int .i64 m.kind.toInt, .int .i64 m.time.toInt, .int .i64 m.cls.toInt, .int .u8 (m.high.toNat : Int), .int .i64 m.bank.toInt, .int .i64 m.place.toInt, .int .u8 (m.value.toNat : Int)]] w fun v w' => ∃ l2 : List UInt8, ∃ e2 : Int, ∃ A2 : Option Addr, ∃ c2 : Nat, mbytes m = (l2, e2) ∧ v = .tuple #[.slice A2 l2.length c2, .int .i64 e2] ∧ (A2 = none → c2 = 0) ∧ (l2.length ≤ c2) ∧ (-9223372036854775808 ≤ e2 ∧ e2 ≤ 9223372036854775807) ∧ (l2.length ≤ 63) ∧ Own tyU8 5 w' (w.heap.size) (w'.heap.size) (.slice A2 l2.length c2) l2 ∧ RdA tyU8 w' (w.heap.size) (w'.heap.size) A2 l2 ∧ Mod (Nil) w w' := by
 have hrm_0 := i64_lo m.kind
 have hrm_1 := i64_lo m.time
 have hrm_2 := i64_lo m.cls
 have hrm_4 := i64_lo m.bank
 have hrm_5 := i64_lo m.place
 have hsm_0 := i64_hi m.kind
 have hsm_1 := i64_hi m.time
 have hsm_2 := i64_hi m.cls
 have hsm_3 := u8_hi m.high
 have hsm_4 := i64_hi m.bank
 have hsm_5 := i64_hi m.place
 have hsm_6 := u8_hi m.value
 have HM : Mod (Nil) w w := Mod.refl _ w
 refine ret_of Try.func15 rfl rfl ?_
 refine wp_seq ?_
 refine c_region (L := [0, 1, 2]) (by kernel_rfl) ?_
 refine st_new (d := 1) (e := 35) (C := [.int .i64 m.kind.toInt, .int .i64 m.time.toInt, .int .i64 m.cls.toInt, .int .u8 (m.high.toNat : Int), .int .i64 m.bank.toInt, .int .i64 m.place.toInt, .int .u8 (m.value.toNat : Int)]) (V := fun r => .pointer (some ⟨r, 0, none⟩)) (by kernel_rfl) ?_
 intro b1 w2 m3 lb1 ub1 hB4
 replace HM := HM.tr0 m3
 have hszw2 := m3.size
 refine st_pure (l := [1, 2]) (rest := []) (L := [(2, .slice none 0 0), (3, .int .i64 0)]) rfl (by kernel_rfl) ?_
 refine st_end ?_
 refine then_n ?_
 refine wp_seq ?_
 refine wp_seq ?_
 refine c_region (L := [0, 1, 2]) (by kernel_rfl) ?_
 refine st_load (d := 5) (t := 35) (cs := _) (v := .agg #[.int .i64 m.kind.toInt, .int .i64 m.time.toInt, .int .i64 m.cls.toInt, .int .u8 (m.high.toNat : Int), .int .i64 m.bank.toInt, .int .i64 m.place.toInt, .int .u8 (m.value.toNat : Int)]) (by kernel_rfl) (hB4.sub 0) (by kernel_rfl) ?_
 refine st_fn (d := 6) (f := 18) (xs := #[.agg #[.int .i64 m.kind.toInt, .int .i64 m.time.toInt, .int .i64 m.cls.toInt, .int .u8 (m.high.toNat : Int), .int .i64 m.bank.toInt, .int .i64 m.place.toInt, .int .u8 (m.value.toNat : Int)]]) (R := _) (by kernel_rfl) (Check_ok (w := w2) (m := m) ) ?_
 rintro vw6 w6 ⟨e5, hsp7, rfl, e5_r, m9⟩
 replace hB4 := hB4.mod m9 (fun q => q)
 replace HM := HM.tr0 m9
 have hszw6 := m9.size
 refine st_pure (l := [2]) (rest := []) (L := [(4, .int .i64 e5)]) rfl (by kernel_rfl) ?_
 refine st_end ?_
 refine then_n ?_
 refine wp_seq ?_
 refine c_region (L := [0, 1]) (by kernel_rfl) ?_
 by_cases h10 : e5 ≠ 0
 ·skip
  have hb11 : (e5 != 0) = true := by first | (rw [bne_iff_ne]; exact h10) | (rw [bne_eq_false_iff_eq]; omega)
  refine st_pure (l := [0, 1]) (rest := []) (L := [(7, .int .i64 e5), (8, .bool true)]) rfl (Eq.trans (b := some [(7, .int .i64 e5), (8, .bool (e5 != 0))]) (by kernel_rfl) (by simp only [hb11])) ?_
  refine st_end ?_
  refine then_n ?_
  refine c_true (by kernel_rfl) ?_
  refine wp_seq ?_
  refine c_region (L := [0, 1, 2]) (by kernel_rfl) ?_
  refine st_pure (l := [0, 1, 2]) (rest := []) (L := [(9, .int .i64 e5), (2, .slice none 0 0), (3, .int .i64 e5)]) rfl (by kernel_rfl) ?_
  refine st_end ?_
  refine then_n ?_
  refine wp_ret ?_
  refine then_r ?_
  refine post_ret (v := .tuple #[.slice none 0 0, .int .i64 e5]) (by kernel_rfl) ?_
  refine ⟨[], e5, none, 0, ?_, rfl, ?_, ?_, ?_, ?_, Own.nil, RdA.nil, HM⟩
  ·rw [mbytes]
   try simp only [hsp7]
   rw [if_pos h10]
   all_goals (try rfl)
  ·exact fun _ => rfl
  ·simp
  ·omega
  ·simp only [List.length_cons, List.length_nil] at *; omega
 ·skip
  have hb12 : (e5 != 0) = false := by rw [bne_eq_false_iff_eq]; exact Decidable.not_not.1 h10
  refine st_pure (l := [0, 1]) (rest := []) (L := [(7, .int .i64 e5), (8, .bool false)]) rfl (Eq.trans (b := some [(7, .int .i64 e5), (8, .bool (e5 != 0))]) (by kernel_rfl) (by simp only [hb12])) ?_
  refine st_end ?_
  refine then_n ?_
  refine c_false (by kernel_rfl) ?_
  refine wp_skip ?_
  refine then_n ?_
  refine wp_seq ?_
  refine c_region (L := [0, 1, 2, 3, 4, 5, 6, 7, 8, 9, 10, 11, 12, 13, 14, 15, 16, 17, 18, 19]) (by kernel_rfl) ?_
  refine st_pure (l := [0]) (rest := [1, 2, 3, 4, 5, 6, 7, 8, 9, 10, 11, 12, 13, 14, 15, 16, 17, 18, 19]) (L := [(10, .pointer (some ⟨b1, 0, none⟩))]) rfl (by kernel_rfl) ?_
  refine st_load (d := 11) (t := 3) (cs := _) (v := .int .i64 m.kind.toInt) (by kernel_rfl) (hB4.sub 0) (by kernel_rfl) ?_
  refine st_pure (l := [2]) (rest := [3, 4, 5, 6, 7, 8, 9, 10, 11, 12, 13, 14, 15, 16, 17, 18, 19]) (L := [(12, .pointer (some ⟨b1, 1, none⟩))]) rfl (by kernel_rfl) ?_
  refine st_load (d := 13) (t := 2) (cs := _) (v := .int .i64 m.time.toInt) (by kernel_rfl) (hB4.sub 1) (by kernel_rfl) ?_
  refine st_pure (l := [4]) (rest := [5, 6, 7, 8, 9, 10, 11, 12, 13, 14, 15, 16, 17, 18, 19]) (L := [(14, .pointer (some ⟨b1, 2, none⟩))]) rfl (by kernel_rfl) ?_
  refine st_load (d := 15) (t := 3) (cs := _) (v := .int .i64 m.cls.toInt) (by kernel_rfl) (hB4.sub 2) (by kernel_rfl) ?_
  refine st_pure (l := [6]) (rest := [7, 8, 9, 10, 11, 12, 13, 14, 15, 16, 17, 18, 19]) (L := [(16, .pointer (some ⟨b1, 3, none⟩))]) rfl (by kernel_rfl) ?_
  refine st_load (d := 17) (t := 5) (cs := _) (v := .int .u8 (m.high.toNat : Int)) (by kernel_rfl) (hB4.sub 3) (by kernel_rfl) ?_
  have hw13 : IntKind.wrap .i64 ((m.high.toNat : Int)) = (m.high.toNat : Int) := wi64 (by omega) (by omega)
  refine st_pure (l := [8]) (rest := [9, 10, 11, 12, 13, 14, 15, 16, 17, 18, 19]) (L := [(18, .int .i64 (m.high.toNat : Int))]) rfl (Eq.trans (b := some [(18, .int .i64 (IntKind.wrap .i64 ((m.high.toNat : Int))))]) (by kernel_rfl) (by simp only [hw13])) ?_
  refine st_pure (l := [9]) (rest := [10, 11, 12, 13, 14, 15, 16, 17, 18, 19]) (L := [(19, .pointer (some ⟨b1, 4, none⟩))]) rfl (by kernel_rfl) ?_
  refine st_load (d := 20) (t := 3) (cs := _) (v := .int .i64 m.bank.toInt) (by kernel_rfl) (hB4.sub 4) (by kernel_rfl) ?_
  refine st_pure (l := [11]) (rest := [12, 13, 14, 15, 16, 17, 18, 19]) (L := [(21, .pointer (some ⟨b1, 5, none⟩))]) rfl (by kernel_rfl) ?_
  refine st_load (d := 22) (t := 3) (cs := _) (v := .int .i64 m.place.toInt) (by kernel_rfl) (hB4.sub 5) (by kernel_rfl) ?_
  refine st_pure (l := [13]) (rest := [14, 15, 16, 17, 18, 19]) (L := [(23, .pointer (some ⟨b1, 6, none⟩))]) rfl (by kernel_rfl) ?_
  refine st_load (d := 24) (t := 5) (cs := _) (v := .int .u8 (m.value.toNat : Int)) (by kernel_rfl) (hB4.sub 6) (by kernel_rfl) ?_
  have hw14 : IntKind.wrap .i64 ((m.value.toNat : Int)) = (m.value.toNat : Int) := wi64 (by omega) (by omega)
  refine st_pure (l := [15]) (rest := [16, 17, 18, 19]) (L := [(25, .int .i64 (m.value.toNat : Int))]) rfl (Eq.trans (b := some [(25, .int .i64 (IntKind.wrap .i64 ((m.value.toNat : Int))))]) (by kernel_rfl) (by simp only [hw14])) ?_
  refine st_new (d := 26) (e := 3) (C := [.int .i64 m.kind.toInt, .int .i64 m.time.toInt, .int .i64 m.cls.toInt, .int .i64 (m.high.toNat : Int), .int .i64 m.bank.toInt, .int .i64 m.place.toInt, .int .i64 (m.value.toNat : Int)]) (V := fun r => .slice (some ⟨r, 0, none⟩) 7 7) (by kernel_rfl) ?_
  intro b15 w16 m17 lb15 ub15 hB18
  replace hB4 := hB4.mod m17 (fun q => q)
  replace HM := HM.tr0 m17
  have hszw16 := m17.size
  refine st_fn (d := 27) (f := 103) (xs := #[.slice none 0 0, .slice (some ⟨b15, 0, none⟩) 7 7]) (R := _) (by kernel_rfl) (numbers_ok (w := w16) (B := some ⟨b15, 0, none⟩) (cB := 7) (m := [m.kind, m.time, m.cls, Int64.ofInt (m.high.toNat : Int), m.bank, m.place, Int64.ofInt (m.value.toNat : Int)]) (lo := b15) (hi := b15 + 1) (hm := (Blk.rd (t := tyI64) (l := [m.kind, m.time, m.cls, Int64.ofInt (m.high.toNat : Int), m.bank, m.place, Int64.ofInt (m.value.toNat : Int)]) hB18 (by simp only [Ty.cells, tyI64, List.flatMap_cons, List.flatMap_nil, List.append_nil, List.cons_append, List.nil_append]; first | rfl | (simp only [i64_val (e := (m.high.toNat : Int)) (by omega) (by omega), i64_val (e := (m.value.toNat : Int)) (by omega) (by omega)]) | (simp only [i64_val (e := (m.high.toNat : Int)) (by omega) (by omega), i64_val (e := (m.value.toNat : Int)) (by omega) (by omega)]; rfl)) (by simp) b15 (b15 + 1) (Nat.le_refl _) (by omega))) (B_n := by intro h; cases h) (B_c := by simp) (hm_hi := by omega) (hll := by first | omega | (simp only [List.length_cons, List.length_nil, List.length_append, List.length_take, List.length_drop] at *; omega))) ?_
  rintro vw22 w22 ⟨l19, A20, c21, rfl, A20_n, A20_c, rfl, hO_24, hR_25, m26⟩
  have ha27 := nums_len ([m.kind, m.time, m.cls, Int64.ofInt (m.high.toNat : Int), m.bank, m.place, Int64.ofInt (m.value.toNat : Int)])
  replace hB4 := hB4.mod m26 (fun q => q)
  replace hB18 := hB18.mod m26 (fun q => q)
  replace HM := HM.tr0 m26
  have hszw22 := m26.size
  have hO_24_b := hO_24.bounds
  have hR_25_l := hR_25.len
  refine st_pure (l := [18, 19]) (rest := []) (L := [(2, .slice A20 ((nums ([m.kind, m.time, m.cls, Int64.ofInt (m.high.toNat : Int), m.bank, m.place, Int64.ofInt (m.value.toNat : Int)])).length) c21), (3, .int .i64 0)]) rfl (by kernel_rfl) ?_
  refine st_end ?_
  refine then_n ?_
  refine wp_ret ?_
  refine post_ret (v := .tuple #[.slice A20 ((nums ([m.kind, m.time, m.cls, Int64.ofInt (m.high.toNat : Int), m.bank, m.place, Int64.ofInt (m.value.toNat : Int)])).length) c21, .int .i64 0]) (by kernel_rfl) ?_
  refine ⟨(nums ([m.kind, m.time, m.cls, Int64.ofInt (m.high.toNat : Int), m.bank, m.place, Int64.ofInt (m.value.toNat : Int)])), 0, A20, c21, ?_, rfl, ?_, ?_, ?_, ?_, (hO_24.wide (by omega) (by omega)), (hR_25.wide (by omega) (by omega)), HM⟩
  ·rw [mbytes]
   try simp only [hsp7]
   rw [if_neg h10]
   all_goals (try rfl)
  ·exact A20_n
  ·first | exact A20_c | omega
  ·omega
  ·simp only [List.length_cons, List.length_nil] at *; omega

def lbl (l : List Msg) (b : List UInt8) : List UInt8 := l.foldl (fun b m => (blockOf b (mbytes m).1).1) b
theorem lbl_snoc (l : List Msg) (b : List UInt8) (x : Msg) : lbl (l ++ [x]) b = (blockOf (lbl l b) (mbytes x).1).1 := by simp [lbl]
def lbytes (ring : List Msg) (fr ct mk : Int) (en : Bool) : List UInt8 := lbl (allOf ring fr ct.toNat) (nums [Int64.ofInt (ring.length : Int), Int64.ofInt mk, if en = true then 1 else 0, Int64.ofInt ct])

theorem LBytes_ok {w : World} {r : Nat} {A : Option Addr} {cA : Nat} {ring : List Msg} {fr : Int} {ct : Int} {mk : Int} {en : Bool} {lo : Nat} {hi : Nat} (hr : Blk w r 147 [.slice A ring.length cA, .int .i64 fr, .int .i64 ct, .int .i64 mk, .bool en]) (hq : RdA tyMsg w lo hi A ring) (A_n : A = none → cA = 0) (A_c : ring.length ≤ cA) (fr_r : 0 ≤ fr ∧ fr ≤ 4096) (ct_r : 0 ≤ ct ∧ ct ≤ 4096) (mk_r : -9223372036854775808 ≤ mk ∧ mk ≤ 9223372036854775807) (hq_hi : hi ≤ w.heap.size) (hlen : 0 < ring.length ∧ ring.length ≤ 4096 ∧ fr < ring.length ∧ ct ≤ ring.length) :
  Ret Try.prog 34 #[.pointer (some ⟨r, 0, none⟩)] w fun v w' => ∃ l2 : List UInt8, ∃ A2 : Option Addr, ∃ c2 : Nat, v = .slice A2 l2.length c2 ∧ (A2 = none → c2 = 0) ∧ (l2.length ≤ c2) ∧ (l2 = lbytes ring fr ct mk en) ∧ (l2.length ≤ 300000) ∧ Own tyU8 5 w' (w.heap.size) (w'.heap.size) (.slice A2 l2.length c2) l2 ∧ RdA tyU8 w' (w.heap.size) (w'.heap.size) A2 l2 ∧ Mod (Nil) w w' := by
 have lt_hr := hr.lt
 have hq_l := hq.len
 have HM : Mod (Nil) w w := Mod.refl _ w
 refine ret_of Try.func34 rfl rfl ?_
 refine wp_seq ?_
 refine c_region (L := [0]) (by kernel_rfl) ?_
 refine st_pure (l := [0]) (rest := []) (L := [(2, .slice none 0 0)]) rfl (by kernel_rfl) ?_
 refine st_end ?_
 refine then_n ?_
 refine wp_seq ?_
 refine wp_seq ?_
 refine c_region (L := [0, 1, 2]) (by kernel_rfl) ?_
 refine st_pure (l := [0]) (rest := [1, 2]) (L := [(9, .pointer (some ⟨r, 0, none⟩))]) rfl (by kernel_rfl) ?_
 refine st_fn (d := 10) (f := 106) (xs := #[.pointer (some ⟨r, 0, none⟩)]) (R := _) (by kernel_rfl) (made_ok (w := w) (r := r) (A := A) (cA := cA) (ring := ring) (fr := fr) (ct := ct) (mk := mk) (en := en) (hr := hr) (A_n := A_n) (A_c := by first | exact A_c | omega) (fr_r := by omega) (ct_r := by omega) (mk_r := by omega) (hlen := by first | omega | (simp only [List.length_cons, List.length_nil, List.length_append, List.length_take, List.length_drop] at *; omega))) ?_
 rintro vw1 w1 ⟨rfl, m3⟩
 replace hr := hr.mod m3 (fun q => q)
 replace hq := hq.mod0 m3
 replace HM := HM.tr0 m3
 have hszw1 := m3.size
 refine st_pure (l := [2]) (rest := []) (L := [(11, .bool false)]) rfl (by kernel_rfl) ?_
 refine st_end ?_
 refine then_n ?_
 refine c_false (by kernel_rfl) ?_
 refine wp_skip ?_
 refine then_n ?_
 refine wp_seq ?_
 refine c_region (L := [0]) (by kernel_rfl) ?_
 refine st_pure (l := [0]) (rest := []) (L := [(3, .int .i64 0)]) rfl (by kernel_rfl) ?_
 refine st_end ?_
 refine then_n ?_
 refine wp_seq ?_
 refine wp_seq ?_
 refine c_region (L := [0, 1, 2, 3]) (by kernel_rfl) ?_
 refine st_pure (l := [0, 1, 2]) (rest := [3]) (L := [(12, .pointer (some ⟨r, 0, none⟩)), (13, .pointer (some ⟨r, 0, none⟩)), (14, .pointer (some ⟨r, 4, none⟩))]) rfl (by kernel_rfl) ?_
 by_cases h4 : en = true
 ·skip
  have hb5 : (en) = true := by simpa using h4
  refine st_load (d := 15) (t := 4) (cs := _) (v := .bool true) (by kernel_rfl) (hr.sub 4) (Eq.trans (b := some (.bool en)) (by kernel_rfl) (by rw [hb5])) ?_
  refine st_end ?_
  refine then_n ?_
  refine c_true (by kernel_rfl) ?_
  refine c_region (L := [0]) (by kernel_rfl) ?_
  refine st_pure (l := [0]) (rest := []) (L := [(3, .int .i64 1)]) rfl (by kernel_rfl) ?_
  refine st_end ?_
  refine then_n ?_
  refine wp_seq ?_
  refine c_drawS (Nil) (Nil) [0, 1, 2, 3, 4, 5, 6, 7, 8, 9, 10, 11, 12, 13, 16] [] 0 (fun _ q => q) (by kernel_rfl) (n := 17) (by kernel_rfl) (by kernel_rfl) ?_
  intro w6 HGw6
  have hr_w6 := hr
  have hq_w6 := hq
  have HC7 : Mod (Nil) w1 w6 := Mod.weaken HGw6 fun _ _ q => q.elim
  replace hr := hr.mod HGw6 (fun q => q)
  replace hq := hq.mod0 HGw6
  replace HM := HM.tr0 HGw6
  have hszw6 := HGw6.size
  refine m_p (k := 0) (n := 3) (fuel := 14) (L := [(16, .pointer (some ⟨r, 0, none⟩)), (17, .pointer (some ⟨r, 0, none⟩)), (18, .pointer (some ⟨r, 0, none⟩))]) (by kernel_rfl) (by kernel_rfl) rfl ?_
  refine m_load (d := 19) (t := 45) (b := r) (o := 0) (v := .slice A ring.length cA) (by kernel_rfl) (by kernel_rfl) (fun wQ (mQ : Mod (Nil) w1 wQ) => (hr_w6.mod mQ (fun q => q)).sub 0) (by kernel_rfl) ?_
  refine m_p (k := 4) (n := 4) (fuel := 9) (L := [(20, .int .i64 (ring.length : Int)), (21, .pointer (some ⟨r, 0, none⟩)), (22, .pointer (some ⟨r, 0, none⟩)), (23, .pointer (some ⟨r, 3, none⟩))]) (by kernel_rfl) (by kernel_rfl) rfl ?_
  refine m_load (d := 24) (t := 2) (b := r) (o := 3) (v := .int .i64 mk) (by kernel_rfl) (by kernel_rfl) (fun wQ (mQ : Mod (Nil) w1 wQ) => (hr_w6.mod mQ (fun q => q)).sub 3) (by kernel_rfl) ?_
  refine m_p (k := 9) (n := 4) (fuel := 4) (L := [(25, .int .i64 1), (26, .pointer (some ⟨r, 0, none⟩)), (27, .pointer (some ⟨r, 0, none⟩)), (28, .pointer (some ⟨r, 2, none⟩))]) (by kernel_rfl) (by kernel_rfl) rfl ?_
  refine m_load (d := 29) (t := 3) (b := r) (o := 2) (v := .int .i64 ct) (by kernel_rfl) (by kernel_rfl) (fun wQ (mQ : Mod (Nil) w1 wQ) => (hr_w6.mod mQ (fun q => q)).sub 2) (by kernel_rfl) ?_
  refine m_Q (by kernel_rfl) ?_
  refine st_new (d := 30) (e := 3) (C := [.int .i64 (ring.length : Int), .int .i64 mk, .int .i64 1, .int .i64 ct]) (V := fun r => .slice (some ⟨r, 0, none⟩) 4 4) (by kernel_rfl) ?_
  intro b8 w9 m10 lb8 ub8 hB11
  replace hr := hr.mod m10 (fun q => q)
  replace hq := hq.mod0 m10
  replace HM := HM.tr0 m10
  have hszw9 := m10.size
  have HC12 := HC7.tr0 m10
  refine st_end (m_after HC12 ?_)
  refine m_Q (by kernel_rfl) ?_
  refine st_fn (d := 31) (f := 103) (xs := #[.slice none 0 0, .slice (some ⟨b8, 0, none⟩) 4 4]) (R := _) (by kernel_rfl) (numbers_ok (w := w9) (B := some ⟨b8, 0, none⟩) (cB := 4) (m := [Int64.ofInt (ring.length : Int), Int64.ofInt mk, (1 : Int64), Int64.ofInt ct]) (lo := b8) (hi := b8 + 1) (hm := (Blk.rd (t := tyI64) (l := [Int64.ofInt (ring.length : Int), Int64.ofInt mk, (1 : Int64), Int64.ofInt ct]) hB11 (by simp only [Ty.cells, tyI64, List.flatMap_cons, List.flatMap_nil, List.append_nil, List.cons_append, List.nil_append]; first | rfl | (simp only [i64_val (e := (ring.length : Int)) (by omega) (by omega), i64_val (e := mk) (by omega) (by omega), show (1 : Int64).toInt = 1 from rfl, i64_val (e := ct) (by omega) (by omega)]) | (simp only [i64_val (e := (ring.length : Int)) (by omega) (by omega), i64_val (e := mk) (by omega) (by omega), show (1 : Int64).toInt = 1 from rfl, i64_val (e := ct) (by omega) (by omega)]; rfl)) (by simp) b8 (b8 + 1) (Nat.le_refl _) (by omega))) (B_n := by intro h; cases h) (B_c := by simp) (hm_hi := by omega) (hll := by first | omega | (simp only [List.length_cons, List.length_nil, List.length_append, List.length_take, List.length_drop] at *; omega))) ?_
  rintro vw16 w16 ⟨l13, A14, c15, rfl, A14_n, A14_c, rfl, hO_18, hR_19, m20⟩
  have ha21 := nums_len ([Int64.ofInt (ring.length : Int), Int64.ofInt mk, (1 : Int64), Int64.ofInt ct])
  replace hr := hr.mod m20 (fun q => q)
  replace hq := hq.mod0 m20
  replace hB11 := hB11.mod m20 (fun q => q)
  replace HM := HM.tr0 m20
  have hszw16 := m20.size
  have HC22 := HC12.tr0 m20
  have hO_18_b := hO_18.bounds
  have hR_19_l := hR_19.len
  refine st_end (m_after HC22 ?_)
  refine m_p (k := 16) (n := 1) (fuel := 0) (L := [(4, .slice A14 ((nums ([Int64.ofInt (ring.length : Int), Int64.ofInt mk, (1 : Int64), Int64.ofInt ct])).length) c15)]) (by kernel_rfl) (by kernel_rfl) rfl ?_
  refine m_end ?_
  refine then_n ?_
  refine wp_seq ?_
  refine wp_seq ?_
  refine c_region (L := [0, 1, 2, 3]) (by kernel_rfl) ?_
  refine st_pure (l := [0]) (rest := [1, 2, 3]) (L := [(32, .pointer (some ⟨r, 0, none⟩))]) rfl (by kernel_rfl) ?_
  refine st_fn (d := 33) (f := 36) (xs := #[.pointer (some ⟨r, 0, none⟩)]) (R := _) (by kernel_rfl) (All_ok (w := w16) (r := r) (A := A) (cA := cA) (ring := ring) (fr := fr) (ct := ct) (mk := mk) (en := en) (lo := lo) (hi := hi) (hr := hr) (hq := hq) (A_n := A_n) (A_c := by first | exact A_c | omega) (fr_r := by omega) (ct_r := by omega) (mk_r := by omega) (hq_hi := by omega) (hlen := by first | omega | (simp only [List.length_cons, List.length_nil, List.length_append, List.length_take, List.length_drop] at *; omega))) ?_
  rintro vw26 w26 ⟨l23, A24, c25, rfl, A24_n, A24_c, rfl, hO_28, hR_29, m30⟩
  have ha31 := allOf_len ring fr ct.toNat
  replace hr := hr.mod m30 (fun q => q)
  replace hq := hq.mod0 m30
  replace hB11 := hB11.mod m30 (fun q => q)
  replace hO_18 := hO_18.mod0 m30
  replace hR_19 := hR_19.mod0 m30
  replace HM := HM.tr0 m30
  have hszw26 := m30.size
  have hO_28_b := hO_28.bounds
  have hR_29_l := hR_29.len
  refine st_pure (l := [2, 3]) (rest := []) (L := [(34, .int .i64 ((allOf ring fr ct.toNat).length : Int)), (35, .int .i64 0)]) rfl (by kernel_rfl) ?_
  refine st_end ?_
  refine then_n ?_
  refine wp_block ?_
  refine c_loop (σ := Int × Option Addr × Nat × List UInt8) (fun s a w' => match s with | ⟨i, Ag, cg, acc⟩ => Fr 52 [(0, .pointer (some ⟨r, 0, none⟩)), (2, .slice none 0 0), (3, .int .i64 1), (4, .slice Ag acc.length cg), (9, .pointer (some ⟨r, 0, none⟩)), (10, .bool true), (11, .bool false), (12, .pointer (some ⟨r, 0, none⟩)), (13, .pointer (some ⟨r, 0, none⟩)), (14, .pointer (some ⟨r, 4, none⟩)), (15, .bool true), (16, .pointer (some ⟨r, 0, none⟩)), (17, .pointer (some ⟨r, 0, none⟩)), (18, .pointer (some ⟨r, 0, none⟩)), (19, .slice A ring.length cA), (20, .int .i64 (ring.length : Int)), (21, .pointer (some ⟨r, 0, none⟩)), (22, .pointer (some ⟨r, 0, none⟩)), (23, .pointer (some ⟨r, 3, none⟩)), (24, .int .i64 mk), (25, .int .i64 1), (26, .pointer (some ⟨r, 0, none⟩)), (27, .pointer (some ⟨r, 0, none⟩)), (28, .pointer (some ⟨r, 2, none⟩)), (29, .int .i64 ct), (30, .slice (some ⟨b8, 0, none⟩) 4 4), (31, .slice A14 ((nums ([Int64.ofInt (ring.length : Int), Int64.ofInt mk, (1 : Int64), Int64.ofInt ct])).length) c15), (32, .pointer (some ⟨r, 0, none⟩)), (33, .slice A24 ((allOf ring fr ct.toNat).length) c25), (34, .int .i64 ((allOf ring fr ct.toNat).length : Int)), (35, .int .i64 i)] a ∧ Mod (Nil) w w' ∧ w26.heap.size ≤ w'.heap.size ∧ Blk w' r 147 [.slice A ring.length cA, .int .i64 fr, .int .i64 ct, .int .i64 mk, .bool en] ∧ RdA tyMsg w' lo hi A ring ∧ Blk w' b8 3 [.int .i64 (ring.length : Int), .int .i64 mk, .int .i64 1, .int .i64 ct] ∧ Own tyMsg 35 w' w16.heap.size w26.heap.size (.slice A24 (allOf ring fr ct.toNat).length c25) (allOf ring fr ct.toNat) ∧ RdA tyMsg w' w16.heap.size w26.heap.size A24 (allOf ring fr ct.toNat) ∧ Own tyU8 5 w' w.heap.size (w'.heap.size) (.slice Ag acc.length cg) acc ∧ RdA tyU8 w' w.heap.size (w'.heap.size) Ag acc ∧ (0 ≤ i ∧ i ≤ ct) ∧ (Ag = none → cg = 0) ∧ (acc.length ≤ cg) ∧ (acc = lbl ((allOf ring fr ct.toNat).take (i.toNat)) ((nums ([Int64.ofInt (ring.length : Int), Int64.ofInt mk, (1 : Int64), Int64.ofInt ct])))) ∧ ((acc.length : Int) ≤ 36 + 72 * i) ∧ True) (fun s => match s with | ⟨i, Ag, cg, acc⟩ => (ct - i).toNat) (0, A14, c15, (nums ([Int64.ofInt (ring.length : Int), Int64.ofInt mk, (1 : Int64), Int64.ofInt ct]))) ?_ ?_
  ·refine ⟨Fr.mk (by kernel_rfl) (by kernel_rfl), HM, Nat.le_refl _, hr, hq, hB11, hO_28, hR_29, hO_18.wide (by omega) (by omega), hR_19.wide (by omega) (by omega), ?_, ?_, ?_, ?_, ?_, trivial⟩
   ·omega
   ·exact A14_n
   ·first | exact A14_c | omega
   ·rfl
   ·have := nums_len [(0 : Int64)]; simp only [List.length_cons, List.length_nil] at *; omega
  ·rintro ⟨i, Ag, cg, acc⟩ a w32 ⟨⟨Tf, rfl⟩, HM', hszw32, hr', hq', hB11', hO_28', hR_29', hG', hH', hib, Ag_n, Ag_c, hinv, hbl, -⟩
   clear HM hr hq hB11 hO_18 hR_19 hO_28 hR_29
   have HM := HM'; clear HM'
   have hr := hr'; clear hr'
   have hq := hq'; clear hq'
   have hB11 := hB11'; clear hB11'
   have hO_28 := hO_28'; clear hO_28'
   have hR_29 := hR_29'; clear hR_29'
   have hG := hG'; clear hG'
   have hH := hH'; clear hH'
   refine wp_seq ?_
   refine c_region (L := [0]) (by kernel_rfl) ?_
   by_cases h33 : i < ((allOf ring fr ct.toNat).length : Int)
   ·skip
    have hb34 : (decide (i < ((allOf ring fr ct.toNat).length : Int))) = true := decide_eq_true h33
    refine st_pure (l := [0]) (rest := []) (L := [(36, .bool true)]) rfl (Eq.trans (b := some [(36, .bool (decide (i < ((allOf ring fr ct.toNat).length : Int))))]) (by kernel_rfl) (by simp only [hb34])) ?_
    refine st_end ?_
    refine then_n ?_
    refine wp_seq ?_
    refine c_true (by kernel_rfl) ?_
    refine wp_skip ?_
    refine then_n ?_
    refine wp_seq ?_
    refine wp_block ?_
    refine wp_seq ?_
    refine c_region (L := [0, 1, 2, 3]) (by kernel_rfl) ?_
    have hi38 : (i).toNat < (allOf ring fr ct.toNat).length := by omega
    obtain ⟨b35, o36, ehA37, lhA37, uhA37, hA37⟩ := hR_29.get hi38
    obtain ⟨x39, ex39⟩ : ∃ y, y = (allOf ring fr ct.toNat)[(i).toNat] := ⟨_, rfl⟩
    rw [← ex39] at hA37
    have dx39 := getD_of (d := Msg.zero) hi38 ex39
    have hrx39_0 := i64_lo x39.kind
    have hrx39_1 := i64_lo x39.time
    have hrx39_2 := i64_lo x39.cls
    have hrx39_4 := i64_lo x39.bank
    have hrx39_5 := i64_lo x39.place
    have hsx39_0 := i64_hi x39.kind
    have hsx39_1 := i64_hi x39.time
    have hsx39_2 := i64_hi x39.cls
    have hsx39_3 := u8_hi x39.high
    have hsx39_4 := i64_hi x39.bank
    have hsx39_5 := i64_hi x39.place
    have hsx39_6 := u8_hi x39.value
    refine st_index (d := 37) (tn := 45) (n := (allOf ring fr ct.toNat).length) (c := c25) (ix := i) (k := .i64) (e := 35) (t := tyMsg) (b := b35) (by kernel_rfl) Try.underlying45 (by kernel_rfl) ehA37 (by omega) (by omega) ?_
    refine st_load (d := 38) (t := 35) (cs := _) (v := .agg #[.int .i64 x39.kind.toInt, .int .i64 x39.time.toInt, .int .i64 x39.cls.toInt, .int .u8 (x39.high.toNat : Int), .int .i64 x39.bank.toInt, .int .i64 x39.place.toInt, .int .u8 (x39.value.toNat : Int)]) (by kernel_rfl) (hA37.dropk 0) (by kernel_rfl) ?_
    refine st_new (d := 6) (e := 35) (C := [.int .i64 0, .int .i64 0, .int .i64 0, .int .u8 0, .int .i64 0, .int .i64 0, .int .u8 0]) (V := fun r => .pointer (some ⟨r, 0, none⟩)) (by kernel_rfl) ?_
    intro b40 w41 m42 lb40 ub40 hB43
    replace hr := hr.mod m42 (fun q => q)
    replace hq := hq.mod0 m42
    replace hB11 := hB11.mod m42 (fun q => q)
    replace hO_28 := hO_28.mod0 m42
    replace hR_29 := hR_29.mod0 m42
    replace hG := hG.mod0 m42
    replace hH := hH.mod0 m42
    replace hA37 := hA37.mod m42 (fun q => q)
    replace HM := HM.tr0 m42
    have hszw41 := m42.size
    refine st_store (t := 35) (v := .agg #[.int .i64 x39.kind.toInt, .int .i64 x39.time.toInt, .int .i64 x39.cls.toInt, .int .u8 (x39.high.toNat : Int), .int .i64 x39.bank.toInt, .int .i64 x39.place.toInt, .int .u8 (x39.value.toNat : Int)]) (o := 0) (C' := [.int .i64 x39.kind.toInt, .int .i64 x39.time.toInt, .int .i64 x39.cls.toInt, .int .u8 (x39.high.toNat : Int), .int .i64 x39.bank.toInt, .int .i64 x39.place.toInt, .int .u8 (x39.value.toNat : Int)]) (by kernel_rfl) hB43 (by kernel_rfl) ?_
    intro w44 m45 zm45 NhB43
    clear hB43; have hB43 := NhB43; clear NhB43
    replace hr := hr.mod m45 (by intro h3; (try simp only [Iv] at h3); omega)
    replace hq := hq.mod m45 (by intro k h1 h2 h3; (try simp only [Iv] at h3); omega)
    replace hB11 := hB11.mod m45 (by intro h3; (try simp only [Iv] at h3); omega)
    replace hO_28 := hO_28.mod m45 (by intro k h1 h2 h3; (try simp only [Iv] at h3); omega)
    replace hR_29 := hR_29.mod m45 (by intro k h1 h2 h3; (try simp only [Iv] at h3); omega)
    replace hG := hG.mod m45 (by intro k h1 h2 h3; (try simp only [Iv] at h3); omega)
    replace hH := hH.mod m45 (by intro k h1 h2 h3; (try simp only [Iv] at h3); omega)
    replace hA37 := hA37.mod m45 (by intro h3; (try simp only [Iv] at h3); omega)
    replace HM := HM.trans m45 (by intro k h1 h3; (try simp only [Iv] at h3 ⊢); omega)
    have hszw44 := m45.size
    refine st_end ?_
    refine then_n ?_
    refine wp_seq ?_
    refine c_region (L := [0, 1, 2, 3, 4, 5, 6]) (by kernel_rfl) ?_
    refine st_load (d := 40) (t := 35) (cs := _) (v := .agg #[.int .i64 x39.kind.toInt, .int .i64 x39.time.toInt, .int .i64 x39.cls.toInt, .int .u8 (x39.high.toNat : Int), .int .i64 x39.bank.toInt, .int .i64 x39.place.toInt, .int .u8 (x39.value.toNat : Int)]) (by kernel_rfl) (hB43.sub 0) (by kernel_rfl) ?_
    refine st_fn (d := 41) (f := 15) (xs := #[.agg #[.int .i64 x39.kind.toInt, .int .i64 x39.time.toInt, .int .i64 x39.cls.toInt, .int .u8 (x39.high.toNat : Int), .int .i64 x39.bank.toInt, .int .i64 x39.place.toInt, .int .u8 (x39.value.toNat : Int)]]) (R := _) (by kernel_rfl) (Bytes_ok (w := w44) (m := x39) ) ?_
    rintro vw50 w50 ⟨l46, e47, A48, c49, hsp51, rfl, A48_n, A48_c, e47_r, l2_b53, hO_54, hR_55, m56⟩
    replace hr := hr.mod m56 (fun q => q)
    replace hq := hq.mod0 m56
    replace hB11 := hB11.mod m56 (fun q => q)
    replace hO_28 := hO_28.mod0 m56
    replace hR_29 := hR_29.mod0 m56
    replace hG := hG.mod0 m56
    replace hH := hH.mod0 m56
    replace hA37 := hA37.mod m56 (fun q => q)
    replace hB43 := hB43.mod m56 (fun q => q)
    replace HM := HM.tr0 m56
    have hszw50 := m56.size
    have hO_54_b := hO_54.bounds
    have hR_55_l := hR_55.len
    refine st_pure (l := [2, 3, 4, 5, 6]) (rest := []) (L := [(39, .tuple #[.slice A48 l46.length c49, .int .i64 e47]), (42, .slice A48 l46.length c49), (43, .int .i64 e47), (7, .slice A48 l46.length c49), (8, .int .i64 e47)]) rfl (by kernel_rfl) ?_
    refine st_end ?_
    refine then_n ?_
    refine c_region (L := [0, 1, 2, 3, 4, 5, 6]) (by kernel_rfl) ?_
    refine st_pure (l := [0, 1]) (rest := [2, 3, 4, 5, 6]) (L := [(45, .slice Ag acc.length cg), (46, .slice A48 l46.length c49)]) rfl (by kernel_rfl) ?_
    refine st_fn (d := 47) (f := 115) (xs := #[.slice Ag acc.length cg, .slice A48 l46.length c49]) (R := _) (by kernel_rfl) (Block (w := w50) (A := Ag) (cA := cg) (l := acc) (lo := w.heap.size) (hi := w32.heap.size) (B := A48) (cB := c49) (m := l46) (lo' := w44.heap.size) (hi' := w50.heap.size) (hl := hH) (hm := hR_55) (A_n := Ag_n) (A_c := by first | exact Ag_c | omega) (B_n := A48_n) (B_c := by first | exact A48_c | omega) (hl_hi := by omega) (hm_hi := by omega) (hll := by first | omega | (simp only [List.length_cons, List.length_nil, List.length_append, List.length_take, List.length_drop] at *; omega))) ?_
    rintro vw61 w61 ⟨l57, e58, A59, c60, hsp62, rfl, A59_n, A59_c, e58_r, l2_b64, hO_65, hR_66, m67⟩
    replace hr := hr.mod m67 (fun q => q)
    replace hq := hq.mod0 m67
    replace hB11 := hB11.mod m67 (fun q => q)
    replace hO_28 := hO_28.mod0 m67
    replace hR_29 := hR_29.mod0 m67
    replace hG := hG.mod0 m67
    replace hH := hH.mod0 m67
    replace hA37 := hA37.mod m67 (fun q => q)
    replace hB43 := hB43.mod m67 (fun q => q)
    replace hO_54 := hO_54.mod0 m67
    replace hR_55 := hR_55.mod0 m67
    replace HM := HM.tr0 m67
    have hszw61 := m67.size
    have hO_65_b := hO_65.bounds
    have hR_66_l := hR_66.len
    refine st_pure (l := [3, 4, 5, 6]) (rest := []) (L := [(44, .tuple #[.slice A59 l57.length c60, .int .i64 e58]), (48, .slice A59 l57.length c60), (49, .int .i64 e58), (4, .slice A59 l57.length c60)]) rfl (by kernel_rfl) ?_
    refine st_end ?_
    refine blk_n ?_
    refine then_n ?_
    refine c_region (L := [0, 1]) (by kernel_rfl) ?_
    have hw68 : IntKind.wrap .i64 (i + 1) = i + 1 := wi64 (by omega) (by omega)
    refine st_pure (l := [0]) (rest := [1]) (L := [(50, .int .i64 (i + 1))]) rfl (Eq.trans (b := some [(50, .int .i64 (IntKind.wrap .i64 (i + 1)))]) (by kernel_rfl) (by simp only [hw68])) ?_
    refine st_pure (l := [1]) (rest := []) (L := [(35, .int .i64 (i + 1))]) rfl (by kernel_rfl) ?_
    refine st_end ?_
    refine then_n ?_
    refine ⟨(i + 1, A59, c60, l57), ⟨Fr.mk (by kernel_rfl) (by kernel_rfl), HM, by omega, hr, hq, hB11, hO_28, hR_29, hO_65.wide (by omega) (by omega), hR_66.wide (by omega) (by omega), ?_, ?_, ?_, ?_, ?_, trivial⟩, ?_⟩
    ·omega
    ·exact A59_n
    ·first | exact A59_c | omega
    ·rw [show (i + 1).toNat = i.toNat + 1 by omega, take_snoc (by omega) ex39, lbl_snoc, ← hinv, hsp51]; dsimp only; rw [hsp62]
    ·omega
    ·dsimp only; omega
   ·skip
    have hb69 : (decide (i < ((allOf ring fr ct.toNat).length : Int))) = false := decide_eq_false h33
    refine st_pure (l := [0]) (rest := []) (L := [(36, .bool false)]) rfl (Eq.trans (b := some [(36, .bool (decide (i < ((allOf ring fr ct.toNat).length : Int))))]) (by kernel_rfl) (by simp only [hb69])) ?_
    refine st_end ?_
    refine then_n ?_
    refine wp_seq ?_
    refine c_false (by kernel_rfl) ?_
    refine wp_exit ?_
    refine then_x ?_
    refine then_x ?_
    refine blk_hit ?_
    refine then_n ?_
    refine wp_seq ?_
    refine c_region (L := [0, 1]) (by kernel_rfl) ?_
    refine st_pure (l := [0, 1]) (rest := []) (L := [(51, .slice Ag acc.length cg), (2, .slice Ag acc.length cg)]) rfl (by kernel_rfl) ?_
    refine st_end ?_
    refine then_n ?_
    refine wp_ret ?_
    refine post_ret (v := .slice Ag acc.length cg) (by kernel_rfl) ?_
    refine ⟨acc, Ag, cg, rfl, ?_, ?_, ?_, ?_, hG, hH, HM⟩
    ·exact Ag_n
    ·first | exact Ag_c | omega
    ·rw [hinv, List.take_of_length_le (by omega)]; simp_all [lbytes]
    ·omega
 ·skip
  have hb70 : (en) = false := by simpa using h4
  refine st_load (d := 15) (t := 4) (cs := _) (v := .bool false) (by kernel_rfl) (hr.sub 4) (Eq.trans (b := some (.bool en)) (by kernel_rfl) (by rw [hb70])) ?_
  refine st_end ?_
  refine then_n ?_
  refine c_false (by kernel_rfl) ?_
  refine wp_skip ?_
  refine then_n ?_
  refine wp_seq ?_
  refine c_drawS (Nil) (Nil) [0, 1, 2, 3, 4, 5, 6, 7, 8, 9, 10, 11, 12, 13, 16] [] 0 (fun _ q => q) (by kernel_rfl) (n := 17) (by kernel_rfl) (by kernel_rfl) ?_
  intro w71 HGw71
  have hr_w71 := hr
  have hq_w71 := hq
  have HC72 : Mod (Nil) w1 w71 := Mod.weaken HGw71 fun _ _ q => q.elim
  replace hr := hr.mod HGw71 (fun q => q)
  replace hq := hq.mod0 HGw71
  replace HM := HM.tr0 HGw71
  have hszw71 := HGw71.size
  refine m_p (k := 0) (n := 3) (fuel := 14) (L := [(16, .pointer (some ⟨r, 0, none⟩)), (17, .pointer (some ⟨r, 0, none⟩)), (18, .pointer (some ⟨r, 0, none⟩))]) (by kernel_rfl) (by kernel_rfl) rfl ?_
  refine m_load (d := 19) (t := 45) (b := r) (o := 0) (v := .slice A ring.length cA) (by kernel_rfl) (by kernel_rfl) (fun wQ (mQ : Mod (Nil) w1 wQ) => (hr_w71.mod mQ (fun q => q)).sub 0) (by kernel_rfl) ?_
  refine m_p (k := 4) (n := 4) (fuel := 9) (L := [(20, .int .i64 (ring.length : Int)), (21, .pointer (some ⟨r, 0, none⟩)), (22, .pointer (some ⟨r, 0, none⟩)), (23, .pointer (some ⟨r, 3, none⟩))]) (by kernel_rfl) (by kernel_rfl) rfl ?_
  refine m_load (d := 24) (t := 2) (b := r) (o := 3) (v := .int .i64 mk) (by kernel_rfl) (by kernel_rfl) (fun wQ (mQ : Mod (Nil) w1 wQ) => (hr_w71.mod mQ (fun q => q)).sub 3) (by kernel_rfl) ?_
  refine m_p (k := 9) (n := 4) (fuel := 4) (L := [(25, .int .i64 0), (26, .pointer (some ⟨r, 0, none⟩)), (27, .pointer (some ⟨r, 0, none⟩)), (28, .pointer (some ⟨r, 2, none⟩))]) (by kernel_rfl) (by kernel_rfl) rfl ?_
  refine m_load (d := 29) (t := 3) (b := r) (o := 2) (v := .int .i64 ct) (by kernel_rfl) (by kernel_rfl) (fun wQ (mQ : Mod (Nil) w1 wQ) => (hr_w71.mod mQ (fun q => q)).sub 2) (by kernel_rfl) ?_
  refine m_Q (by kernel_rfl) ?_
  refine st_new (d := 30) (e := 3) (C := [.int .i64 (ring.length : Int), .int .i64 mk, .int .i64 0, .int .i64 ct]) (V := fun r => .slice (some ⟨r, 0, none⟩) 4 4) (by kernel_rfl) ?_
  intro b73 w74 m75 lb73 ub73 hB76
  replace hr := hr.mod m75 (fun q => q)
  replace hq := hq.mod0 m75
  replace HM := HM.tr0 m75
  have hszw74 := m75.size
  have HC77 := HC72.tr0 m75
  refine st_end (m_after HC77 ?_)
  refine m_Q (by kernel_rfl) ?_
  refine st_fn (d := 31) (f := 103) (xs := #[.slice none 0 0, .slice (some ⟨b73, 0, none⟩) 4 4]) (R := _) (by kernel_rfl) (numbers_ok (w := w74) (B := some ⟨b73, 0, none⟩) (cB := 4) (m := [Int64.ofInt (ring.length : Int), Int64.ofInt mk, (0 : Int64), Int64.ofInt ct]) (lo := b73) (hi := b73 + 1) (hm := (Blk.rd (t := tyI64) (l := [Int64.ofInt (ring.length : Int), Int64.ofInt mk, (0 : Int64), Int64.ofInt ct]) hB76 (by simp only [Ty.cells, tyI64, List.flatMap_cons, List.flatMap_nil, List.append_nil, List.cons_append, List.nil_append]; first | rfl | (simp only [i64_val (e := (ring.length : Int)) (by omega) (by omega), i64_val (e := mk) (by omega) (by omega), show (0 : Int64).toInt = 0 from rfl, i64_val (e := ct) (by omega) (by omega)]) | (simp only [i64_val (e := (ring.length : Int)) (by omega) (by omega), i64_val (e := mk) (by omega) (by omega), show (0 : Int64).toInt = 0 from rfl, i64_val (e := ct) (by omega) (by omega)]; rfl)) (by simp) b73 (b73 + 1) (Nat.le_refl _) (by omega))) (B_n := by intro h; cases h) (B_c := by simp) (hm_hi := by omega) (hll := by first | omega | (simp only [List.length_cons, List.length_nil, List.length_append, List.length_take, List.length_drop] at *; omega))) ?_
  rintro vw81 w81 ⟨l78, A79, c80, rfl, A79_n, A79_c, rfl, hO_83, hR_84, m85⟩
  have ha86 := nums_len ([Int64.ofInt (ring.length : Int), Int64.ofInt mk, (0 : Int64), Int64.ofInt ct])
  replace hr := hr.mod m85 (fun q => q)
  replace hq := hq.mod0 m85
  replace hB76 := hB76.mod m85 (fun q => q)
  replace HM := HM.tr0 m85
  have hszw81 := m85.size
  have HC87 := HC77.tr0 m85
  have hO_83_b := hO_83.bounds
  have hR_84_l := hR_84.len
  refine st_end (m_after HC87 ?_)
  refine m_p (k := 16) (n := 1) (fuel := 0) (L := [(4, .slice A79 ((nums ([Int64.ofInt (ring.length : Int), Int64.ofInt mk, (0 : Int64), Int64.ofInt ct])).length) c80)]) (by kernel_rfl) (by kernel_rfl) rfl ?_
  refine m_end ?_
  refine then_n ?_
  refine wp_seq ?_
  refine wp_seq ?_
  refine c_region (L := [0, 1, 2, 3]) (by kernel_rfl) ?_
  refine st_pure (l := [0]) (rest := [1, 2, 3]) (L := [(32, .pointer (some ⟨r, 0, none⟩))]) rfl (by kernel_rfl) ?_
  refine st_fn (d := 33) (f := 36) (xs := #[.pointer (some ⟨r, 0, none⟩)]) (R := _) (by kernel_rfl) (All_ok (w := w81) (r := r) (A := A) (cA := cA) (ring := ring) (fr := fr) (ct := ct) (mk := mk) (en := en) (lo := lo) (hi := hi) (hr := hr) (hq := hq) (A_n := A_n) (A_c := by first | exact A_c | omega) (fr_r := by omega) (ct_r := by omega) (mk_r := by omega) (hq_hi := by omega) (hlen := by first | omega | (simp only [List.length_cons, List.length_nil, List.length_append, List.length_take, List.length_drop] at *; omega))) ?_
  rintro vw91 w91 ⟨l88, A89, c90, rfl, A89_n, A89_c, rfl, hO_93, hR_94, m95⟩
  have ha96 := allOf_len ring fr ct.toNat
  replace hr := hr.mod m95 (fun q => q)
  replace hq := hq.mod0 m95
  replace hB76 := hB76.mod m95 (fun q => q)
  replace hO_83 := hO_83.mod0 m95
  replace hR_84 := hR_84.mod0 m95
  replace HM := HM.tr0 m95
  have hszw91 := m95.size
  have hO_93_b := hO_93.bounds
  have hR_94_l := hR_94.len
  refine st_pure (l := [2, 3]) (rest := []) (L := [(34, .int .i64 ((allOf ring fr ct.toNat).length : Int)), (35, .int .i64 0)]) rfl (by kernel_rfl) ?_
  refine st_end ?_
  refine then_n ?_
  refine wp_block ?_
  refine c_loop (σ := Int × Option Addr × Nat × List UInt8) (fun s a w' => match s with | ⟨i, Ag, cg, acc⟩ => Fr 52 [(0, .pointer (some ⟨r, 0, none⟩)), (2, .slice none 0 0), (3, .int .i64 0), (4, .slice Ag acc.length cg), (9, .pointer (some ⟨r, 0, none⟩)), (10, .bool true), (11, .bool false), (12, .pointer (some ⟨r, 0, none⟩)), (13, .pointer (some ⟨r, 0, none⟩)), (14, .pointer (some ⟨r, 4, none⟩)), (15, .bool false), (16, .pointer (some ⟨r, 0, none⟩)), (17, .pointer (some ⟨r, 0, none⟩)), (18, .pointer (some ⟨r, 0, none⟩)), (19, .slice A ring.length cA), (20, .int .i64 (ring.length : Int)), (21, .pointer (some ⟨r, 0, none⟩)), (22, .pointer (some ⟨r, 0, none⟩)), (23, .pointer (some ⟨r, 3, none⟩)), (24, .int .i64 mk), (25, .int .i64 0), (26, .pointer (some ⟨r, 0, none⟩)), (27, .pointer (some ⟨r, 0, none⟩)), (28, .pointer (some ⟨r, 2, none⟩)), (29, .int .i64 ct), (30, .slice (some ⟨b73, 0, none⟩) 4 4), (31, .slice A79 ((nums ([Int64.ofInt (ring.length : Int), Int64.ofInt mk, (0 : Int64), Int64.ofInt ct])).length) c80), (32, .pointer (some ⟨r, 0, none⟩)), (33, .slice A89 ((allOf ring fr ct.toNat).length) c90), (34, .int .i64 ((allOf ring fr ct.toNat).length : Int)), (35, .int .i64 i)] a ∧ Mod (Nil) w w' ∧ w91.heap.size ≤ w'.heap.size ∧ Blk w' r 147 [.slice A ring.length cA, .int .i64 fr, .int .i64 ct, .int .i64 mk, .bool en] ∧ RdA tyMsg w' lo hi A ring ∧ Blk w' b73 3 [.int .i64 (ring.length : Int), .int .i64 mk, .int .i64 0, .int .i64 ct] ∧ Own tyMsg 35 w' w81.heap.size w91.heap.size (.slice A89 (allOf ring fr ct.toNat).length c90) (allOf ring fr ct.toNat) ∧ RdA tyMsg w' w81.heap.size w91.heap.size A89 (allOf ring fr ct.toNat) ∧ Own tyU8 5 w' w.heap.size (w'.heap.size) (.slice Ag acc.length cg) acc ∧ RdA tyU8 w' w.heap.size (w'.heap.size) Ag acc ∧ (0 ≤ i ∧ i ≤ ct) ∧ (Ag = none → cg = 0) ∧ (acc.length ≤ cg) ∧ (acc = lbl ((allOf ring fr ct.toNat).take (i.toNat)) ((nums ([Int64.ofInt (ring.length : Int), Int64.ofInt mk, (0 : Int64), Int64.ofInt ct])))) ∧ ((acc.length : Int) ≤ 36 + 72 * i) ∧ True) (fun s => match s with | ⟨i, Ag, cg, acc⟩ => (ct - i).toNat) (0, A79, c80, (nums ([Int64.ofInt (ring.length : Int), Int64.ofInt mk, (0 : Int64), Int64.ofInt ct]))) ?_ ?_
  ·refine ⟨Fr.mk (by kernel_rfl) (by kernel_rfl), HM, Nat.le_refl _, hr, hq, hB76, hO_93, hR_94, hO_83.wide (by omega) (by omega), hR_84.wide (by omega) (by omega), ?_, ?_, ?_, ?_, ?_, trivial⟩
   ·omega
   ·exact A79_n
   ·first | exact A79_c | omega
   ·rfl
   ·have := nums_len [(0 : Int64)]; simp only [List.length_cons, List.length_nil] at *; omega
  ·rintro ⟨i, Ag, cg, acc⟩ a w97 ⟨⟨Tf, rfl⟩, HM', hszw97, hr', hq', hB76', hO_93', hR_94', hG', hH', hib, Ag_n, Ag_c, hinv, hbl, -⟩
   clear HM hr hq hB76 hO_83 hR_84 hO_93 hR_94
   have HM := HM'; clear HM'
   have hr := hr'; clear hr'
   have hq := hq'; clear hq'
   have hB76 := hB76'; clear hB76'
   have hO_93 := hO_93'; clear hO_93'
   have hR_94 := hR_94'; clear hR_94'
   have hG := hG'; clear hG'
   have hH := hH'; clear hH'
   refine wp_seq ?_
   refine c_region (L := [0]) (by kernel_rfl) ?_
   by_cases h98 : i < ((allOf ring fr ct.toNat).length : Int)
   ·skip
    have hb99 : (decide (i < ((allOf ring fr ct.toNat).length : Int))) = true := decide_eq_true h98
    refine st_pure (l := [0]) (rest := []) (L := [(36, .bool true)]) rfl (Eq.trans (b := some [(36, .bool (decide (i < ((allOf ring fr ct.toNat).length : Int))))]) (by kernel_rfl) (by simp only [hb99])) ?_
    refine st_end ?_
    refine then_n ?_
    refine wp_seq ?_
    refine c_true (by kernel_rfl) ?_
    refine wp_skip ?_
    refine then_n ?_
    refine wp_seq ?_
    refine wp_block ?_
    refine wp_seq ?_
    refine c_region (L := [0, 1, 2, 3]) (by kernel_rfl) ?_
    have hi103 : (i).toNat < (allOf ring fr ct.toNat).length := by omega
    obtain ⟨b100, o101, ehA102, lhA102, uhA102, hA102⟩ := hR_94.get hi103
    obtain ⟨x104, ex104⟩ : ∃ y, y = (allOf ring fr ct.toNat)[(i).toNat] := ⟨_, rfl⟩
    rw [← ex104] at hA102
    have dx104 := getD_of (d := Msg.zero) hi103 ex104
    have hrx104_0 := i64_lo x104.kind
    have hrx104_1 := i64_lo x104.time
    have hrx104_2 := i64_lo x104.cls
    have hrx104_4 := i64_lo x104.bank
    have hrx104_5 := i64_lo x104.place
    have hsx104_0 := i64_hi x104.kind
    have hsx104_1 := i64_hi x104.time
    have hsx104_2 := i64_hi x104.cls
    have hsx104_3 := u8_hi x104.high
    have hsx104_4 := i64_hi x104.bank
    have hsx104_5 := i64_hi x104.place
    have hsx104_6 := u8_hi x104.value
    refine st_index (d := 37) (tn := 45) (n := (allOf ring fr ct.toNat).length) (c := c90) (ix := i) (k := .i64) (e := 35) (t := tyMsg) (b := b100) (by kernel_rfl) Try.underlying45 (by kernel_rfl) ehA102 (by omega) (by omega) ?_
    refine st_load (d := 38) (t := 35) (cs := _) (v := .agg #[.int .i64 x104.kind.toInt, .int .i64 x104.time.toInt, .int .i64 x104.cls.toInt, .int .u8 (x104.high.toNat : Int), .int .i64 x104.bank.toInt, .int .i64 x104.place.toInt, .int .u8 (x104.value.toNat : Int)]) (by kernel_rfl) (hA102.dropk 0) (by kernel_rfl) ?_
    refine st_new (d := 6) (e := 35) (C := [.int .i64 0, .int .i64 0, .int .i64 0, .int .u8 0, .int .i64 0, .int .i64 0, .int .u8 0]) (V := fun r => .pointer (some ⟨r, 0, none⟩)) (by kernel_rfl) ?_
    intro b105 w106 m107 lb105 ub105 hB108
    replace hr := hr.mod m107 (fun q => q)
    replace hq := hq.mod0 m107
    replace hB76 := hB76.mod m107 (fun q => q)
    replace hO_93 := hO_93.mod0 m107
    replace hR_94 := hR_94.mod0 m107
    replace hG := hG.mod0 m107
    replace hH := hH.mod0 m107
    replace hA102 := hA102.mod m107 (fun q => q)
    replace HM := HM.tr0 m107
    have hszw106 := m107.size
    refine st_store (t := 35) (v := .agg #[.int .i64 x104.kind.toInt, .int .i64 x104.time.toInt, .int .i64 x104.cls.toInt, .int .u8 (x104.high.toNat : Int), .int .i64 x104.bank.toInt, .int .i64 x104.place.toInt, .int .u8 (x104.value.toNat : Int)]) (o := 0) (C' := [.int .i64 x104.kind.toInt, .int .i64 x104.time.toInt, .int .i64 x104.cls.toInt, .int .u8 (x104.high.toNat : Int), .int .i64 x104.bank.toInt, .int .i64 x104.place.toInt, .int .u8 (x104.value.toNat : Int)]) (by kernel_rfl) hB108 (by kernel_rfl) ?_
    intro w109 m110 zm110 NhB108
    clear hB108; have hB108 := NhB108; clear NhB108
    replace hr := hr.mod m110 (by intro h3; (try simp only [Iv] at h3); omega)
    replace hq := hq.mod m110 (by intro k h1 h2 h3; (try simp only [Iv] at h3); omega)
    replace hB76 := hB76.mod m110 (by intro h3; (try simp only [Iv] at h3); omega)
    replace hO_93 := hO_93.mod m110 (by intro k h1 h2 h3; (try simp only [Iv] at h3); omega)
    replace hR_94 := hR_94.mod m110 (by intro k h1 h2 h3; (try simp only [Iv] at h3); omega)
    replace hG := hG.mod m110 (by intro k h1 h2 h3; (try simp only [Iv] at h3); omega)
    replace hH := hH.mod m110 (by intro k h1 h2 h3; (try simp only [Iv] at h3); omega)
    replace hA102 := hA102.mod m110 (by intro h3; (try simp only [Iv] at h3); omega)
    replace HM := HM.trans m110 (by intro k h1 h3; (try simp only [Iv] at h3 ⊢); omega)
    have hszw109 := m110.size
    refine st_end ?_
    refine then_n ?_
    refine wp_seq ?_
    refine c_region (L := [0, 1, 2, 3, 4, 5, 6]) (by kernel_rfl) ?_
    refine st_load (d := 40) (t := 35) (cs := _) (v := .agg #[.int .i64 x104.kind.toInt, .int .i64 x104.time.toInt, .int .i64 x104.cls.toInt, .int .u8 (x104.high.toNat : Int), .int .i64 x104.bank.toInt, .int .i64 x104.place.toInt, .int .u8 (x104.value.toNat : Int)]) (by kernel_rfl) (hB108.sub 0) (by kernel_rfl) ?_
    refine st_fn (d := 41) (f := 15) (xs := #[.agg #[.int .i64 x104.kind.toInt, .int .i64 x104.time.toInt, .int .i64 x104.cls.toInt, .int .u8 (x104.high.toNat : Int), .int .i64 x104.bank.toInt, .int .i64 x104.place.toInt, .int .u8 (x104.value.toNat : Int)]]) (R := _) (by kernel_rfl) (Bytes_ok (w := w109) (m := x104) ) ?_
    rintro vw115 w115 ⟨l111, e112, A113, c114, hsp116, rfl, A113_n, A113_c, e112_r, l2_b118, hO_119, hR_120, m121⟩
    replace hr := hr.mod m121 (fun q => q)
    replace hq := hq.mod0 m121
    replace hB76 := hB76.mod m121 (fun q => q)
    replace hO_93 := hO_93.mod0 m121
    replace hR_94 := hR_94.mod0 m121
    replace hG := hG.mod0 m121
    replace hH := hH.mod0 m121
    replace hA102 := hA102.mod m121 (fun q => q)
    replace hB108 := hB108.mod m121 (fun q => q)
    replace HM := HM.tr0 m121
    have hszw115 := m121.size
    have hO_119_b := hO_119.bounds
    have hR_120_l := hR_120.len
    refine st_pure (l := [2, 3, 4, 5, 6]) (rest := []) (L := [(39, .tuple #[.slice A113 l111.length c114, .int .i64 e112]), (42, .slice A113 l111.length c114), (43, .int .i64 e112), (7, .slice A113 l111.length c114), (8, .int .i64 e112)]) rfl (by kernel_rfl) ?_
    refine st_end ?_
    refine then_n ?_
    refine c_region (L := [0, 1, 2, 3, 4, 5, 6]) (by kernel_rfl) ?_
    refine st_pure (l := [0, 1]) (rest := [2, 3, 4, 5, 6]) (L := [(45, .slice Ag acc.length cg), (46, .slice A113 l111.length c114)]) rfl (by kernel_rfl) ?_
    refine st_fn (d := 47) (f := 115) (xs := #[.slice Ag acc.length cg, .slice A113 l111.length c114]) (R := _) (by kernel_rfl) (Block (w := w115) (A := Ag) (cA := cg) (l := acc) (lo := w.heap.size) (hi := w97.heap.size) (B := A113) (cB := c114) (m := l111) (lo' := w109.heap.size) (hi' := w115.heap.size) (hl := hH) (hm := hR_120) (A_n := Ag_n) (A_c := by first | exact Ag_c | omega) (B_n := A113_n) (B_c := by first | exact A113_c | omega) (hl_hi := by omega) (hm_hi := by omega) (hll := by first | omega | (simp only [List.length_cons, List.length_nil, List.length_append, List.length_take, List.length_drop] at *; omega))) ?_
    rintro vw126 w126 ⟨l122, e123, A124, c125, hsp127, rfl, A124_n, A124_c, e123_r, l2_b129, hO_130, hR_131, m132⟩
    replace hr := hr.mod m132 (fun q => q)
    replace hq := hq.mod0 m132
    replace hB76 := hB76.mod m132 (fun q => q)
    replace hO_93 := hO_93.mod0 m132
    replace hR_94 := hR_94.mod0 m132
    replace hG := hG.mod0 m132
    replace hH := hH.mod0 m132
    replace hA102 := hA102.mod m132 (fun q => q)
    replace hB108 := hB108.mod m132 (fun q => q)
    replace hO_119 := hO_119.mod0 m132
    replace hR_120 := hR_120.mod0 m132
    replace HM := HM.tr0 m132
    have hszw126 := m132.size
    have hO_130_b := hO_130.bounds
    have hR_131_l := hR_131.len
    refine st_pure (l := [3, 4, 5, 6]) (rest := []) (L := [(44, .tuple #[.slice A124 l122.length c125, .int .i64 e123]), (48, .slice A124 l122.length c125), (49, .int .i64 e123), (4, .slice A124 l122.length c125)]) rfl (by kernel_rfl) ?_
    refine st_end ?_
    refine blk_n ?_
    refine then_n ?_
    refine c_region (L := [0, 1]) (by kernel_rfl) ?_
    have hw133 : IntKind.wrap .i64 (i + 1) = i + 1 := wi64 (by omega) (by omega)
    refine st_pure (l := [0]) (rest := [1]) (L := [(50, .int .i64 (i + 1))]) rfl (Eq.trans (b := some [(50, .int .i64 (IntKind.wrap .i64 (i + 1)))]) (by kernel_rfl) (by simp only [hw133])) ?_
    refine st_pure (l := [1]) (rest := []) (L := [(35, .int .i64 (i + 1))]) rfl (by kernel_rfl) ?_
    refine st_end ?_
    refine then_n ?_
    refine ⟨(i + 1, A124, c125, l122), ⟨Fr.mk (by kernel_rfl) (by kernel_rfl), HM, by omega, hr, hq, hB76, hO_93, hR_94, hO_130.wide (by omega) (by omega), hR_131.wide (by omega) (by omega), ?_, ?_, ?_, ?_, ?_, trivial⟩, ?_⟩
    ·omega
    ·exact A124_n
    ·first | exact A124_c | omega
    ·rw [show (i + 1).toNat = i.toNat + 1 by omega, take_snoc (by omega) ex104, lbl_snoc, ← hinv, hsp116]; dsimp only; rw [hsp127]
    ·omega
    ·dsimp only; omega
   ·skip
    have hb134 : (decide (i < ((allOf ring fr ct.toNat).length : Int))) = false := decide_eq_false h98
    refine st_pure (l := [0]) (rest := []) (L := [(36, .bool false)]) rfl (Eq.trans (b := some [(36, .bool (decide (i < ((allOf ring fr ct.toNat).length : Int))))]) (by kernel_rfl) (by simp only [hb134])) ?_
    refine st_end ?_
    refine then_n ?_
    refine wp_seq ?_
    refine c_false (by kernel_rfl) ?_
    refine wp_exit ?_
    refine then_x ?_
    refine then_x ?_
    refine blk_hit ?_
    refine then_n ?_
    refine wp_seq ?_
    refine c_region (L := [0, 1]) (by kernel_rfl) ?_
    refine st_pure (l := [0, 1]) (rest := []) (L := [(51, .slice Ag acc.length cg), (2, .slice Ag acc.length cg)]) rfl (by kernel_rfl) ?_
    refine st_end ?_
    refine then_n ?_
    refine wp_ret ?_
    refine post_ret (v := .slice Ag acc.length cg) (by kernel_rfl) ?_
    refine ⟨acc, Ag, cg, rfl, ?_, ?_, ?_, ?_, hG, hH, HM⟩
    ·exact Ag_n
    ·first | exact Ag_c | omega
    ·rw [hinv, List.take_of_length_le (by omega)]; simp_all [lbytes]
    ·omega

end Go.Proofs.Ytjkapifbinmjhaa
