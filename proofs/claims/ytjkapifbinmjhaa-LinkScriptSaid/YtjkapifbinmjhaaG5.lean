import Derived.Test.YtjkapifbinmjhaaG4
namespace Go.Proofs.Ytjkapifbinmjhaa
open Go.Vx Go.RowKit
set_option linter.unusedVariables false
set_option linter.unusedSimpArgs false
set_option maxRecDepth 100000
def msg1 (l : List UInt8) : Msg × Bool :=
  match rd1 l 0 with
  | (x24, l27, e28) =>
   if x24 > 6 then
    (Msg.zero, false)
   else
    match rd1 l27 e28 with
    | (x43, l46, e47) =>
     if x43 > 1099511627776 then
      (Msg.zero, false)
     else
      match rd1 l46 e47 with
      | (x62, l65, e66) =>
       if x62 > 8 then
        (Msg.zero, false)
       else
        match rd1 l65 e66 with
        | (x81, l84, e85) =>
         if x81 > 255 then
          (Msg.zero, false)
         else
          match rd1 l84 e85 with
          | (x100, l103, e104) =>
           if x100 > 7 then
            (Msg.zero, false)
           else
            match rd1 l103 e104 with
            | (x119, l122, e123) =>
             if x119 > 16384 then
              (Msg.zero, false)
             else
              match rd1 l122 e123 with
              | (x138, l141, e142) =>
               if x138 > 255 then
                (Msg.zero, false)
               else
                match rend l141 e142 with
                | e167 =>
                 if e167 = 0 then
                  match Msg.of x24 x43 x62 x81 x100 x119 x138 with
                  | m176 =>
                   match chk m176 with
                   | e186 =>
                    (m176, e186 == 0)
                 else
                  match Msg.of x24 x43 x62 x81 x100 x119 x138 with
                  | m199 =>
                   (m199, false)

theorem message_ok {w : World} {A : Option Addr} {cA : Nat} {l : List UInt8} {lo : Nat} {hi : Nat} (hl : RdA tyU8 w lo hi A l) (A_n : A = none → cA = 0) (A_c : l.length ≤ cA) (hl_hi : hi ≤ w.heap.size) :
  Ret Try.prog 111 #[.slice A l.length cA] w fun v w' => ∃ m2 : Msg, ∃ d : Bool, msg1 l = (m2, d) ∧ v = .tuple #[.agg #[.int .i64 m2.kind.toInt, .int .i64 m2.time.toInt, .int .i64 m2.cls.toInt, .int .u8 (m2.high.toNat : Int), .int .i64 m2.bank.toInt, .int .i64 m2.place.toInt, .int .u8 (m2.value.toNat : Int)], .bool d] ∧ Mod (Nil) w w' := by
 have hl_l := hl.len
 have HM : Mod (Nil) w w := Mod.refl _ w
 refine ret_of Try.func111 rfl rfl ?_
 refine wp_seq ?_
 refine c_region (L := [0, 1]) (by kernel_rfl) ?_
 refine st_new (d := 2) (e := 35) (C := [.int .i64 0, .int .i64 0, .int .i64 0, .int .u8 0, .int .i64 0, .int .i64 0, .int .u8 0]) (V := fun r => .pointer (some ⟨r, 0, none⟩)) (by kernel_rfl) ?_
 intro b1 w2 m3 lb1 ub1 hB4
 replace hl := hl.mod0 m3
 replace HM := HM.tr0 m3
 have hszw2 := m3.size
 refine st_pure (l := [1]) (rest := []) (L := [(3, .bool false)]) rfl (by kernel_rfl) ?_
 refine st_end ?_
 refine then_n ?_
 refine wp_seq ?_
 refine c_region (L := [0, 1, 2]) (by kernel_rfl) ?_
 refine st_pure (l := [0]) (rest := [1, 2]) (L := [(10, .slice A l.length cA)]) rfl (by kernel_rfl) ?_
 refine st_fn (d := 11) (f := 108) (xs := #[.slice A l.length cA]) (R := _) (by kernel_rfl) (Reader_New (w := w2) (A := A) (cA := cA) (l := l) (lo := lo) (hi := hi) (hl := hl) (A_n := A_n) (A_c := by first | exact A_c | omega) (hl_hi := by omega)) ?_
 rintro vw10 w10 ⟨r5, A6, c7, lo8, hi9, rfl, A6_n, A6_c, hlr12, hr_13, hR_14, m15⟩
 replace hl := hl.mod0 m15
 replace hB4 := hB4.mod m15 (fun q => q)
 replace HM := HM.tr0 m15
 have hszw10 := m15.size
 have lt_hr_13 := hr_13.lt
 have hR_14_l := hR_14.len
 refine st_pure (l := [2]) (rest := []) (L := [(4, .pointer (some ⟨r5, 0, none⟩))]) rfl (by kernel_rfl) ?_
 refine st_end ?_
 refine then_n ?_
 refine wp_seq ?_
 refine c_region (L := [0]) (by kernel_rfl) ?_
 refine st_new (d := 5) (e := 211) (C := [.int .i64 0, .int .i64 0, .int .i64 0, .int .i64 0, .int .i64 0, .int .i64 0, .int .i64 0]) (V := fun r => .pointer (some ⟨r, 0, none⟩)) (by kernel_rfl) ?_
 intro b16 w17 m18 lb16 ub16 hB19
 replace hl := hl.mod0 m18
 replace hB4 := hB4.mod m18 (fun q => q)
 replace hr_13 := hr_13.mod m18 (fun q => q)
 replace hR_14 := hR_14.mod0 m18
 replace HM := HM.tr0 m18
 have hszw17 := m18.size
 refine st_end ?_
 refine then_n ?_
 refine wp_seq ?_
 refine wp_seq ?_
 refine c_region (L := [0, 1, 2]) (by kernel_rfl) ?_
 refine st_new (d := 12) (e := 149) (C := [.int .u64 6, .int .u64 1099511627776, .int .u64 8, .int .u64 255, .int .u64 7, .int .u64 16384, .int .u64 255]) (V := fun r => .slice (some ⟨r, 0, none⟩) 7 7) (by kernel_rfl) ?_
 intro b20 w21 m22 lb20 ub20 hB23
 replace hl := hl.mod0 m22
 replace hB4 := hB4.mod m22 (fun q => q)
 replace hr_13 := hr_13.mod m22 (fun q => q)
 replace hR_14 := hR_14.mod0 m22
 replace hB19 := hB19.mod m22 (fun q => q)
 replace HM := HM.tr0 m22
 have hszw21 := m22.size
 refine st_pure (l := [1, 2]) (rest := []) (L := [(13, .int .i64 7), (14, .int .i64 0)]) rfl (by kernel_rfl) ?_
 refine st_end ?_
 refine then_n ?_
 refine wp_block ?_
 refine c_rounds 9 ?_
 refine c_round ?_
 refine wp_seq ?_
 refine c_region (L := [0]) (by kernel_rfl) ?_
 refine st_pure (l := [0]) (rest := []) (L := [(15, .bool true)]) rfl (by kernel_rfl) ?_
 refine st_end ?_
 refine then_n ?_
 refine wp_seq ?_
 refine c_true (by kernel_rfl) ?_
 refine wp_skip ?_
 refine then_n ?_
 refine wp_seq ?_
 refine wp_block ?_
 refine wp_seq ?_
 refine c_region (L := [0, 1, 2, 3, 4]) (by kernel_rfl) ?_
 refine st_pure (l := [0, 1]) (rest := [2, 3, 4]) (L := [(16, .int .i64 0), (17, .pointer (some ⟨b20, 0, none⟩))]) rfl (by kernel_rfl) ?_
 refine st_load (d := 18) (t := 149) (cs := _) (v := .int .u64 6) (by kernel_rfl) (hB23.sub 0) (by kernel_rfl) ?_
 refine st_pure (l := [3, 4]) (rest := []) (L := [(6, .int .i64 0), (7, .int .u64 6)]) rfl (by kernel_rfl) ?_
 refine st_end ?_
 refine then_n ?_
 refine wp_seq ?_
 refine c_region (L := [0, 1, 2]) (by kernel_rfl) ?_
 refine st_pure (l := [0]) (rest := [1, 2]) (L := [(19, .pointer (some ⟨r5, 0, none⟩))]) rfl (by kernel_rfl) ?_
 refine st_fn (d := 20) (f := 110) (xs := #[.pointer (some ⟨r5, 0, none⟩)]) (R := _) (by kernel_rfl) (Reader_Number (w := w21) (r := r5) (A := A6) (cA := c7) (l := l) (e := 0) (lo := lo8) (hi := hi9) (hr := hr_13) (hR := hR_14) (A_n := A6_n) (A_c := by first | exact A6_c | omega) (e_r := by omega) (hR_hi := by omega) (hsep := by first | omega | (simp only [List.length_cons, List.length_nil, List.length_append, List.length_take, List.length_drop] at *; omega))) ?_
 rintro vw29 w29 ⟨x24, A25, c26, l27, e28, hsp30, rfl, x24_r, A25_n, A25_c, e28_r, hr_32, hR_33, m34⟩
 clear hr_13
 clear hR_14
 replace hl := hl.mod m34 (by intro k h1 h2 h3; (try simp only [Iv] at h3); omega)
 replace hB4 := hB4.mod m34 (by intro h3; (try simp only [Iv] at h3); omega)
 replace hB19 := hB19.mod m34 (by intro h3; (try simp only [Iv] at h3); omega)
 replace hB23 := hB23.mod m34 (by intro h3; (try simp only [Iv] at h3); omega)
 replace HM := HM.trans m34 (by intro k h1 h3; (try simp only [Iv] at h3 ⊢); omega)
 have hszw29 := m34.size
 have lt_hr_32 := hr_32.lt
 have hR_33_l := hR_33.len
 refine st_pure (l := [2]) (rest := []) (L := [(8, .int .u64 x24)]) rfl (by kernel_rfl) ?_
 refine st_end ?_
 refine then_n ?_
 refine wp_seq ?_
 refine wp_seq ?_
 refine c_region (L := [0, 1, 2]) (by kernel_rfl) ?_
 by_cases h35 : x24 > 6
 ·skip
  have hb36 : (decide (x24 > 6)) = true := decide_eq_true h35
  refine st_pure (l := [0, 1, 2]) (rest := []) (L := [(21, .int .u64 x24), (22, .int .u64 6), (23, .bool true)]) rfl (Eq.trans (b := some [(21, .int .u64 x24), (22, .int .u64 6), (23, .bool (decide (x24 > 6)))]) (by kernel_rfl) (by simp only [hb36])) ?_
  refine st_end ?_
  refine then_n ?_
  refine c_true (by kernel_rfl) ?_
  refine wp_seq ?_
  refine c_region (L := [0, 1, 2]) (by kernel_rfl) ?_
  refine st_pure (l := [0]) (rest := [1, 2]) (L := [(24, .agg #[.int .i64 0, .int .i64 0, .int .i64 0, .int .u8 0, .int .i64 0, .int .i64 0, .int .u8 0])]) rfl (by kernel_rfl) ?_
  refine st_store (t := 35) (v := .agg #[.int .i64 0, .int .i64 0, .int .i64 0, .int .u8 0, .int .i64 0, .int .i64 0, .int .u8 0]) (o := 0) (C' := [.int .i64 0, .int .i64 0, .int .i64 0, .int .u8 0, .int .i64 0, .int .i64 0, .int .u8 0]) (by kernel_rfl) hB4 (by kernel_rfl) ?_
  intro w37 m38 zm38 NhB4
  clear hB4; have hB4 := NhB4; clear NhB4
  replace hl := hl.mod m38 (by intro k h1 h2 h3; (try simp only [Iv] at h3); omega)
  replace hB19 := hB19.mod m38 (by intro h3; (try simp only [Iv] at h3); omega)
  replace hB23 := hB23.mod m38 (by intro h3; (try simp only [Iv] at h3); omega)
  replace hr_32 := hr_32.mod m38 (by intro h3; (try simp only [Iv] at h3); omega)
  replace hR_33 := hR_33.mod m38 (by intro k h1 h2 h3; (try simp only [Iv] at h3); omega)
  replace HM := HM.trans m38 (by intro k h1 h3; (try simp only [Iv] at h3 ⊢); omega)
  have hszw37 := m38.size
  refine st_pure (l := [2]) (rest := []) (L := [(3, .bool false)]) rfl (by kernel_rfl) ?_
  refine st_end ?_
  refine then_n ?_
  refine wp_ret ?_
  refine then_r ?_
  refine blk_r ?_
  refine then_r ?_
  refine then_r ?_
  refine blk_r ?_
  refine then_r ?_
  refine post_run (v := .tuple #[.agg #[.int .i64 0, .int .i64 0, .int .i64 0, .int .u8 0, .int .i64 0, .int .i64 0, .int .u8 0], .bool false]) (res_cell2 (p := 2) (t := 35) (b := b1) (e := 35) (k := 0) (q := 3) (v := .agg #[.int .i64 0, .int .i64 0, .int .i64 0, .int .u8 0, .int .i64 0, .int .i64 0, .int .u8 0]) (u := .bool false) (by kernel_rfl) (by kernel_rfl) (by kernel_rfl) hB4 (by kernel_rfl)) ?_
  refine ⟨Msg.zero, false, ?_, rfl, HM⟩
  ·rw [msg1]
   try simp only [hsp30]
   rw [if_pos h35]
   all_goals (try rfl)
 ·skip
  have hb39 : (decide (x24 > 6)) = false := decide_eq_false h35
  refine st_pure (l := [0, 1, 2]) (rest := []) (L := [(21, .int .u64 x24), (22, .int .u64 6), (23, .bool false)]) rfl (Eq.trans (b := some [(21, .int .u64 x24), (22, .int .u64 6), (23, .bool (decide (x24 > 6)))]) (by kernel_rfl) (by simp only [hb39])) ?_
  refine st_end ?_
  refine then_n ?_
  refine c_false (by kernel_rfl) ?_
  refine wp_skip ?_
  refine then_n ?_
  refine c_region (L := [0, 1, 2, 3, 4]) (by kernel_rfl) ?_
  have hw40 : IntKind.wrap .i64 (x24) = x24 := wi64 (by omega) (by omega)
  refine st_pure (l := [0, 1, 2]) (rest := [3, 4]) (L := [(25, .int .i64 0), (26, .int .u64 x24), (27, .int .i64 x24)]) rfl (Eq.trans (b := some [(25, .int .i64 0), (26, .int .u64 x24), (27, .int .i64 (IntKind.wrap .i64 (x24)))]) (by kernel_rfl) (by simp only [hw40])) ?_
  refine st_pure (l := [3]) (rest := [4]) (L := [(28, .pointer (some ⟨b16, 0, none⟩))]) rfl (by kernel_rfl) ?_
  refine st_store (t := 3) (v := .int .i64 x24) (o := 0) (C' := [.int .i64 x24, .int .i64 0, .int .i64 0, .int .i64 0, .int .i64 0, .int .i64 0, .int .i64 0]) (by kernel_rfl) hB19 (by kernel_rfl) ?_
  intro w41 m42 zm42 NhB19
  clear hB19; have hB19 := NhB19; clear NhB19
  replace hl := hl.mod m42 (by intro k h1 h2 h3; (try simp only [Iv] at h3); omega)
  replace hB4 := hB4.mod m42 (by intro h3; (try simp only [Iv] at h3); omega)
  replace hB23 := hB23.mod m42 (by intro h3; (try simp only [Iv] at h3); omega)
  replace hr_32 := hr_32.mod m42 (by intro h3; (try simp only [Iv] at h3); omega)
  replace hR_33 := hR_33.mod m42 (by intro k h1 h2 h3; (try simp only [Iv] at h3); omega)
  replace HM := HM.trans m42 (by intro k h1 h3; (try simp only [Iv] at h3 ⊢); omega)
  have hszw41 := m42.size
  refine st_end ?_
  refine blk_n ?_
  refine then_n ?_
  refine c_region (L := [0, 1]) (by kernel_rfl) ?_
  refine st_pure (l := [0, 1]) (rest := []) (L := [(29, .int .i64 1), (14, .int .i64 1)]) rfl (by kernel_rfl) ?_
  refine st_end ?_
  refine then_n ?_
  refine c_round ?_
  refine wp_seq ?_
  refine c_region (L := [0]) (by kernel_rfl) ?_
  refine st_pure (l := [0]) (rest := []) (L := [(15, .bool true)]) rfl (by kernel_rfl) ?_
  refine st_end ?_
  refine then_n ?_
  refine wp_seq ?_
  refine c_true (by kernel_rfl) ?_
  refine wp_skip ?_
  refine then_n ?_
  refine wp_seq ?_
  refine wp_block ?_
  refine wp_seq ?_
  refine c_region (L := [0, 1, 2, 3, 4]) (by kernel_rfl) ?_
  refine st_pure (l := [0, 1]) (rest := [2, 3, 4]) (L := [(16, .int .i64 1), (17, .pointer (some ⟨b20, 1, none⟩))]) rfl (by kernel_rfl) ?_
  refine st_load (d := 18) (t := 149) (cs := _) (v := .int .u64 1099511627776) (by kernel_rfl) (hB23.sub 1) (by kernel_rfl) ?_
  refine st_pure (l := [3, 4]) (rest := []) (L := [(6, .int .i64 1), (7, .int .u64 1099511627776)]) rfl (by kernel_rfl) ?_
  refine st_end ?_
  refine then_n ?_
  refine wp_seq ?_
  refine c_region (L := [0, 1, 2]) (by kernel_rfl) ?_
  refine st_pure (l := [0]) (rest := [1, 2]) (L := [(19, .pointer (some ⟨r5, 0, none⟩))]) rfl (by kernel_rfl) ?_
  refine st_fn (d := 20) (f := 110) (xs := #[.pointer (some ⟨r5, 0, none⟩)]) (R := _) (by kernel_rfl) (Reader_Number (w := w41) (r := r5) (A := A25) (cA := c26) (l := l27) (e := e28) (lo := lo8) (hi := hi9) (hr := hr_32) (hR := hR_33) (A_n := A25_n) (A_c := by first | exact A25_c | omega) (e_r := by omega) (hR_hi := by omega) (hsep := by first | omega | (simp only [List.length_cons, List.length_nil, List.length_append, List.length_take, List.length_drop] at *; omega))) ?_
  rintro vw48 w48 ⟨x43, A44, c45, l46, e47, hsp49, rfl, x43_r, A44_n, A44_c, e47_r, hr_51, hR_52, m53⟩
  clear hr_32
  clear hR_33
  replace hl := hl.mod m53 (by intro k h1 h2 h3; (try simp only [Iv] at h3); omega)
  replace hB4 := hB4.mod m53 (by intro h3; (try simp only [Iv] at h3); omega)
  replace hB19 := hB19.mod m53 (by intro h3; (try simp only [Iv] at h3); omega)
  replace hB23 := hB23.mod m53 (by intro h3; (try simp only [Iv] at h3); omega)
  replace HM := HM.trans m53 (by intro k h1 h3; (try simp only [Iv] at h3 ⊢); omega)
  have hszw48 := m53.size
  have lt_hr_51 := hr_51.lt
  have hR_52_l := hR_52.len
  refine st_pure (l := [2]) (rest := []) (L := [(8, .int .u64 x43)]) rfl (by kernel_rfl) ?_
  refine st_end ?_
  refine then_n ?_
  refine wp_seq ?_
  refine wp_seq ?_
  refine c_region (L := [0, 1, 2]) (by kernel_rfl) ?_
  by_cases h54 : x43 > 1099511627776
  ·skip
   have hb55 : (decide (x43 > 1099511627776)) = true := decide_eq_true h54
   refine st_pure (l := [0, 1, 2]) (rest := []) (L := [(21, .int .u64 x43), (22, .int .u64 1099511627776), (23, .bool true)]) rfl (Eq.trans (b := some [(21, .int .u64 x43), (22, .int .u64 1099511627776), (23, .bool (decide (x43 > 1099511627776)))]) (by kernel_rfl) (by simp only [hb55])) ?_
   refine st_end ?_
   refine then_n ?_
   refine c_true (by kernel_rfl) ?_
   refine wp_seq ?_
   refine c_region (L := [0, 1, 2]) (by kernel_rfl) ?_
   refine st_pure (l := [0]) (rest := [1, 2]) (L := [(24, .agg #[.int .i64 0, .int .i64 0, .int .i64 0, .int .u8 0, .int .i64 0, .int .i64 0, .int .u8 0])]) rfl (by kernel_rfl) ?_
   refine st_store (t := 35) (v := .agg #[.int .i64 0, .int .i64 0, .int .i64 0, .int .u8 0, .int .i64 0, .int .i64 0, .int .u8 0]) (o := 0) (C' := [.int .i64 0, .int .i64 0, .int .i64 0, .int .u8 0, .int .i64 0, .int .i64 0, .int .u8 0]) (by kernel_rfl) hB4 (by kernel_rfl) ?_
   intro w56 m57 zm57 NhB4
   clear hB4; have hB4 := NhB4; clear NhB4
   replace hl := hl.mod m57 (by intro k h1 h2 h3; (try simp only [Iv] at h3); omega)
   replace hB19 := hB19.mod m57 (by intro h3; (try simp only [Iv] at h3); omega)
   replace hB23 := hB23.mod m57 (by intro h3; (try simp only [Iv] at h3); omega)
   replace hr_51 := hr_51.mod m57 (by intro h3; (try simp only [Iv] at h3); omega)
   replace hR_52 := hR_52.mod m57 (by intro k h1 h2 h3; (try simp only [Iv] at h3); omega)
   replace HM := HM.trans m57 (by intro k h1 h3; (try simp only [Iv] at h3 ⊢); omega)
   have hszw56 := m57.size
   refine st_pure (l := [2]) (rest := []) (L := [(3, .bool false)]) rfl (by kernel_rfl) ?_
   refine st_end ?_
   refine then_n ?_
   refine wp_ret ?_
   refine then_r ?_
   refine blk_r ?_
   refine then_r ?_
   refine then_r ?_
   refine blk_r ?_
   refine then_r ?_
   refine post_run (v := .tuple #[.agg #[.int .i64 0, .int .i64 0, .int .i64 0, .int .u8 0, .int .i64 0, .int .i64 0, .int .u8 0], .bool false]) (res_cell2 (p := 2) (t := 35) (b := b1) (e := 35) (k := 0) (q := 3) (v := .agg #[.int .i64 0, .int .i64 0, .int .i64 0, .int .u8 0, .int .i64 0, .int .i64 0, .int .u8 0]) (u := .bool false) (by kernel_rfl) (by kernel_rfl) (by kernel_rfl) hB4 (by kernel_rfl)) ?_
   refine ⟨Msg.zero, false, ?_, rfl, HM⟩
   ·rw [msg1]
    try simp only [hsp30]
    rw [if_neg h35]
    try simp only [hsp49]
    rw [if_pos h54]
    all_goals (try rfl)
  ·skip
   have hb58 : (decide (x43 > 1099511627776)) = false := decide_eq_false h54
   refine st_pure (l := [0, 1, 2]) (rest := []) (L := [(21, .int .u64 x43), (22, .int .u64 1099511627776), (23, .bool false)]) rfl (Eq.trans (b := some [(21, .int .u64 x43), (22, .int .u64 1099511627776), (23, .bool (decide (x43 > 1099511627776)))]) (by kernel_rfl) (by simp only [hb58])) ?_
   refine st_end ?_
   refine then_n ?_
   refine c_false (by kernel_rfl) ?_
   refine wp_skip ?_
   refine then_n ?_
   refine c_region (L := [0, 1, 2, 3, 4]) (by kernel_rfl) ?_
   have hw59 : IntKind.wrap .i64 (x43) = x43 := wi64 (by omega) (by omega)
   refine st_pure (l := [0, 1, 2]) (rest := [3, 4]) (L := [(25, .int .i64 1), (26, .int .u64 x43), (27, .int .i64 x43)]) rfl (Eq.trans (b := some [(25, .int .i64 1), (26, .int .u64 x43), (27, .int .i64 (IntKind.wrap .i64 (x43)))]) (by kernel_rfl) (by simp only [hw59])) ?_
   refine st_pure (l := [3]) (rest := [4]) (L := [(28, .pointer (some ⟨b16, 1, none⟩))]) rfl (by kernel_rfl) ?_
   refine st_store (t := 3) (v := .int .i64 x43) (o := 1) (C' := [.int .i64 x24, .int .i64 x43, .int .i64 0, .int .i64 0, .int .i64 0, .int .i64 0, .int .i64 0]) (by kernel_rfl) hB19 (by kernel_rfl) ?_
   intro w60 m61 zm61 NhB19
   clear hB19; have hB19 := NhB19; clear NhB19
   replace hl := hl.mod m61 (by intro k h1 h2 h3; (try simp only [Iv] at h3); omega)
   replace hB4 := hB4.mod m61 (by intro h3; (try simp only [Iv] at h3); omega)
   replace hB23 := hB23.mod m61 (by intro h3; (try simp only [Iv] at h3); omega)
   replace hr_51 := hr_51.mod m61 (by intro h3; (try simp only [Iv] at h3); omega)
   replace hR_52 := hR_52.mod m61 (by intro k h1 h2 h3; (try simp only [Iv] at h3); omega)
   replace HM := HM.trans m61 (by intro k h1 h3; (try simp only [Iv] at h3 ⊢); omega)
   have hszw60 := m61.size
   refine st_end ?_
   refine blk_n ?_
   refine then_n ?_
   refine c_region (L := [0, 1]) (by kernel_rfl) ?_
   refine st_pure (l := [0, 1]) (rest := []) (L := [(29, .int .i64 2), (14, .int .i64 2)]) rfl (by kernel_rfl) ?_
   refine st_end ?_
   refine then_n ?_
   refine c_round ?_
   refine wp_seq ?_
   refine c_region (L := [0]) (by kernel_rfl) ?_
   refine st_pure (l := [0]) (rest := []) (L := [(15, .bool true)]) rfl (by kernel_rfl) ?_
   refine st_end ?_
   refine then_n ?_
   refine wp_seq ?_
   refine c_true (by kernel_rfl) ?_
   refine wp_skip ?_
   refine then_n ?_
   refine wp_seq ?_
   refine wp_block ?_
   refine wp_seq ?_
   refine c_region (L := [0, 1, 2, 3, 4]) (by kernel_rfl) ?_
   refine st_pure (l := [0, 1]) (rest := [2, 3, 4]) (L := [(16, .int .i64 2), (17, .pointer (some ⟨b20, 2, none⟩))]) rfl (by kernel_rfl) ?_
   refine st_load (d := 18) (t := 149) (cs := _) (v := .int .u64 8) (by kernel_rfl) (hB23.sub 2) (by kernel_rfl) ?_
   refine st_pure (l := [3, 4]) (rest := []) (L := [(6, .int .i64 2), (7, .int .u64 8)]) rfl (by kernel_rfl) ?_
   refine st_end ?_
   refine then_n ?_
   refine wp_seq ?_
   refine c_region (L := [0, 1, 2]) (by kernel_rfl) ?_
   refine st_pure (l := [0]) (rest := [1, 2]) (L := [(19, .pointer (some ⟨r5, 0, none⟩))]) rfl (by kernel_rfl) ?_
   refine st_fn (d := 20) (f := 110) (xs := #[.pointer (some ⟨r5, 0, none⟩)]) (R := _) (by kernel_rfl) (Reader_Number (w := w60) (r := r5) (A := A44) (cA := c45) (l := l46) (e := e47) (lo := lo8) (hi := hi9) (hr := hr_51) (hR := hR_52) (A_n := A44_n) (A_c := by first | exact A44_c | omega) (e_r := by omega) (hR_hi := by omega) (hsep := by first | omega | (simp only [List.length_cons, List.length_nil, List.length_append, List.length_take, List.length_drop] at *; omega))) ?_
   rintro vw67 w67 ⟨x62, A63, c64, l65, e66, hsp68, rfl, x62_r, A63_n, A63_c, e66_r, hr_70, hR_71, m72⟩
   clear hr_51
   clear hR_52
   replace hl := hl.mod m72 (by intro k h1 h2 h3; (try simp only [Iv] at h3); omega)
   replace hB4 := hB4.mod m72 (by intro h3; (try simp only [Iv] at h3); omega)
   replace hB19 := hB19.mod m72 (by intro h3; (try simp only [Iv] at h3); omega)
   replace hB23 := hB23.mod m72 (by intro h3; (try simp only [Iv] at h3); omega)
   replace HM := HM.trans m72 (by intro k h1 h3; (try simp only [Iv] at h3 ⊢); omega)
   have hszw67 := m72.size
   have lt_hr_70 := hr_70.lt
   have hR_71_l := hR_71.len
   refine st_pure (l := [2]) (rest := []) (L := [(8, .int .u64 x62)]) rfl (by kernel_rfl) ?_
   refine st_end ?_
   refine then_n ?_
   refine wp_seq ?_
   refine wp_seq ?_
   refine c_region (L := [0, 1, 2]) (by kernel_rfl) ?_
   by_cases h73 : x62 > 8
   ·skip
    have hb74 : (decide (x62 > 8)) = true := decide_eq_true h73
    refine st_pure (l := [0, 1, 2]) (rest := []) (L := [(21, .int .u64 x62), (22, .int .u64 8), (23, .bool true)]) rfl (Eq.trans (b := some [(21, .int .u64 x62), (22, .int .u64 8), (23, .bool (decide (x62 > 8)))]) (by kernel_rfl) (by simp only [hb74])) ?_
    refine st_end ?_
    refine then_n ?_
    refine c_true (by kernel_rfl) ?_
    refine wp_seq ?_
    refine c_region (L := [0, 1, 2]) (by kernel_rfl) ?_
    refine st_pure (l := [0]) (rest := [1, 2]) (L := [(24, .agg #[.int .i64 0, .int .i64 0, .int .i64 0, .int .u8 0, .int .i64 0, .int .i64 0, .int .u8 0])]) rfl (by kernel_rfl) ?_
    refine st_store (t := 35) (v := .agg #[.int .i64 0, .int .i64 0, .int .i64 0, .int .u8 0, .int .i64 0, .int .i64 0, .int .u8 0]) (o := 0) (C' := [.int .i64 0, .int .i64 0, .int .i64 0, .int .u8 0, .int .i64 0, .int .i64 0, .int .u8 0]) (by kernel_rfl) hB4 (by kernel_rfl) ?_
    intro w75 m76 zm76 NhB4
    clear hB4; have hB4 := NhB4; clear NhB4
    replace hl := hl.mod m76 (by intro k h1 h2 h3; (try simp only [Iv] at h3); omega)
    replace hB19 := hB19.mod m76 (by intro h3; (try simp only [Iv] at h3); omega)
    replace hB23 := hB23.mod m76 (by intro h3; (try simp only [Iv] at h3); omega)
    replace hr_70 := hr_70.mod m76 (by intro h3; (try simp only [Iv] at h3); omega)
    replace hR_71 := hR_71.mod m76 (by intro k h1 h2 h3; (try simp only [Iv] at h3); omega)
    replace HM := HM.trans m76 (by intro k h1 h3; (try simp only [Iv] at h3 ⊢); omega)
    have hszw75 := m76.size
    refine st_pure (l := [2]) (rest := []) (L := [(3, .bool false)]) rfl (by kernel_rfl) ?_
    refine st_end ?_
    refine then_n ?_
    refine wp_ret ?_
    refine then_r ?_
    refine blk_r ?_
    refine then_r ?_
    refine then_r ?_
    refine blk_r ?_
    refine then_r ?_
    refine post_run (v := .tuple #[.agg #[.int .i64 0, .int .i64 0, .int .i64 0, .int .u8 0, .int .i64 0, .int .i64 0, .int .u8 0], .bool false]) (res_cell2 (p := 2) (t := 35) (b := b1) (e := 35) (k := 0) (q := 3) (v := .agg #[.int .i64 0, .int .i64 0, .int .i64 0, .int .u8 0, .int .i64 0, .int .i64 0, .int .u8 0]) (u := .bool false) (by kernel_rfl) (by kernel_rfl) (by kernel_rfl) hB4 (by kernel_rfl)) ?_
    refine ⟨Msg.zero, false, ?_, rfl, HM⟩
    ·rw [msg1]
     try simp only [hsp30]
     rw [if_neg h35]
     try simp only [hsp49]
     rw [if_neg h54]
     try simp only [hsp68]
     rw [if_pos h73]
     all_goals (try rfl)
   ·skip
    have hb77 : (decide (x62 > 8)) = false := decide_eq_false h73
    refine st_pure (l := [0, 1, 2]) (rest := []) (L := [(21, .int .u64 x62), (22, .int .u64 8), (23, .bool false)]) rfl (Eq.trans (b := some [(21, .int .u64 x62), (22, .int .u64 8), (23, .bool (decide (x62 > 8)))]) (by kernel_rfl) (by simp only [hb77])) ?_
    refine st_end ?_
    refine then_n ?_
    refine c_false (by kernel_rfl) ?_
    refine wp_skip ?_
    refine then_n ?_
    refine c_region (L := [0, 1, 2, 3, 4]) (by kernel_rfl) ?_
    have hw78 : IntKind.wrap .i64 (x62) = x62 := wi64 (by omega) (by omega)
    refine st_pure (l := [0, 1, 2]) (rest := [3, 4]) (L := [(25, .int .i64 2), (26, .int .u64 x62), (27, .int .i64 x62)]) rfl (Eq.trans (b := some [(25, .int .i64 2), (26, .int .u64 x62), (27, .int .i64 (IntKind.wrap .i64 (x62)))]) (by kernel_rfl) (by simp only [hw78])) ?_
    refine st_pure (l := [3]) (rest := [4]) (L := [(28, .pointer (some ⟨b16, 2, none⟩))]) rfl (by kernel_rfl) ?_
    refine st_store (t := 3) (v := .int .i64 x62) (o := 2) (C' := [.int .i64 x24, .int .i64 x43, .int .i64 x62, .int .i64 0, .int .i64 0, .int .i64 0, .int .i64 0]) (by kernel_rfl) hB19 (by kernel_rfl) ?_
    intro w79 m80 zm80 NhB19
    clear hB19; have hB19 := NhB19; clear NhB19
    replace hl := hl.mod m80 (by intro k h1 h2 h3; (try simp only [Iv] at h3); omega)
    replace hB4 := hB4.mod m80 (by intro h3; (try simp only [Iv] at h3); omega)
    replace hB23 := hB23.mod m80 (by intro h3; (try simp only [Iv] at h3); omega)
    replace hr_70 := hr_70.mod m80 (by intro h3; (try simp only [Iv] at h3); omega)
    replace hR_71 := hR_71.mod m80 (by intro k h1 h2 h3; (try simp only [Iv] at h3); omega)
    replace HM := HM.trans m80 (by intro k h1 h3; (try simp only [Iv] at h3 ⊢); omega)
    have hszw79 := m80.size
    refine st_end ?_
    refine blk_n ?_
    refine then_n ?_
    refine c_region (L := [0, 1]) (by kernel_rfl) ?_
    refine st_pure (l := [0, 1]) (rest := []) (L := [(29, .int .i64 3), (14, .int .i64 3)]) rfl (by kernel_rfl) ?_
    refine st_end ?_
    refine then_n ?_
    refine c_round ?_
    refine wp_seq ?_
    refine c_region (L := [0]) (by kernel_rfl) ?_
    refine st_pure (l := [0]) (rest := []) (L := [(15, .bool true)]) rfl (by kernel_rfl) ?_
    refine st_end ?_
    refine then_n ?_
    refine wp_seq ?_
    refine c_true (by kernel_rfl) ?_
    refine wp_skip ?_
    refine then_n ?_
    refine wp_seq ?_
    refine wp_block ?_
    refine wp_seq ?_
    refine c_region (L := [0, 1, 2, 3, 4]) (by kernel_rfl) ?_
    refine st_pure (l := [0, 1]) (rest := [2, 3, 4]) (L := [(16, .int .i64 3), (17, .pointer (some ⟨b20, 3, none⟩))]) rfl (by kernel_rfl) ?_
    refine st_load (d := 18) (t := 149) (cs := _) (v := .int .u64 255) (by kernel_rfl) (hB23.sub 3) (by kernel_rfl) ?_
    refine st_pure (l := [3, 4]) (rest := []) (L := [(6, .int .i64 3), (7, .int .u64 255)]) rfl (by kernel_rfl) ?_
    refine st_end ?_
    refine then_n ?_
    refine wp_seq ?_
    refine c_region (L := [0, 1, 2]) (by kernel_rfl) ?_
    refine st_pure (l := [0]) (rest := [1, 2]) (L := [(19, .pointer (some ⟨r5, 0, none⟩))]) rfl (by kernel_rfl) ?_
    refine st_fn (d := 20) (f := 110) (xs := #[.pointer (some ⟨r5, 0, none⟩)]) (R := _) (by kernel_rfl) (Reader_Number (w := w79) (r := r5) (A := A63) (cA := c64) (l := l65) (e := e66) (lo := lo8) (hi := hi9) (hr := hr_70) (hR := hR_71) (A_n := A63_n) (A_c := by first | exact A63_c | omega) (e_r := by omega) (hR_hi := by omega) (hsep := by first | omega | (simp only [List.length_cons, List.length_nil, List.length_append, List.length_take, List.length_drop] at *; omega))) ?_
    rintro vw86 w86 ⟨x81, A82, c83, l84, e85, hsp87, rfl, x81_r, A82_n, A82_c, e85_r, hr_89, hR_90, m91⟩
    clear hr_70
    clear hR_71
    replace hl := hl.mod m91 (by intro k h1 h2 h3; (try simp only [Iv] at h3); omega)
    replace hB4 := hB4.mod m91 (by intro h3; (try simp only [Iv] at h3); omega)
    replace hB19 := hB19.mod m91 (by intro h3; (try simp only [Iv] at h3); omega)
    replace hB23 := hB23.mod m91 (by intro h3; (try simp only [Iv] at h3); omega)
    replace HM := HM.trans m91 (by intro k h1 h3; (try simp only [Iv] at h3 ⊢); omega)
    have hszw86 := m91.size
    have lt_hr_89 := hr_89.lt
    have hR_90_l := hR_90.len
    refine st_pure (l := [2]) (rest := []) (L := [(8, .int .u64 x81)]) rfl (by kernel_rfl) ?_
    refine st_end ?_
    refine then_n ?_
    refine wp_seq ?_
    refine wp_seq ?_
    refine c_region (L := [0, 1, 2]) (by kernel_rfl) ?_
    by_cases h92 : x81 > 255
    ·skip
     have hb93 : (decide (x81 > 255)) = true := decide_eq_true h92
     refine st_pure (l := [0, 1, 2]) (rest := []) (L := [(21, .int .u64 x81), (22, .int .u64 255), (23, .bool true)]) rfl (Eq.trans (b := some [(21, .int .u64 x81), (22, .int .u64 255), (23, .bool (decide (x81 > 255)))]) (by kernel_rfl) (by simp only [hb93])) ?_
     refine st_end ?_
     refine then_n ?_
     refine c_true (by kernel_rfl) ?_
     refine wp_seq ?_
     refine c_region (L := [0, 1, 2]) (by kernel_rfl) ?_
     refine st_pure (l := [0]) (rest := [1, 2]) (L := [(24, .agg #[.int .i64 0, .int .i64 0, .int .i64 0, .int .u8 0, .int .i64 0, .int .i64 0, .int .u8 0])]) rfl (by kernel_rfl) ?_
     refine st_store (t := 35) (v := .agg #[.int .i64 0, .int .i64 0, .int .i64 0, .int .u8 0, .int .i64 0, .int .i64 0, .int .u8 0]) (o := 0) (C' := [.int .i64 0, .int .i64 0, .int .i64 0, .int .u8 0, .int .i64 0, .int .i64 0, .int .u8 0]) (by kernel_rfl) hB4 (by kernel_rfl) ?_
     intro w94 m95 zm95 NhB4
     clear hB4; have hB4 := NhB4; clear NhB4
     replace hl := hl.mod m95 (by intro k h1 h2 h3; (try simp only [Iv] at h3); omega)
     replace hB19 := hB19.mod m95 (by intro h3; (try simp only [Iv] at h3); omega)
     replace hB23 := hB23.mod m95 (by intro h3; (try simp only [Iv] at h3); omega)
     replace hr_89 := hr_89.mod m95 (by intro h3; (try simp only [Iv] at h3); omega)
     replace hR_90 := hR_90.mod m95 (by intro k h1 h2 h3; (try simp only [Iv] at h3); omega)
     replace HM := HM.trans m95 (by intro k h1 h3; (try simp only [Iv] at h3 ⊢); omega)
     have hszw94 := m95.size
     refine st_pure (l := [2]) (rest := []) (L := [(3, .bool false)]) rfl (by kernel_rfl) ?_
     refine st_end ?_
     refine then_n ?_
     refine wp_ret ?_
     refine then_r ?_
     refine blk_r ?_
     refine then_r ?_
     refine then_r ?_
     refine blk_r ?_
     refine then_r ?_
     refine post_run (v := .tuple #[.agg #[.int .i64 0, .int .i64 0, .int .i64 0, .int .u8 0, .int .i64 0, .int .i64 0, .int .u8 0], .bool false]) (res_cell2 (p := 2) (t := 35) (b := b1) (e := 35) (k := 0) (q := 3) (v := .agg #[.int .i64 0, .int .i64 0, .int .i64 0, .int .u8 0, .int .i64 0, .int .i64 0, .int .u8 0]) (u := .bool false) (by kernel_rfl) (by kernel_rfl) (by kernel_rfl) hB4 (by kernel_rfl)) ?_
     refine ⟨Msg.zero, false, ?_, rfl, HM⟩
     ·rw [msg1]
      try simp only [hsp30]
      rw [if_neg h35]
      try simp only [hsp49]
      rw [if_neg h54]
      try simp only [hsp68]
      rw [if_neg h73]
      try simp only [hsp87]
      rw [if_pos h92]
      all_goals (try rfl)
    ·skip
     have hb96 : (decide (x81 > 255)) = false := decide_eq_false h92
     refine st_pure (l := [0, 1, 2]) (rest := []) (L := [(21, .int .u64 x81), (22, .int .u64 255), (23, .bool false)]) rfl (Eq.trans (b := some [(21, .int .u64 x81), (22, .int .u64 255), (23, .bool (decide (x81 > 255)))]) (by kernel_rfl) (by simp only [hb96])) ?_
     refine st_end ?_
     refine then_n ?_
     refine c_false (by kernel_rfl) ?_
     refine wp_skip ?_
     refine then_n ?_
     refine c_region (L := [0, 1, 2, 3, 4]) (by kernel_rfl) ?_
     have hw97 : IntKind.wrap .i64 (x81) = x81 := wi64 (by omega) (by omega)
     refine st_pure (l := [0, 1, 2]) (rest := [3, 4]) (L := [(25, .int .i64 3), (26, .int .u64 x81), (27, .int .i64 x81)]) rfl (Eq.trans (b := some [(25, .int .i64 3), (26, .int .u64 x81), (27, .int .i64 (IntKind.wrap .i64 (x81)))]) (by kernel_rfl) (by simp only [hw97])) ?_
     refine st_pure (l := [3]) (rest := [4]) (L := [(28, .pointer (some ⟨b16, 3, none⟩))]) rfl (by kernel_rfl) ?_
     refine st_store (t := 3) (v := .int .i64 x81) (o := 3) (C' := [.int .i64 x24, .int .i64 x43, .int .i64 x62, .int .i64 x81, .int .i64 0, .int .i64 0, .int .i64 0]) (by kernel_rfl) hB19 (by kernel_rfl) ?_
     intro w98 m99 zm99 NhB19
     clear hB19; have hB19 := NhB19; clear NhB19
     replace hl := hl.mod m99 (by intro k h1 h2 h3; (try simp only [Iv] at h3); omega)
     replace hB4 := hB4.mod m99 (by intro h3; (try simp only [Iv] at h3); omega)
     replace hB23 := hB23.mod m99 (by intro h3; (try simp only [Iv] at h3); omega)
     replace hr_89 := hr_89.mod m99 (by intro h3; (try simp only [Iv] at h3); omega)
     replace hR_90 := hR_90.mod m99 (by intro k h1 h2 h3; (try simp only [Iv] at h3); omega)
     replace HM := HM.trans m99 (by intro k h1 h3; (try simp only [Iv] at h3 ⊢); omega)
     have hszw98 := m99.size
     refine st_end ?_
     refine blk_n ?_
     refine then_n ?_
     refine c_region (L := [0, 1]) (by kernel_rfl) ?_
     refine st_pure (l := [0, 1]) (rest := []) (L := [(29, .int .i64 4), (14, .int .i64 4)]) rfl (by kernel_rfl) ?_
     refine st_end ?_
     refine then_n ?_
     refine c_round ?_
     refine wp_seq ?_
     refine c_region (L := [0]) (by kernel_rfl) ?_
     refine st_pure (l := [0]) (rest := []) (L := [(15, .bool true)]) rfl (by kernel_rfl) ?_
     refine st_end ?_
     refine then_n ?_
     refine wp_seq ?_
     refine c_true (by kernel_rfl) ?_
     refine wp_skip ?_
     refine then_n ?_
     refine wp_seq ?_
     refine wp_block ?_
     refine wp_seq ?_
     refine c_region (L := [0, 1, 2, 3, 4]) (by kernel_rfl) ?_
     refine st_pure (l := [0, 1]) (rest := [2, 3, 4]) (L := [(16, .int .i64 4), (17, .pointer (some ⟨b20, 4, none⟩))]) rfl (by kernel_rfl) ?_
     refine st_load (d := 18) (t := 149) (cs := _) (v := .int .u64 7) (by kernel_rfl) (hB23.sub 4) (by kernel_rfl) ?_
     refine st_pure (l := [3, 4]) (rest := []) (L := [(6, .int .i64 4), (7, .int .u64 7)]) rfl (by kernel_rfl) ?_
     refine st_end ?_
     refine then_n ?_
     refine wp_seq ?_
     refine c_region (L := [0, 1, 2]) (by kernel_rfl) ?_
     refine st_pure (l := [0]) (rest := [1, 2]) (L := [(19, .pointer (some ⟨r5, 0, none⟩))]) rfl (by kernel_rfl) ?_
     refine st_fn (d := 20) (f := 110) (xs := #[.pointer (some ⟨r5, 0, none⟩)]) (R := _) (by kernel_rfl) (Reader_Number (w := w98) (r := r5) (A := A82) (cA := c83) (l := l84) (e := e85) (lo := lo8) (hi := hi9) (hr := hr_89) (hR := hR_90) (A_n := A82_n) (A_c := by first | exact A82_c | omega) (e_r := by omega) (hR_hi := by omega) (hsep := by first | omega | (simp only [List.length_cons, List.length_nil, List.length_append, List.length_take, List.length_drop] at *; omega))) ?_
     rintro vw105 w105 ⟨x100, A101, c102, l103, e104, hsp106, rfl, x100_r, A101_n, A101_c, e104_r, hr_108, hR_109, m110⟩
     clear hr_89
     clear hR_90
     replace hl := hl.mod m110 (by intro k h1 h2 h3; (try simp only [Iv] at h3); omega)
     replace hB4 := hB4.mod m110 (by intro h3; (try simp only [Iv] at h3); omega)
     replace hB19 := hB19.mod m110 (by intro h3; (try simp only [Iv] at h3); omega)
     replace hB23 := hB23.mod m110 (by intro h3; (try simp only [Iv] at h3); omega)
     replace HM := HM.trans m110 (by intro k h1 h3; (try simp only [Iv] at h3 ⊢); omega)
     have hszw105 := m110.size
     have lt_hr_108 := hr_108.lt
     have hR_109_l := hR_109.len
     refine st_pure (l := [2]) (rest := []) (L := [(8, .int .u64 x100)]) rfl (by kernel_rfl) ?_
     refine st_end ?_
     refine then_n ?_
     refine wp_seq ?_
     refine wp_seq ?_
     refine c_region (L := [0, 1, 2]) (by kernel_rfl) ?_
     by_cases h111 : x100 > 7
     ·skip
      have hb112 : (decide (x100 > 7)) = true := decide_eq_true h111
      refine st_pure (l := [0, 1, 2]) (rest := []) (L := [(21, .int .u64 x100), (22, .int .u64 7), (23, .bool true)]) rfl (Eq.trans (b := some [(21, .int .u64 x100), (22, .int .u64 7), (23, .bool (decide (x100 > 7)))]) (by kernel_rfl) (by simp only [hb112])) ?_
      refine st_end ?_
      refine then_n ?_
      refine c_true (by kernel_rfl) ?_
      refine wp_seq ?_
      refine c_region (L := [0, 1, 2]) (by kernel_rfl) ?_
      refine st_pure (l := [0]) (rest := [1, 2]) (L := [(24, .agg #[.int .i64 0, .int .i64 0, .int .i64 0, .int .u8 0, .int .i64 0, .int .i64 0, .int .u8 0])]) rfl (by kernel_rfl) ?_
      refine st_store (t := 35) (v := .agg #[.int .i64 0, .int .i64 0, .int .i64 0, .int .u8 0, .int .i64 0, .int .i64 0, .int .u8 0]) (o := 0) (C' := [.int .i64 0, .int .i64 0, .int .i64 0, .int .u8 0, .int .i64 0, .int .i64 0, .int .u8 0]) (by kernel_rfl) hB4 (by kernel_rfl) ?_
      intro w113 m114 zm114 NhB4
      clear hB4; have hB4 := NhB4; clear NhB4
      replace hl := hl.mod m114 (by intro k h1 h2 h3; (try simp only [Iv] at h3); omega)
      replace hB19 := hB19.mod m114 (by intro h3; (try simp only [Iv] at h3); omega)
      replace hB23 := hB23.mod m114 (by intro h3; (try simp only [Iv] at h3); omega)
      replace hr_108 := hr_108.mod m114 (by intro h3; (try simp only [Iv] at h3); omega)
      replace hR_109 := hR_109.mod m114 (by intro k h1 h2 h3; (try simp only [Iv] at h3); omega)
      replace HM := HM.trans m114 (by intro k h1 h3; (try simp only [Iv] at h3 ⊢); omega)
      have hszw113 := m114.size
      refine st_pure (l := [2]) (rest := []) (L := [(3, .bool false)]) rfl (by kernel_rfl) ?_
      refine st_end ?_
      refine then_n ?_
      refine wp_ret ?_
      refine then_r ?_
      refine blk_r ?_
      refine then_r ?_
      refine then_r ?_
      refine blk_r ?_
      refine then_r ?_
      refine post_run (v := .tuple #[.agg #[.int .i64 0, .int .i64 0, .int .i64 0, .int .u8 0, .int .i64 0, .int .i64 0, .int .u8 0], .bool false]) (res_cell2 (p := 2) (t := 35) (b := b1) (e := 35) (k := 0) (q := 3) (v := .agg #[.int .i64 0, .int .i64 0, .int .i64 0, .int .u8 0, .int .i64 0, .int .i64 0, .int .u8 0]) (u := .bool false) (by kernel_rfl) (by kernel_rfl) (by kernel_rfl) hB4 (by kernel_rfl)) ?_
      refine ⟨Msg.zero, false, ?_, rfl, HM⟩
      ·rw [msg1]
       try simp only [hsp30]
       rw [if_neg h35]
       try simp only [hsp49]
       rw [if_neg h54]
       try simp only [hsp68]
       rw [if_neg h73]
       try simp only [hsp87]
       rw [if_neg h92]
       try simp only [hsp106]
       rw [if_pos h111]
       all_goals (try rfl)
     ·skip
      have hb115 : (decide (x100 > 7)) = false := decide_eq_false h111
      refine st_pure (l := [0, 1, 2]) (rest := []) (L := [(21, .int .u64 x100), (22, .int .u64 7), (23, .bool false)]) rfl (Eq.trans (b := some [(21, .int .u64 x100), (22, .int .u64 7), (23, .bool (decide (x100 > 7)))]) (by kernel_rfl) (by simp only [hb115])) ?_
      refine st_end ?_
      refine then_n ?_
      refine c_false (by kernel_rfl) ?_
      refine wp_skip ?_
      refine then_n ?_
      refine c_region (L := [0, 1, 2, 3, 4]) (by kernel_rfl) ?_
      have hw116 : IntKind.wrap .i64 (x100) = x100 := wi64 (by omega) (by omega)
      refine st_pure (l := [0, 1, 2]) (rest := [3, 4]) (L := [(25, .int .i64 4), (26, .int .u64 x100), (27, .int .i64 x100)]) rfl (Eq.trans (b := some [(25, .int .i64 4), (26, .int .u64 x100), (27, .int .i64 (IntKind.wrap .i64 (x100)))]) (by kernel_rfl) (by simp only [hw116])) ?_
      refine st_pure (l := [3]) (rest := [4]) (L := [(28, .pointer (some ⟨b16, 4, none⟩))]) rfl (by kernel_rfl) ?_
      refine st_store (t := 3) (v := .int .i64 x100) (o := 4) (C' := [.int .i64 x24, .int .i64 x43, .int .i64 x62, .int .i64 x81, .int .i64 x100, .int .i64 0, .int .i64 0]) (by kernel_rfl) hB19 (by kernel_rfl) ?_
      intro w117 m118 zm118 NhB19
      clear hB19; have hB19 := NhB19; clear NhB19
      replace hl := hl.mod m118 (by intro k h1 h2 h3; (try simp only [Iv] at h3); omega)
      replace hB4 := hB4.mod m118 (by intro h3; (try simp only [Iv] at h3); omega)
      replace hB23 := hB23.mod m118 (by intro h3; (try simp only [Iv] at h3); omega)
      replace hr_108 := hr_108.mod m118 (by intro h3; (try simp only [Iv] at h3); omega)
      replace hR_109 := hR_109.mod m118 (by intro k h1 h2 h3; (try simp only [Iv] at h3); omega)
      replace HM := HM.trans m118 (by intro k h1 h3; (try simp only [Iv] at h3 ⊢); omega)
      have hszw117 := m118.size
      refine st_end ?_
      refine blk_n ?_
      refine then_n ?_
      refine c_region (L := [0, 1]) (by kernel_rfl) ?_
      refine st_pure (l := [0, 1]) (rest := []) (L := [(29, .int .i64 5), (14, .int .i64 5)]) rfl (by kernel_rfl) ?_
      refine st_end ?_
      refine then_n ?_
      refine c_round ?_
      refine wp_seq ?_
      refine c_region (L := [0]) (by kernel_rfl) ?_
      refine st_pure (l := [0]) (rest := []) (L := [(15, .bool true)]) rfl (by kernel_rfl) ?_
      refine st_end ?_
      refine then_n ?_
      refine wp_seq ?_
      refine c_true (by kernel_rfl) ?_
      refine wp_skip ?_
      refine then_n ?_
      refine wp_seq ?_
      refine wp_block ?_
      refine wp_seq ?_
      refine c_region (L := [0, 1, 2, 3, 4]) (by kernel_rfl) ?_
      refine st_pure (l := [0, 1]) (rest := [2, 3, 4]) (L := [(16, .int .i64 5), (17, .pointer (some ⟨b20, 5, none⟩))]) rfl (by kernel_rfl) ?_
      refine st_load (d := 18) (t := 149) (cs := _) (v := .int .u64 16384) (by kernel_rfl) (hB23.sub 5) (by kernel_rfl) ?_
      refine st_pure (l := [3, 4]) (rest := []) (L := [(6, .int .i64 5), (7, .int .u64 16384)]) rfl (by kernel_rfl) ?_
      refine st_end ?_
      refine then_n ?_
      refine wp_seq ?_
      refine c_region (L := [0, 1, 2]) (by kernel_rfl) ?_
      refine st_pure (l := [0]) (rest := [1, 2]) (L := [(19, .pointer (some ⟨r5, 0, none⟩))]) rfl (by kernel_rfl) ?_
      refine st_fn (d := 20) (f := 110) (xs := #[.pointer (some ⟨r5, 0, none⟩)]) (R := _) (by kernel_rfl) (Reader_Number (w := w117) (r := r5) (A := A101) (cA := c102) (l := l103) (e := e104) (lo := lo8) (hi := hi9) (hr := hr_108) (hR := hR_109) (A_n := A101_n) (A_c := by first | exact A101_c | omega) (e_r := by omega) (hR_hi := by omega) (hsep := by first | omega | (simp only [List.length_cons, List.length_nil, List.length_append, List.length_take, List.length_drop] at *; omega))) ?_
      rintro vw124 w124 ⟨x119, A120, c121, l122, e123, hsp125, rfl, x119_r, A120_n, A120_c, e123_r, hr_127, hR_128, m129⟩
      clear hr_108
      clear hR_109
      replace hl := hl.mod m129 (by intro k h1 h2 h3; (try simp only [Iv] at h3); omega)
      replace hB4 := hB4.mod m129 (by intro h3; (try simp only [Iv] at h3); omega)
      replace hB19 := hB19.mod m129 (by intro h3; (try simp only [Iv] at h3); omega)
      replace hB23 := hB23.mod m129 (by intro h3; (try simp only [Iv] at h3); omega)
      replace HM := HM.trans m129 (by intro k h1 h3; (try simp only [Iv] at h3 ⊢); omega)
      have hszw124 := m129.size
      have lt_hr_127 := hr_127.lt
      have hR_128_l := hR_128.len
      refine st_pure (l := [2]) (rest := []) (L := [(8, .int .u64 x119)]) rfl (by kernel_rfl) ?_
      refine st_end ?_
      refine then_n ?_
      refine wp_seq ?_
      refine wp_seq ?_
      refine c_region (L := [0, 1, 2]) (by kernel_rfl) ?_
      by_cases h130 : x119 > 16384
      ·skip
       have hb131 : (decide (x119 > 16384)) = true := decide_eq_true h130
       refine st_pure (l := [0, 1, 2]) (rest := []) (L := [(21, .int .u64 x119), (22, .int .u64 16384), (23, .bool true)]) rfl (Eq.trans (b := some [(21, .int .u64 x119), (22, .int .u64 16384), (23, .bool (decide (x119 > 16384)))]) (by kernel_rfl) (by simp only [hb131])) ?_
       refine st_end ?_
       refine then_n ?_
       refine c_true (by kernel_rfl) ?_
       refine wp_seq ?_
       refine c_region (L := [0, 1, 2]) (by kernel_rfl) ?_
       refine st_pure (l := [0]) (rest := [1, 2]) (L := [(24, .agg #[.int .i64 0, .int .i64 0, .int .i64 0, .int .u8 0, .int .i64 0, .int .i64 0, .int .u8 0])]) rfl (by kernel_rfl) ?_
       refine st_store (t := 35) (v := .agg #[.int .i64 0, .int .i64 0, .int .i64 0, .int .u8 0, .int .i64 0, .int .i64 0, .int .u8 0]) (o := 0) (C' := [.int .i64 0, .int .i64 0, .int .i64 0, .int .u8 0, .int .i64 0, .int .i64 0, .int .u8 0]) (by kernel_rfl) hB4 (by kernel_rfl) ?_
       intro w132 m133 zm133 NhB4
       clear hB4; have hB4 := NhB4; clear NhB4
       replace hl := hl.mod m133 (by intro k h1 h2 h3; (try simp only [Iv] at h3); omega)
       replace hB19 := hB19.mod m133 (by intro h3; (try simp only [Iv] at h3); omega)
       replace hB23 := hB23.mod m133 (by intro h3; (try simp only [Iv] at h3); omega)
       replace hr_127 := hr_127.mod m133 (by intro h3; (try simp only [Iv] at h3); omega)
       replace hR_128 := hR_128.mod m133 (by intro k h1 h2 h3; (try simp only [Iv] at h3); omega)
       replace HM := HM.trans m133 (by intro k h1 h3; (try simp only [Iv] at h3 ⊢); omega)
       have hszw132 := m133.size
       refine st_pure (l := [2]) (rest := []) (L := [(3, .bool false)]) rfl (by kernel_rfl) ?_
       refine st_end ?_
       refine then_n ?_
       refine wp_ret ?_
       refine then_r ?_
       refine blk_r ?_
       refine then_r ?_
       refine then_r ?_
       refine blk_r ?_
       refine then_r ?_
       refine post_run (v := .tuple #[.agg #[.int .i64 0, .int .i64 0, .int .i64 0, .int .u8 0, .int .i64 0, .int .i64 0, .int .u8 0], .bool false]) (res_cell2 (p := 2) (t := 35) (b := b1) (e := 35) (k := 0) (q := 3) (v := .agg #[.int .i64 0, .int .i64 0, .int .i64 0, .int .u8 0, .int .i64 0, .int .i64 0, .int .u8 0]) (u := .bool false) (by kernel_rfl) (by kernel_rfl) (by kernel_rfl) hB4 (by kernel_rfl)) ?_
       refine ⟨Msg.zero, false, ?_, rfl, HM⟩
       ·rw [msg1]
        try simp only [hsp30]
        rw [if_neg h35]
        try simp only [hsp49]
        rw [if_neg h54]
        try simp only [hsp68]
        rw [if_neg h73]
        try simp only [hsp87]
        rw [if_neg h92]
        try simp only [hsp106]
        rw [if_neg h111]
        try simp only [hsp125]
        rw [if_pos h130]
        all_goals (try rfl)
      ·skip
       have hb134 : (decide (x119 > 16384)) = false := decide_eq_false h130
       refine st_pure (l := [0, 1, 2]) (rest := []) (L := [(21, .int .u64 x119), (22, .int .u64 16384), (23, .bool false)]) rfl (Eq.trans (b := some [(21, .int .u64 x119), (22, .int .u64 16384), (23, .bool (decide (x119 > 16384)))]) (by kernel_rfl) (by simp only [hb134])) ?_
       refine st_end ?_
       refine then_n ?_
       refine c_false (by kernel_rfl) ?_
       refine wp_skip ?_
       refine then_n ?_
       refine c_region (L := [0, 1, 2, 3, 4]) (by kernel_rfl) ?_
       have hw135 : IntKind.wrap .i64 (x119) = x119 := wi64 (by omega) (by omega)
       refine st_pure (l := [0, 1, 2]) (rest := [3, 4]) (L := [(25, .int .i64 5), (26, .int .u64 x119), (27, .int .i64 x119)]) rfl (Eq.trans (b := some [(25, .int .i64 5), (26, .int .u64 x119), (27, .int .i64 (IntKind.wrap .i64 (x119)))]) (by kernel_rfl) (by simp only [hw135])) ?_
       refine st_pure (l := [3]) (rest := [4]) (L := [(28, .pointer (some ⟨b16, 5, none⟩))]) rfl (by kernel_rfl) ?_
       refine st_store (t := 3) (v := .int .i64 x119) (o := 5) (C' := [.int .i64 x24, .int .i64 x43, .int .i64 x62, .int .i64 x81, .int .i64 x100, .int .i64 x119, .int .i64 0]) (by kernel_rfl) hB19 (by kernel_rfl) ?_
       intro w136 m137 zm137 NhB19
       clear hB19; have hB19 := NhB19; clear NhB19
       replace hl := hl.mod m137 (by intro k h1 h2 h3; (try simp only [Iv] at h3); omega)
       replace hB4 := hB4.mod m137 (by intro h3; (try simp only [Iv] at h3); omega)
       replace hB23 := hB23.mod m137 (by intro h3; (try simp only [Iv] at h3); omega)
       replace hr_127 := hr_127.mod m137 (by intro h3; (try simp only [Iv] at h3); omega)
       replace hR_128 := hR_128.mod m137 (by intro k h1 h2 h3; (try simp only [Iv] at h3); omega)
       replace HM := HM.trans m137 (by intro k h1 h3; (try simp only [Iv] at h3 ⊢); omega)
       have hszw136 := m137.size
       refine st_end ?_
       refine blk_n ?_
       refine then_n ?_
       refine c_region (L := [0, 1]) (by kernel_rfl) ?_
       refine st_pure (l := [0, 1]) (rest := []) (L := [(29, .int .i64 6), (14, .int .i64 6)]) rfl (by kernel_rfl) ?_
       refine st_end ?_
       refine then_n ?_
       refine c_round ?_
       refine wp_seq ?_
       refine c_region (L := [0]) (by kernel_rfl) ?_
       refine st_pure (l := [0]) (rest := []) (L := [(15, .bool true)]) rfl (by kernel_rfl) ?_
       refine st_end ?_
       refine then_n ?_
       refine wp_seq ?_
       refine c_true (by kernel_rfl) ?_
       refine wp_skip ?_
       refine then_n ?_
       refine wp_seq ?_
       refine wp_block ?_
       refine wp_seq ?_
       refine c_region (L := [0, 1, 2, 3, 4]) (by kernel_rfl) ?_
       refine st_pure (l := [0, 1]) (rest := [2, 3, 4]) (L := [(16, .int .i64 6), (17, .pointer (some ⟨b20, 6, none⟩))]) rfl (by kernel_rfl) ?_
       refine st_load (d := 18) (t := 149) (cs := _) (v := .int .u64 255) (by kernel_rfl) (hB23.sub 6) (by kernel_rfl) ?_
       refine st_pure (l := [3, 4]) (rest := []) (L := [(6, .int .i64 6), (7, .int .u64 255)]) rfl (by kernel_rfl) ?_
       refine st_end ?_
       refine then_n ?_
       refine wp_seq ?_
       refine c_region (L := [0, 1, 2]) (by kernel_rfl) ?_
       refine st_pure (l := [0]) (rest := [1, 2]) (L := [(19, .pointer (some ⟨r5, 0, none⟩))]) rfl (by kernel_rfl) ?_
       refine st_fn (d := 20) (f := 110) (xs := #[.pointer (some ⟨r5, 0, none⟩)]) (R := _) (by kernel_rfl) (Reader_Number (w := w136) (r := r5) (A := A120) (cA := c121) (l := l122) (e := e123) (lo := lo8) (hi := hi9) (hr := hr_127) (hR := hR_128) (A_n := A120_n) (A_c := by first | exact A120_c | omega) (e_r := by omega) (hR_hi := by omega) (hsep := by first | omega | (simp only [List.length_cons, List.length_nil, List.length_append, List.length_take, List.length_drop] at *; omega))) ?_
       rintro vw143 w143 ⟨x138, A139, c140, l141, e142, hsp144, rfl, x138_r, A139_n, A139_c, e142_r, hr_146, hR_147, m148⟩
       clear hr_127
       clear hR_128
       replace hl := hl.mod m148 (by intro k h1 h2 h3; (try simp only [Iv] at h3); omega)
       replace hB4 := hB4.mod m148 (by intro h3; (try simp only [Iv] at h3); omega)
       replace hB19 := hB19.mod m148 (by intro h3; (try simp only [Iv] at h3); omega)
       replace hB23 := hB23.mod m148 (by intro h3; (try simp only [Iv] at h3); omega)
       replace HM := HM.trans m148 (by intro k h1 h3; (try simp only [Iv] at h3 ⊢); omega)
       have hszw143 := m148.size
       have lt_hr_146 := hr_146.lt
       have hR_147_l := hR_147.len
       refine st_pure (l := [2]) (rest := []) (L := [(8, .int .u64 x138)]) rfl (by kernel_rfl) ?_
       refine st_end ?_
       refine then_n ?_
       refine wp_seq ?_
       refine wp_seq ?_
       refine c_region (L := [0, 1, 2]) (by kernel_rfl) ?_
       by_cases h149 : x138 > 255
       ·skip
        have hb150 : (decide (x138 > 255)) = true := decide_eq_true h149
        refine st_pure (l := [0, 1, 2]) (rest := []) (L := [(21, .int .u64 x138), (22, .int .u64 255), (23, .bool true)]) rfl (Eq.trans (b := some [(21, .int .u64 x138), (22, .int .u64 255), (23, .bool (decide (x138 > 255)))]) (by kernel_rfl) (by simp only [hb150])) ?_
        refine st_end ?_
        refine then_n ?_
        refine c_true (by kernel_rfl) ?_
        refine wp_seq ?_
        refine c_region (L := [0, 1, 2]) (by kernel_rfl) ?_
        refine st_pure (l := [0]) (rest := [1, 2]) (L := [(24, .agg #[.int .i64 0, .int .i64 0, .int .i64 0, .int .u8 0, .int .i64 0, .int .i64 0, .int .u8 0])]) rfl (by kernel_rfl) ?_
        refine st_store (t := 35) (v := .agg #[.int .i64 0, .int .i64 0, .int .i64 0, .int .u8 0, .int .i64 0, .int .i64 0, .int .u8 0]) (o := 0) (C' := [.int .i64 0, .int .i64 0, .int .i64 0, .int .u8 0, .int .i64 0, .int .i64 0, .int .u8 0]) (by kernel_rfl) hB4 (by kernel_rfl) ?_
        intro w151 m152 zm152 NhB4
        clear hB4; have hB4 := NhB4; clear NhB4
        replace hl := hl.mod m152 (by intro k h1 h2 h3; (try simp only [Iv] at h3); omega)
        replace hB19 := hB19.mod m152 (by intro h3; (try simp only [Iv] at h3); omega)
        replace hB23 := hB23.mod m152 (by intro h3; (try simp only [Iv] at h3); omega)
        replace hr_146 := hr_146.mod m152 (by intro h3; (try simp only [Iv] at h3); omega)
        replace hR_147 := hR_147.mod m152 (by intro k h1 h2 h3; (try simp only [Iv] at h3); omega)
        replace HM := HM.trans m152 (by intro k h1 h3; (try simp only [Iv] at h3 ⊢); omega)
        have hszw151 := m152.size
        refine st_pure (l := [2]) (rest := []) (L := [(3, .bool false)]) rfl (by kernel_rfl) ?_
        refine st_end ?_
        refine then_n ?_
        refine wp_ret ?_
        refine then_r ?_
        refine blk_r ?_
        refine then_r ?_
        refine then_r ?_
        refine blk_r ?_
        refine then_r ?_
        refine post_run (v := .tuple #[.agg #[.int .i64 0, .int .i64 0, .int .i64 0, .int .u8 0, .int .i64 0, .int .i64 0, .int .u8 0], .bool false]) (res_cell2 (p := 2) (t := 35) (b := b1) (e := 35) (k := 0) (q := 3) (v := .agg #[.int .i64 0, .int .i64 0, .int .i64 0, .int .u8 0, .int .i64 0, .int .i64 0, .int .u8 0]) (u := .bool false) (by kernel_rfl) (by kernel_rfl) (by kernel_rfl) hB4 (by kernel_rfl)) ?_
        refine ⟨Msg.zero, false, ?_, rfl, HM⟩
        ·rw [msg1]
         try simp only [hsp30]
         rw [if_neg h35]
         try simp only [hsp49]
         rw [if_neg h54]
         try simp only [hsp68]
         rw [if_neg h73]
         try simp only [hsp87]
         rw [if_neg h92]
         try simp only [hsp106]
         rw [if_neg h111]
         try simp only [hsp125]
         rw [if_neg h130]
         try simp only [hsp144]
         rw [if_pos h149]
         all_goals (try rfl)
       ·skip
        have hb153 : (decide (x138 > 255)) = false := decide_eq_false h149
        refine st_pure (l := [0, 1, 2]) (rest := []) (L := [(21, .int .u64 x138), (22, .int .u64 255), (23, .bool false)]) rfl (Eq.trans (b := some [(21, .int .u64 x138), (22, .int .u64 255), (23, .bool (decide (x138 > 255)))]) (by kernel_rfl) (by simp only [hb153])) ?_
        refine st_end ?_
        refine then_n ?_
        refine c_false (by kernel_rfl) ?_
        refine wp_skip ?_
        refine then_n ?_
        refine c_region (L := [0, 1, 2, 3, 4]) (by kernel_rfl) ?_
        have hw154 : IntKind.wrap .i64 (x138) = x138 := wi64 (by omega) (by omega)
        refine st_pure (l := [0, 1, 2]) (rest := [3, 4]) (L := [(25, .int .i64 6), (26, .int .u64 x138), (27, .int .i64 x138)]) rfl (Eq.trans (b := some [(25, .int .i64 6), (26, .int .u64 x138), (27, .int .i64 (IntKind.wrap .i64 (x138)))]) (by kernel_rfl) (by simp only [hw154])) ?_
        refine st_pure (l := [3]) (rest := [4]) (L := [(28, .pointer (some ⟨b16, 6, none⟩))]) rfl (by kernel_rfl) ?_
        refine st_store (t := 3) (v := .int .i64 x138) (o := 6) (C' := [.int .i64 x24, .int .i64 x43, .int .i64 x62, .int .i64 x81, .int .i64 x100, .int .i64 x119, .int .i64 x138]) (by kernel_rfl) hB19 (by kernel_rfl) ?_
        intro w155 m156 zm156 NhB19
        clear hB19; have hB19 := NhB19; clear NhB19
        replace hl := hl.mod m156 (by intro k h1 h2 h3; (try simp only [Iv] at h3); omega)
        replace hB4 := hB4.mod m156 (by intro h3; (try simp only [Iv] at h3); omega)
        replace hB23 := hB23.mod m156 (by intro h3; (try simp only [Iv] at h3); omega)
        replace hr_146 := hr_146.mod m156 (by intro h3; (try simp only [Iv] at h3); omega)
        replace hR_147 := hR_147.mod m156 (by intro k h1 h2 h3; (try simp only [Iv] at h3); omega)
        replace HM := HM.trans m156 (by intro k h1 h3; (try simp only [Iv] at h3 ⊢); omega)
        have hszw155 := m156.size
        refine st_end ?_
        refine blk_n ?_
        refine then_n ?_
        refine c_region (L := [0, 1]) (by kernel_rfl) ?_
        refine st_pure (l := [0, 1]) (rest := []) (L := [(29, .int .i64 7), (14, .int .i64 7)]) rfl (by kernel_rfl) ?_
        refine st_end ?_
        refine then_n ?_
        refine c_round ?_
        refine wp_seq ?_
        refine c_region (L := [0]) (by kernel_rfl) ?_
        refine st_pure (l := [0]) (rest := []) (L := [(15, .bool false)]) rfl (by kernel_rfl) ?_
        refine st_end ?_
        refine then_n ?_
        refine wp_seq ?_
        refine c_false (by kernel_rfl) ?_
        refine wp_exit ?_
        refine then_x ?_
        refine then_x ?_
        refine blk_hit ?_
        refine then_n ?_
        refine wp_seq ?_
        refine c_region (L := [0, 1, 2, 3, 4, 5, 6, 7, 8, 9, 10, 11, 12, 13, 14, 15, 16, 17, 18]) (by kernel_rfl) ?_
        refine st_pure (l := [0]) (rest := [1, 2, 3, 4, 5, 6, 7, 8, 9, 10, 11, 12, 13, 14, 15, 16, 17, 18]) (L := [(30, .pointer (some ⟨b16, 0, none⟩))]) rfl (by kernel_rfl) ?_
        refine st_load (d := 31) (t := 3) (cs := _) (v := .int .i64 x24) (by kernel_rfl) (hB19.sub 0) (by kernel_rfl) ?_
        refine st_pure (l := [2]) (rest := [3, 4, 5, 6, 7, 8, 9, 10, 11, 12, 13, 14, 15, 16, 17, 18]) (L := [(32, .pointer (some ⟨b16, 1, none⟩))]) rfl (by kernel_rfl) ?_
        refine st_load (d := 33) (t := 3) (cs := _) (v := .int .i64 x43) (by kernel_rfl) (hB19.sub 1) (by kernel_rfl) ?_
        refine st_pure (l := [4]) (rest := [5, 6, 7, 8, 9, 10, 11, 12, 13, 14, 15, 16, 17, 18]) (L := [(34, .pointer (some ⟨b16, 2, none⟩))]) rfl (by kernel_rfl) ?_
        refine st_load (d := 35) (t := 3) (cs := _) (v := .int .i64 x62) (by kernel_rfl) (hB19.sub 2) (by kernel_rfl) ?_
        refine st_pure (l := [6]) (rest := [7, 8, 9, 10, 11, 12, 13, 14, 15, 16, 17, 18]) (L := [(36, .pointer (some ⟨b16, 3, none⟩))]) rfl (by kernel_rfl) ?_
        refine st_load (d := 37) (t := 3) (cs := _) (v := .int .i64 x81) (by kernel_rfl) (hB19.sub 3) (by kernel_rfl) ?_
        have hw157 : IntKind.wrap .u8 (x81) = x81 := wu8 (by omega) (by omega)
        refine st_pure (l := [8]) (rest := [9, 10, 11, 12, 13, 14, 15, 16, 17, 18]) (L := [(38, .int .u8 x81)]) rfl (Eq.trans (b := some [(38, .int .u8 (IntKind.wrap .u8 (x81)))]) (by kernel_rfl) (by simp only [hw157])) ?_
        refine st_pure (l := [9]) (rest := [10, 11, 12, 13, 14, 15, 16, 17, 18]) (L := [(39, .pointer (some ⟨b16, 4, none⟩))]) rfl (by kernel_rfl) ?_
        refine st_load (d := 40) (t := 3) (cs := _) (v := .int .i64 x100) (by kernel_rfl) (hB19.sub 4) (by kernel_rfl) ?_
        refine st_pure (l := [11]) (rest := [12, 13, 14, 15, 16, 17, 18]) (L := [(41, .pointer (some ⟨b16, 5, none⟩))]) rfl (by kernel_rfl) ?_
        refine st_load (d := 42) (t := 3) (cs := _) (v := .int .i64 x119) (by kernel_rfl) (hB19.sub 5) (by kernel_rfl) ?_
        refine st_pure (l := [13]) (rest := [14, 15, 16, 17, 18]) (L := [(43, .pointer (some ⟨b16, 6, none⟩))]) rfl (by kernel_rfl) ?_
        refine st_load (d := 44) (t := 3) (cs := _) (v := .int .i64 x138) (by kernel_rfl) (hB19.sub 6) (by kernel_rfl) ?_
        have hw158 : IntKind.wrap .u8 (x138) = x138 := wu8 (by omega) (by omega)
        refine st_pure (l := [15]) (rest := [16, 17, 18]) (L := [(45, .int .u8 x138)]) rfl (Eq.trans (b := some [(45, .int .u8 (IntKind.wrap .u8 (x138)))]) (by kernel_rfl) (by simp only [hw158])) ?_
        refine st_pure (l := [16]) (rest := [17, 18]) (L := [(46, .agg #[.int .i64 x24, .int .i64 x43, .int .i64 x62, .int .u8 x81, .int .i64 x100, .int .i64 x119, .int .u8 x138])]) rfl (by kernel_rfl) ?_
        refine st_new (d := 9) (e := 35) (C := [.int .i64 0, .int .i64 0, .int .i64 0, .int .u8 0, .int .i64 0, .int .i64 0, .int .u8 0]) (V := fun r => .pointer (some ⟨r, 0, none⟩)) (by kernel_rfl) ?_
        intro b159 w160 m161 lb159 ub159 hB162
        replace hl := hl.mod0 m161
        replace hB4 := hB4.mod m161 (fun q => q)
        replace hB19 := hB19.mod m161 (fun q => q)
        replace hB23 := hB23.mod m161 (fun q => q)
        replace hr_146 := hr_146.mod m161 (fun q => q)
        replace hR_147 := hR_147.mod0 m161
        replace HM := HM.tr0 m161
        have hszw160 := m161.size
        refine st_store (t := 35) (v := .agg #[.int .i64 x24, .int .i64 x43, .int .i64 x62, .int .u8 x81, .int .i64 x100, .int .i64 x119, .int .u8 x138]) (o := 0) (C' := [.int .i64 x24, .int .i64 x43, .int .i64 x62, .int .u8 x81, .int .i64 x100, .int .i64 x119, .int .u8 x138]) (by kernel_rfl) hB162 (by kernel_rfl) ?_
        intro w163 m164 zm164 NhB162
        clear hB162; have hB162 := NhB162; clear NhB162
        replace hl := hl.mod m164 (by intro k h1 h2 h3; (try simp only [Iv] at h3); omega)
        replace hB4 := hB4.mod m164 (by intro h3; (try simp only [Iv] at h3); omega)
        replace hB19 := hB19.mod m164 (by intro h3; (try simp only [Iv] at h3); omega)
        replace hB23 := hB23.mod m164 (by intro h3; (try simp only [Iv] at h3); omega)
        replace hr_146 := hr_146.mod m164 (by intro h3; (try simp only [Iv] at h3); omega)
        replace hR_147 := hR_147.mod m164 (by intro k h1 h2 h3; (try simp only [Iv] at h3); omega)
        replace HM := HM.trans m164 (by intro k h1 h3; (try simp only [Iv] at h3 ⊢); omega)
        have hszw163 := m164.size
        refine st_end ?_
        refine then_n ?_
        refine wp_seq ?_
        refine c_drawS (fun k => k = b1 ∨ k = r5) (fun k => k = b1 ∨ k = r5) [0, 1, 3, 4, 5, 7, 8, 10] [] 0 (fun _ q => q) (by kernel_rfl) (n := 11) (by kernel_rfl) (by kernel_rfl) ?_
        intro w165 HGw165
        have hl_w165 := hl
        have hB4_w165 := hB4
        have hB19_w165 := hB19
        have hB23_w165 := hB23
        have hr_146_w165 := hr_146
        have hR_147_w165 := hR_147
        have hB162_w165 := hB162
        have HC166 : Mod (fun k => k = b1 ∨ k = r5) w163 w165 := Mod.weaken HGw165 fun _ _ q => q.elim
        replace hl := hl.mod0 HGw165
        replace hB4 := hB4.mod HGw165 (fun q => q)
        replace hB19 := hB19.mod HGw165 (fun q => q)
        replace hB23 := hB23.mod HGw165 (fun q => q)
        replace hr_146 := hr_146.mod HGw165 (fun q => q)
        replace hR_147 := hR_147.mod0 HGw165
        replace hB162 := hB162.mod HGw165 (fun q => q)
        replace HM := HM.tr0 HGw165
        have hszw165 := HGw165.size
        refine m_load (d := 47) (t := 35) (b := b159) (o := 0) (v := .agg #[.int .i64 x24, .int .i64 x43, .int .i64 x62, .int .u8 x81, .int .i64 x100, .int .i64 x119, .int .u8 x138]) (by kernel_rfl) (by kernel_rfl) (fun wQ (mQ : Mod (fun k => k = b1 ∨ k = r5) w163 wQ) => (hB162_w165.mod mQ (by intro h3; (try simp only [Iv] at h3); omega)).sub 0) (by kernel_rfl) ?_
        refine m_p (k := 1) (n := 1) (fuel := 9) (L := [(48, .pointer (some ⟨r5, 0, none⟩))]) (by kernel_rfl) (by kernel_rfl) rfl ?_
        refine m_Q (by kernel_rfl) ?_
        refine st_fn (d := 49) (f := 113) (xs := #[.pointer (some ⟨r5, 0, none⟩)]) (R := _) (by kernel_rfl) (Reader_End (w := w165) (r := r5) (A := A139) (cA := c140) (l := l141) (e := e142) (hr := hr_146) (A_n := A139_n) (A_c := by first | exact A139_c | omega) (e_r := by omega)) ?_
        rintro vw168 w168 ⟨e167, hsp169, rfl, e167_r, hr_171, m172⟩
        clear hr_146
        replace hl := hl.mod m172 (by intro k h1 h2 h3; (try simp only [Iv] at h3); omega)
        replace hB4 := hB4.mod m172 (by intro h3; (try simp only [Iv] at h3); omega)
        replace hB19 := hB19.mod m172 (by intro h3; (try simp only [Iv] at h3); omega)
        replace hB23 := hB23.mod m172 (by intro h3; (try simp only [Iv] at h3); omega)
        replace hR_147 := hR_147.mod m172 (by intro k h1 h2 h3; (try simp only [Iv] at h3); omega)
        replace hB162 := hB162.mod m172 (by intro h3; (try simp only [Iv] at h3); omega)
        replace HM := HM.trans m172 (by intro k h1 h3; (try simp only [Iv] at h3 ⊢); omega)
        have hszw168 := m172.size
        have HC173 : Mod (fun k => k = b1 ∨ k = r5) w163 _ := HC166.trans m172 (by intro k h1 h3; (try simp only [Iv] at h3 ⊢); omega)
        have lt_hr_171 := hr_171.lt
        refine st_end (m_after HC173 ?_)
        by_cases h174 : e167 = 0
        ·skip
         have hb175 : (e167 == 0) = true := beq_iff_eq.2 h174
         refine m_p (k := 3) (n := 2) (fuel := 6) (L := [(50, .bool (e167 == 0)), (51, .bool true)]) (by kernel_rfl) (Eq.trans (b := some [(50, .bool (e167 == 0)), (51, .bool (e167 == 0))]) (by kernel_rfl) (by simp only [hb175])) rfl ?_
         refine m_load (d := 52) (t := 35) (b := b159) (o := 0) (v := .agg #[.int .i64 x24, .int .i64 x43, .int .i64 x62, .int .u8 x81, .int .i64 x100, .int .i64 x119, .int .u8 x138]) (by kernel_rfl) (by kernel_rfl) (fun wQ (mQ : Mod (fun k => k = b1 ∨ k = r5) w163 wQ) => (hB162_w165.mod mQ (by intro h3; (try simp only [Iv] at h3); omega)).sub 0) (by kernel_rfl) ?_
         refine m_Q (by kernel_rfl) ?_
         obtain ⟨m176, hm177⟩ : ∃ y, Msg.of x24 x43 x62 x81 x100 x119 x138 = y := ⟨_, rfl⟩
         have em178 : m176.kind.toInt = x24 := by rw [← hm177]; first | rfl | exact i64_val (by omega) (by omega) | decide
         have em179 : m176.time.toInt = x43 := by rw [← hm177]; first | rfl | exact i64_val (by omega) (by omega) | decide
         have em180 : m176.cls.toInt = x62 := by rw [← hm177]; first | rfl | exact i64_val (by omega) (by omega) | decide
         have em181 : (m176.high.toNat : Int) = x81 := by rw [← hm177]; first | rfl | exact u8_val (by omega) (by omega) | decide
         have em182 : m176.bank.toInt = x100 := by rw [← hm177]; first | rfl | exact i64_val (by omega) (by omega) | decide
         have em183 : m176.place.toInt = x119 := by rw [← hm177]; first | rfl | exact i64_val (by omega) (by omega) | decide
         have em184 : (m176.value.toNat : Int) = x138 := by rw [← hm177]; first | rfl | exact u8_val (by omega) (by omega) | decide
         have hE185 : Value.agg #[.int .i64 m176.kind.toInt, .int .i64 m176.time.toInt, .int .i64 m176.cls.toInt, .int .u8 (m176.high.toNat : Int), .int .i64 m176.bank.toInt, .int .i64 m176.place.toInt, .int .u8 (m176.value.toNat : Int)] = Value.agg #[.int .i64 x24, .int .i64 x43, .int .i64 x62, .int .u8 x81, .int .i64 x100, .int .i64 x119, .int .u8 x138] := by rw [em178, em179, em180, em181, em182, em183, em184]
         refine st_fn (d := 53) (f := 18) (xs := #[.agg #[.int .i64 x24, .int .i64 x43, .int .i64 x62, .int .u8 x81, .int .i64 x100, .int .i64 x119, .int .u8 x138]]) (R := _) (by kernel_rfl) (by have hh := Check_ok (w := w168) (m := m176) ; rw [hE185] at hh; exact hh) ?_
         rintro vw187 w187 ⟨e186, hsp188, rfl, e186_r, m190⟩
         replace hl := hl.mod0 m190
         replace hB4 := hB4.mod m190 (fun q => q)
         replace hB19 := hB19.mod m190 (fun q => q)
         replace hB23 := hB23.mod m190 (fun q => q)
         replace hR_147 := hR_147.mod0 m190
         replace hB162 := hB162.mod m190 (fun q => q)
         replace hr_171 := hr_171.mod m190 (fun q => q)
         replace HM := HM.tr0 m190
         have hszw187 := m190.size
         have HC191 := HC173.tr0 m190
         refine st_end (m_after HC191 ?_)
         refine m_p (k := 7) (n := 2) (fuel := 2) (L := [(54, .bool (e186 == 0)), (55, .bool (e186 == 0))]) (by kernel_rfl) (by kernel_rfl) rfl ?_
         refine m_Q (by kernel_rfl) ?_
         refine st_store (t := 35) (v := .agg #[.int .i64 x24, .int .i64 x43, .int .i64 x62, .int .u8 x81, .int .i64 x100, .int .i64 x119, .int .u8 x138]) (o := 0) (C' := [.int .i64 x24, .int .i64 x43, .int .i64 x62, .int .u8 x81, .int .i64 x100, .int .i64 x119, .int .u8 x138]) (by kernel_rfl) hB4 (by kernel_rfl) ?_
         intro w192 m193 zm193 NhB4
         clear hB4; have hB4 := NhB4; clear NhB4
         replace hl := hl.mod m193 (by intro k h1 h2 h3; (try simp only [Iv] at h3); omega)
         replace hB19 := hB19.mod m193 (by intro h3; (try simp only [Iv] at h3); omega)
         replace hB23 := hB23.mod m193 (by intro h3; (try simp only [Iv] at h3); omega)
         replace hR_147 := hR_147.mod m193 (by intro k h1 h2 h3; (try simp only [Iv] at h3); omega)
         replace hB162 := hB162.mod m193 (by intro h3; (try simp only [Iv] at h3); omega)
         replace hr_171 := hr_171.mod m193 (by intro h3; (try simp only [Iv] at h3); omega)
         replace HM := HM.trans m193 (by intro k h1 h3; (try simp only [Iv] at h3 ⊢); omega)
         have hszw192 := m193.size
         have HC194 : Mod (fun k => k = b1 ∨ k = r5) w163 _ := HC191.trans m193 (by intro k h1 h3; (try simp only [Iv] at h3 ⊢); omega)
         refine st_end (m_after HC194 ?_)
         refine m_p (k := 10) (n := 1) (fuel := 0) (L := [(3, .bool (e186 == 0))]) (by kernel_rfl) (by kernel_rfl) rfl ?_
         refine m_end ?_
         refine then_n ?_
         refine wp_ret ?_
         refine post_run (v := .tuple #[.agg #[.int .i64 x24, .int .i64 x43, .int .i64 x62, .int .u8 x81, .int .i64 x100, .int .i64 x119, .int .u8 x138], .bool (e186 == 0)]) (res_cell2 (p := 2) (t := 35) (b := b1) (e := 35) (k := 0) (q := 3) (v := .agg #[.int .i64 x24, .int .i64 x43, .int .i64 x62, .int .u8 x81, .int .i64 x100, .int .i64 x119, .int .u8 x138]) (u := .bool (e186 == 0)) (by kernel_rfl) (by kernel_rfl) (by kernel_rfl) hB4 (by kernel_rfl)) ?_
         refine ⟨m176, e186 == 0, ?_, (by simp only [hE185]), HM⟩
         ·rw [msg1]
          try simp only [hsp30]
          rw [if_neg h35]
          try simp only [hsp49]
          rw [if_neg h54]
          try simp only [hsp68]
          rw [if_neg h73]
          try simp only [hsp87]
          rw [if_neg h92]
          try simp only [hsp106]
          rw [if_neg h111]
          try simp only [hsp125]
          rw [if_neg h130]
          try simp only [hsp144]
          rw [if_neg h149]
          try simp only [hsp169]
          rw [if_pos h174]
          try simp only [hm177]
          try simp only [hsp188]
          all_goals (try rfl)
        ·skip
         have hb195 : (e167 == 0) = false := beq_eq_false_iff_ne.2 h174
         refine m_p (k := 3) (n := 2) (fuel := 6) (L := [(50, .bool (e167 == 0)), (51, .bool false)]) (by kernel_rfl) (Eq.trans (b := some [(50, .bool (e167 == 0)), (51, .bool (e167 == 0))]) (by kernel_rfl) (by simp only [hb195])) rfl ?_
         refine m_p (k := 5) (n := 1) (fuel := 5) (L := [(52, undef)]) (by kernel_rfl) (by kernel_rfl) rfl ?_
         refine m_Q (by kernel_rfl) ?_
         refine st_unwanted (some 53) (by kernel_rfl) ?_
         refine st_end (m_after HC173 ?_)
         refine m_p (k := 7) (n := 2) (fuel := 2) (L := [(54, undef), (55, .bool false)]) (by kernel_rfl) (by kernel_rfl) rfl ?_
         refine m_Q (by kernel_rfl) ?_
         refine st_store (t := 35) (v := .agg #[.int .i64 x24, .int .i64 x43, .int .i64 x62, .int .u8 x81, .int .i64 x100, .int .i64 x119, .int .u8 x138]) (o := 0) (C' := [.int .i64 x24, .int .i64 x43, .int .i64 x62, .int .u8 x81, .int .i64 x100, .int .i64 x119, .int .u8 x138]) (by kernel_rfl) hB4 (by kernel_rfl) ?_
         intro w196 m197 zm197 NhB4
         clear hB4; have hB4 := NhB4; clear NhB4
         replace hl := hl.mod m197 (by intro k h1 h2 h3; (try simp only [Iv] at h3); omega)
         replace hB19 := hB19.mod m197 (by intro h3; (try simp only [Iv] at h3); omega)
         replace hB23 := hB23.mod m197 (by intro h3; (try simp only [Iv] at h3); omega)
         replace hR_147 := hR_147.mod m197 (by intro k h1 h2 h3; (try simp only [Iv] at h3); omega)
         replace hB162 := hB162.mod m197 (by intro h3; (try simp only [Iv] at h3); omega)
         replace hr_171 := hr_171.mod m197 (by intro h3; (try simp only [Iv] at h3); omega)
         replace HM := HM.trans m197 (by intro k h1 h3; (try simp only [Iv] at h3 ⊢); omega)
         have hszw196 := m197.size
         have HC198 : Mod (fun k => k = b1 ∨ k = r5) w163 _ := HC173.trans m197 (by intro k h1 h3; (try simp only [Iv] at h3 ⊢); omega)
         refine st_end (m_after HC198 ?_)
         refine m_p (k := 10) (n := 1) (fuel := 0) (L := [(3, .bool false)]) (by kernel_rfl) (by kernel_rfl) rfl ?_
         refine m_end ?_
         refine then_n ?_
         refine wp_ret ?_
         refine post_run (v := .tuple #[.agg #[.int .i64 x24, .int .i64 x43, .int .i64 x62, .int .u8 x81, .int .i64 x100, .int .i64 x119, .int .u8 x138], .bool false]) (res_cell2 (p := 2) (t := 35) (b := b1) (e := 35) (k := 0) (q := 3) (v := .agg #[.int .i64 x24, .int .i64 x43, .int .i64 x62, .int .u8 x81, .int .i64 x100, .int .i64 x119, .int .u8 x138]) (u := .bool false) (by kernel_rfl) (by kernel_rfl) (by kernel_rfl) hB4 (by kernel_rfl)) ?_
         obtain ⟨m199, hm200⟩ : ∃ y, Msg.of x24 x43 x62 x81 x100 x119 x138 = y := ⟨_, rfl⟩
         have em201 : m199.kind.toInt = x24 := by rw [← hm200]; first | rfl | exact i64_val (by omega) (by omega) | decide
         have em202 : m199.time.toInt = x43 := by rw [← hm200]; first | rfl | exact i64_val (by omega) (by omega) | decide
         have em203 : m199.cls.toInt = x62 := by rw [← hm200]; first | rfl | exact i64_val (by omega) (by omega) | decide
         have em204 : (m199.high.toNat : Int) = x81 := by rw [← hm200]; first | rfl | exact u8_val (by omega) (by omega) | decide
         have em205 : m199.bank.toInt = x100 := by rw [← hm200]; first | rfl | exact i64_val (by omega) (by omega) | decide
         have em206 : m199.place.toInt = x119 := by rw [← hm200]; first | rfl | exact i64_val (by omega) (by omega) | decide
         have em207 : (m199.value.toNat : Int) = x138 := by rw [← hm200]; first | rfl | exact u8_val (by omega) (by omega) | decide
         have hE208 : Value.agg #[.int .i64 m199.kind.toInt, .int .i64 m199.time.toInt, .int .i64 m199.cls.toInt, .int .u8 (m199.high.toNat : Int), .int .i64 m199.bank.toInt, .int .i64 m199.place.toInt, .int .u8 (m199.value.toNat : Int)] = Value.agg #[.int .i64 x24, .int .i64 x43, .int .i64 x62, .int .u8 x81, .int .i64 x100, .int .i64 x119, .int .u8 x138] := by rw [em201, em202, em203, em204, em205, em206, em207]
         refine ⟨m199, false, ?_, (by simp only [hE208]), HM⟩
         ·rw [msg1]
          try simp only [hsp30]
          rw [if_neg h35]
          try simp only [hsp49]
          rw [if_neg h54]
          try simp only [hsp68]
          rw [if_neg h73]
          try simp only [hsp87]
          rw [if_neg h92]
          try simp only [hsp106]
          rw [if_neg h111]
          try simp only [hsp125]
          rw [if_neg h130]
          try simp only [hsp144]
          rw [if_neg h149]
          try simp only [hsp169]
          rw [if_neg h174]
          try simp only [hm200]
          all_goals (try rfl)

def lread_j3 (x38 : Int) (x49 : Int) (hr_352_1 : Int) (hr_353_1 : Int) (hr_354_1 : Bool) (hr_570_1 : List UInt8) (hr_571_1 : Int) : ((List Msg × Int × Int × Int × Bool) ⊕ (Unit)) ⊕ (Int) :=
  match rend hr_570_1 hr_571_1 with
  | e135 =>
   if e135 ≠ 0 then
    .inl (.inr ())
   else
    if hr_352_1 > 0 then
     if hr_353_1 ≠ x38 then
      .inl (.inr ())
     else
      if hr_354_1 = true then
       if x49 = 1 then
        .inr e135
       else
        .inl (.inr ())
      else
       if x49 = 1 then
        .inl (.inr ())
       else
        .inr e135
    else
     .inr e135

def lread_l2 (x66 : Int) : Nat → Int → (List Msg) → Int → Int → Bool → (List UInt8) → Int → ((List Msg × Int × Int × Int × Bool) ⊕ (Unit)) ⊕ (List Msg × Int × Int × Bool × List UInt8 × Int)
 | 0, _, _, _, _, _, _, _ => default
 | k_2 + 1, s40_2, hr_350_2, hr_352_2, hr_353_2, hr_354_2, hr_750_2, hr_751_2 =>
  if s40_2 < x66 then
   match blk hr_750_2 hr_751_2 with
   | (p84, l89, e90) =>
    match msg1 p84 with
    | (m98, d99) =>
     if d99 = true then
      match snd1 hr_350_2 0 hr_352_2 hr_353_2 hr_354_2 m98 with
      | (e112, ring113, ct114, mk115, en116) =>
       if e112 ≠ 0 then
        .inl (.inr ())
       else
        lread_l2 x66 k_2 (s40_2 + 1) ring113 ct114 mk115 en116 l89 e90
     else
      .inl (.inr ())
  else
   .inr (hr_350_2, hr_352_2, hr_353_2, hr_354_2, hr_750_2, hr_751_2)

def lread_j1 (x12 : Int) (l52 : List UInt8) (e53 : Int) : ((List Msg × Int × Int × Int × Bool) ⊕ (Unit)) ⊕ (List Msg × Int × Int × Bool × List UInt8 × Int) :=
  match cnt l52 e53 ((List.replicate x12.toNat Msg.zero).length : Int) with
  | (x66, l69, e70) =>
   lread_l2 x66 ((x66 - 0).toNat + 1) 0 (List.replicate x12.toNat Msg.zero) 0 0 false l69 e70

def lread (l : List UInt8) : (List Msg × Int × Int × Int × Bool) ⊕ (Unit) :=
  match cnt l 0 4096 with
  | (x12, l15, e16) =>
   if 1 ≤ x12 ∧ x12 ≤ 4096 then
    match rd1 l15 e16 with
    | (x38, l41, e42) =>
     match rd1 l41 e42 with
     | (x49, l52, e53) =>
      if x38 > 1099511627776 then
       .inr ()
      else
       if x49 > 1 then
        .inr ()
       else
        match lread_j1 x12 l52 e53 with
        | .inr (hr_350_1, hr_352_1, hr_353_1, hr_354_1, hr_570_1, hr_571_1) =>
         match lread_j3 x38 x49 hr_352_1 hr_353_1 hr_354_1 hr_570_1 hr_571_1 with
         | .inr hr_571_3 =>
          match decide ((lbytes hr_350_1 0 hr_352_1 x38 (x49 == 1)) = l) with
          | d181 =>
           if d181 = true then
            .inl (hr_350_1, 0, hr_352_1, x38, x49 == 1)
           else
            .inr ()
         | .inl o => o
        | .inl o => o
   else
    match rd1 l15 e16 with
    | (x193, l196, e197) =>
     match rd1 l196 e197 with
     | (x204, l207, e208) =>
      .inr ()

theorem Read_ok {w : World} {A : Option Addr} {cA : Nat} {l : List UInt8} {lo : Nat} {hi : Nat} (hl : RdA tyU8 w lo hi A l) (A_n : A = none → cA = 0) (A_c : l.length ≤ cA) (hl_hi : hi ≤ w.heap.size) :
  Ret Try.prog 32 #[.slice A l.length cA] w fun v w' => (∃ r : Nat, ∃ A2 : Option Addr, ∃ c2 : Nat, ∃ ring2 : List Msg, ∃ fr : Int, ∃ ct : Int, ∃ mk : Int, ∃ en : Bool, ∃ lo2 : Nat, ∃ hi2 : Nat, lread l = .inl (ring2, fr, ct, mk, en) ∧ v = .tuple #[.pointer (some ⟨r, 0, none⟩), .int .i64 0] ∧ (A2 = none → c2 = 0) ∧ (ring2.length ≤ c2) ∧ (0 ≤ fr ∧ fr ≤ 4096) ∧ (0 ≤ ct ∧ ct ≤ 4096) ∧ (-9223372036854775808 ≤ mk ∧ mk ≤ 9223372036854775807) ∧ (0 < ring2.length ∧ ring2.length ≤ 4096 ∧ fr < ring2.length ∧ ct ≤ ring2.length) ∧ (w.heap.size ≤ lo2 ∧ lo2 ≤ hi2 ∧ hi2 ≤ r ∧ r < w'.heap.size) ∧ Blk w' r 147 [.slice A2 ring2.length c2, .int .i64 fr, .int .i64 ct, .int .i64 mk, .bool en] ∧ Own tyMsg 35 w' lo2 hi2 (.slice A2 ring2.length c2) ring2 ∧ Mod (Nil) w w') ∨ (lread l = .inr () ∧ v = .tuple #[.pointer none, .int .i64 4] ∧ Mod (Nil) w w') := by
 have hl_l := hl.len
 have HM : Mod (Nil) w w := Mod.refl _ w
 refine ret_of Try.func32 rfl rfl ?_
 refine wp_seq ?_
 refine c_region (L := [0, 1]) (by kernel_rfl) ?_
 refine st_pure (l := [0, 1]) (rest := []) (L := [(2, .pointer none), (3, .int .i64 0)]) rfl (by kernel_rfl) ?_
 refine st_end ?_
 refine then_n ?_
 refine wp_seq ?_
 refine c_region (L := [0, 1, 2]) (by kernel_rfl) ?_
 refine st_pure (l := [0]) (rest := [1, 2]) (L := [(11, .slice A l.length cA)]) rfl (by kernel_rfl) ?_
 refine st_fn (d := 12) (f := 108) (xs := #[.slice A l.length cA]) (R := _) (by kernel_rfl) (Reader_New (w := w) (A := A) (cA := cA) (l := l) (lo := lo) (hi := hi) (hl := hl) (A_n := A_n) (A_c := by first | exact A_c | omega) (hl_hi := by omega)) ?_
 rintro vw6 w6 ⟨r1, A2, c3, lo4, hi5, rfl, A2_n, A2_c, hlr8, hr_9, hR_10, m11⟩
 replace hl := hl.mod0 m11
 replace HM := HM.tr0 m11
 have hszw6 := m11.size
 have lt_hr_9 := hr_9.lt
 have hR_10_l := hR_10.len
 refine st_pure (l := [2]) (rest := []) (L := [(4, .pointer (some ⟨r1, 0, none⟩))]) rfl (by kernel_rfl) ?_
 refine st_end ?_
 refine then_n ?_
 refine wp_seq ?_
 refine c_region (L := [0, 1, 2, 3, 4, 5, 6, 7]) (by kernel_rfl) ?_
 refine st_pure (l := [0]) (rest := [1, 2, 3, 4, 5, 6, 7]) (L := [(14, .pointer (some ⟨r1, 0, none⟩))]) rfl (by kernel_rfl) ?_
 refine st_fn (d := 15) (f := 109) (xs := #[.pointer (some ⟨r1, 0, none⟩), .int .i64 4096]) (R := _) (by kernel_rfl) (Reader_Count (w := w6) (r := r1) (A := A2) (cA := c3) (l := l) (e := 0) (lo := lo4) (hi := hi5) (most := 4096) (hr := hr_9) (hR := hR_10) (most_r := by omega) (A_n := A2_n) (A_c := by first | exact A2_c | omega) (e_r := by omega) (hR_hi := by omega) (hsep := by first | omega | (simp only [List.length_cons, List.length_nil, List.length_append, List.length_take, List.length_drop] at *; omega))) ?_
 rintro vw17 w17 ⟨x12, A13, c14, l15, e16, hsp18, rfl, x12_r, A13_n, A13_c, e16_r, x2_b20, hr_21, hR_22, m23⟩
 clear hr_9
 clear hR_10
 replace hl := hl.mod m23 (by intro k h1 h2 h3; (try simp only [Iv] at h3); omega)
 replace HM := HM.trans m23 (by intro k h1 h3; (try simp only [Iv] at h3 ⊢); omega)
 have hszw17 := m23.size
 have lt_hr_21 := hr_21.lt
 have hR_22_l := hR_22.len
 by_cases h24 : 1 ≤ x12 ∧ x12 ≤ 4096
 ·skip
  have hb25 : (decide (1 ≤ x12 ∧ x12 ≤ 4096)) = true := decide_eq_true h24
  refine st_fn (d := 16) (f := 13) (xs := #[.int .i64 x12]) (R := _) (by kernel_rfl) (New_ok (w := w17) (room := x12) (room_r := by omega) (hroom := by first | omega | (simp only [List.length_cons, List.length_nil, List.length_append, List.length_take, List.length_drop] at *; omega))) ?_
  rintro vw32 w32 ⟨r26, A27, c28, lo29, hi30, ring31, rfl, A27_n, A27_c, rfl, hlr34, hr_35, hO_36, m37⟩
  replace hl := hl.mod0 m37
  replace hr_21 := hr_21.mod m37 (fun q => q)
  replace hR_22 := hR_22.mod0 m37
  replace HM := HM.tr0 m37
  have hszw32 := m37.size
  have lt_hr_35 := hr_35.lt
  have hO_36_b := hO_36.bounds
  refine st_pure (l := [3, 4, 5, 6, 7]) (rest := []) (L := [(13, .tuple #[.pointer (some ⟨r26, 0, none⟩), .int .i64 0]), (17, .pointer (some ⟨r26, 0, none⟩)), (18, .int .i64 0), (5, .pointer (some ⟨r26, 0, none⟩)), (6, .int .i64 0)]) rfl (by kernel_rfl) ?_
  refine st_end ?_
  refine then_n ?_
  refine wp_seq ?_
  refine c_region (L := [0, 1, 2, 3, 4, 5]) (by kernel_rfl) ?_
  refine st_pure (l := [0]) (rest := [1, 2, 3, 4, 5]) (L := [(19, .pointer (some ⟨r1, 0, none⟩))]) rfl (by kernel_rfl) ?_
  refine st_fn (d := 20) (f := 110) (xs := #[.pointer (some ⟨r1, 0, none⟩)]) (R := _) (by kernel_rfl) (Reader_Number (w := w32) (r := r1) (A := A13) (cA := c14) (l := l15) (e := e16) (lo := lo4) (hi := hi5) (hr := hr_21) (hR := hR_22) (A_n := A13_n) (A_c := by first | exact A13_c | omega) (e_r := by omega) (hR_hi := by omega) (hsep := by first | omega | (simp only [List.length_cons, List.length_nil, List.length_append, List.length_take, List.length_drop] at *; omega))) ?_
  rintro vw43 w43 ⟨x38, A39, c40, l41, e42, hsp44, rfl, x38_r, A39_n, A39_c, e42_r, hr_46, hR_47, m48⟩
  clear hr_21
  clear hR_22
  replace hl := hl.mod m48 (by intro k h1 h2 h3; (try simp only [Iv] at h3); omega)
  replace hr_35 := hr_35.mod m48 (by intro h3; (try simp only [Iv] at h3); omega)
  replace hO_36 := hO_36.mod m48 (by intro k h1 h2 h3; (try simp only [Iv] at h3); omega)
  replace HM := HM.trans m48 (by intro k h1 h3; (try simp only [Iv] at h3 ⊢); omega)
  have hszw43 := m48.size
  have lt_hr_46 := hr_46.lt
  have hR_47_l := hR_47.len
  refine st_pure (l := [2]) (rest := [3, 4, 5]) (L := [(21, .pointer (some ⟨r1, 0, none⟩))]) rfl (by kernel_rfl) ?_
  refine st_fn (d := 22) (f := 110) (xs := #[.pointer (some ⟨r1, 0, none⟩)]) (R := _) (by kernel_rfl) (Reader_Number (w := w43) (r := r1) (A := A39) (cA := c40) (l := l41) (e := e42) (lo := lo4) (hi := hi5) (hr := hr_46) (hR := hR_47) (A_n := A39_n) (A_c := by first | exact A39_c | omega) (e_r := by omega) (hR_hi := by omega) (hsep := by first | omega | (simp only [List.length_cons, List.length_nil, List.length_append, List.length_take, List.length_drop] at *; omega))) ?_
  rintro vw54 w54 ⟨x49, A50, c51, l52, e53, hsp55, rfl, x49_r, A50_n, A50_c, e53_r, hr_57, hR_58, m59⟩
  clear hr_46
  clear hR_47
  replace hl := hl.mod m59 (by intro k h1 h2 h3; (try simp only [Iv] at h3); omega)
  replace hr_35 := hr_35.mod m59 (by intro h3; (try simp only [Iv] at h3); omega)
  replace hO_36 := hO_36.mod m59 (by intro k h1 h2 h3; (try simp only [Iv] at h3); omega)
  replace HM := HM.trans m59 (by intro k h1 h3; (try simp only [Iv] at h3 ⊢); omega)
  have hszw54 := m59.size
  have lt_hr_57 := hr_57.lt
  have hR_58_l := hR_58.len
  refine st_pure (l := [4, 5]) (rest := []) (L := [(7, .int .u64 x38), (8, .int .u64 x49)]) rfl (by kernel_rfl) ?_
  refine st_end ?_
  refine then_n ?_
  refine wp_seq ?_
  refine wp_seq ?_
  refine c_region (L := [0, 1, 2, 3, 4, 5, 6, 7, 8, 9]) (by kernel_rfl) ?_
  by_cases h60 : x38 > 1099511627776
  ·skip
   have hb61 : (decide (x38 > 1099511627776)) = true := decide_eq_true h60
   refine st_pure (l := [0, 1, 2, 3, 4, 5, 6]) (rest := [7, 8, 9]) (L := [(23, .int .i64 0), (24, .bool false), (25, .bool false), (26, .int .u64 x38), (27, .bool (decide (x38 > 1099511627776))), (28, .bool (decide (x38 > 1099511627776))), (29, .bool true)]) rfl (Eq.trans (b := some [(23, .int .i64 0), (24, .bool false), (25, .bool false), (26, .int .u64 x38), (27, .bool (decide (x38 > 1099511627776))), (28, .bool (decide (x38 > 1099511627776))), (29, .bool (decide (x38 > 1099511627776)))]) (by kernel_rfl) (by simp only [hb61])) ?_
   refine st_pure (l := [7, 8, 9]) (rest := []) (L := [(30, undef), (31, undef), (32, .bool true)]) rfl (by kernel_rfl) ?_
   refine st_end ?_
   refine then_n ?_
   refine c_true (by kernel_rfl) ?_
   refine wp_seq ?_
   refine c_region (L := [0, 1]) (by kernel_rfl) ?_
   refine st_pure (l := [0, 1]) (rest := []) (L := [(2, .pointer none), (3, .int .i64 4)]) rfl (by kernel_rfl) ?_
   refine st_end ?_
   refine then_n ?_
   refine wp_ret ?_
   refine then_r ?_
   refine post_ret (v := .tuple #[.pointer none, .int .i64 4]) (by kernel_rfl) ?_
   refine .inr ?_
   refine ⟨?_, rfl, HM⟩
   ·rw [lread]
    try simp only [hsp18]
    rw [if_pos h24]
    try simp only [hsp44]
    try simp only [hsp55]
    rw [if_pos h60]
    all_goals (try rfl)
  ·skip
   have hb62 : (decide (x38 > 1099511627776)) = false := decide_eq_false h60
   refine st_pure (l := [0, 1, 2, 3, 4, 5, 6]) (rest := [7, 8, 9]) (L := [(23, .int .i64 0), (24, .bool false), (25, .bool false), (26, .int .u64 x38), (27, .bool (decide (x38 > 1099511627776))), (28, .bool (decide (x38 > 1099511627776))), (29, .bool false)]) rfl (Eq.trans (b := some [(23, .int .i64 0), (24, .bool false), (25, .bool false), (26, .int .u64 x38), (27, .bool (decide (x38 > 1099511627776))), (28, .bool (decide (x38 > 1099511627776))), (29, .bool (decide (x38 > 1099511627776)))]) (by kernel_rfl) (by simp only [hb62])) ?_
   by_cases h63 : x49 > 1
   ·skip
    have hb64 : (decide (x49 > 1)) = true := decide_eq_true h63
    refine st_pure (l := [7, 8, 9]) (rest := []) (L := [(30, .int .u64 x49), (31, .bool (decide (x49 > 1))), (32, .bool true)]) rfl (Eq.trans (b := some [(30, .int .u64 x49), (31, .bool (decide (x49 > 1))), (32, .bool (decide (x49 > 1)))]) (by kernel_rfl) (by simp only [hb64])) ?_
    refine st_end ?_
    refine then_n ?_
    refine c_true (by kernel_rfl) ?_
    refine wp_seq ?_
    refine c_region (L := [0, 1]) (by kernel_rfl) ?_
    refine st_pure (l := [0, 1]) (rest := []) (L := [(2, .pointer none), (3, .int .i64 4)]) rfl (by kernel_rfl) ?_
    refine st_end ?_
    refine then_n ?_
    refine wp_ret ?_
    refine then_r ?_
    refine post_ret (v := .tuple #[.pointer none, .int .i64 4]) (by kernel_rfl) ?_
    refine .inr ?_
    refine ⟨?_, rfl, HM⟩
    ·rw [lread]
     try simp only [hsp18]
     rw [if_pos h24]
     try simp only [hsp44]
     try simp only [hsp55]
     rw [if_neg h60, if_pos h63]
     all_goals (try rfl)
   ·skip
    have hb65 : (decide (x49 > 1)) = false := decide_eq_false h63
    refine st_pure (l := [7, 8, 9]) (rest := []) (L := [(30, .int .u64 x49), (31, .bool (decide (x49 > 1))), (32, .bool false)]) rfl (Eq.trans (b := some [(30, .int .u64 x49), (31, .bool (decide (x49 > 1))), (32, .bool (decide (x49 > 1)))]) (by kernel_rfl) (by simp only [hb65])) ?_
    refine st_end ?_
    refine then_n ?_
    refine c_false (by kernel_rfl) ?_
    refine wp_skip ?_
    refine then_n ?_
    refine wp_seq ?_
    refine c_cut (J := fun a w' => ∃ Ahr_350_1 : Option Addr, ∃ chr_350_1 : Nat, ∃ hr_350_1 : List Msg, ∃ hr_352_1 : Int, ∃ hr_353_1 : Int, ∃ hr_354_1 : Bool, ∃ Ahr_570_1 : Option Addr, ∃ chr_570_1 : Nat, ∃ hr_570_1 : List UInt8, ∃ hr_571_1 : Int, lread_j1 x12 l52 e53 = .inr (hr_350_1, hr_352_1, hr_353_1, hr_354_1, hr_570_1, hr_571_1) ∧ Fr 101 [(0, .slice A l.length cA), (4, .pointer (some ⟨r1, 0, none⟩)), (5, .pointer (some ⟨r26, 0, none⟩)), (7, .int .u64 x38), (8, .int .u64 x49)] a ∧ Mod (Nil) w w' ∧ w54.heap.size ≤ w'.heap.size ∧ RdA tyU8 w' lo hi A l ∧ Blk w' r26 147 [.slice Ahr_350_1 hr_350_1.length chr_350_1, .int .i64 0, .int .i64 hr_352_1, .int .i64 hr_353_1, .bool hr_354_1] ∧ Blk w' r1 209 [.slice Ahr_570_1 hr_570_1.length chr_570_1, .int .i64 hr_571_1, .bool true] ∧ Own tyMsg 35 w' lo29 hi30 (.slice Ahr_350_1 hr_350_1.length chr_350_1) hr_350_1 ∧ RdA tyMsg w' lo29 hi30 Ahr_350_1 hr_350_1 ∧ RdA tyU8 w' lo4 hi5 Ahr_570_1 hr_570_1 ∧ (0 ≤ hr_352_1 ∧ hr_352_1 ≤ 4096) ∧ (-9223372036854775808 ≤ hr_353_1 ∧ hr_353_1 ≤ 9223372036854775807) ∧ (-9223372036854775808 ≤ hr_571_1 ∧ hr_571_1 ≤ 9223372036854775807) ∧ (Ahr_350_1 = none → chr_350_1 = 0) ∧ (hr_350_1.length ≤ chr_350_1) ∧ (Ahr_570_1 = none → chr_570_1 = 0) ∧ (hr_570_1.length ≤ chr_570_1) ∧ (hr_350_1.length ≤ 4096 ∧ 0 < hr_350_1.length ∧ 0 < hr_350_1.length ∧ hr_352_1 ≤ hr_350_1.length) ∧ True) ?_ ?_
    ·skip
     refine wp_seq ?_
     refine c_region (L := [0, 1, 2, 3, 4, 5, 6, 7]) (by kernel_rfl) ?_
     refine st_pure (l := [0, 1, 2, 3]) (rest := [4, 5, 6, 7]) (L := [(33, .pointer (some ⟨r1, 0, none⟩)), (34, .pointer (some ⟨r26, 0, none⟩)), (35, .pointer (some ⟨r26, 0, none⟩)), (36, .pointer (some ⟨r26, 0, none⟩))]) rfl (by kernel_rfl) ?_
     refine st_load (d := 37) (t := 45) (cs := _) (v := .slice A27 ((List.replicate x12.toNat Msg.zero).length) c28) (by kernel_rfl) (hr_35.sub 0) (by kernel_rfl) ?_
     refine st_pure (l := [5]) (rest := [6, 7]) (L := [(38, .int .i64 ((List.replicate x12.toNat Msg.zero).length : Int))]) rfl (by kernel_rfl) ?_
     refine st_fn (d := 39) (f := 109) (xs := #[.pointer (some ⟨r1, 0, none⟩), .int .i64 ((List.replicate x12.toNat Msg.zero).length : Int)]) (R := _) (by kernel_rfl) (Reader_Count (w := w54) (r := r1) (A := A50) (cA := c51) (l := l52) (e := e53) (lo := lo4) (hi := hi5) (most := ((List.replicate x12.toNat Msg.zero).length : Int)) (hr := hr_57) (hR := hR_58) (most_r := by omega) (A_n := A50_n) (A_c := by first | exact A50_c | omega) (e_r := by omega) (hR_hi := by omega) (hsep := by first | omega | (simp only [List.length_cons, List.length_nil, List.length_append, List.length_take, List.length_drop] at *; omega))) ?_
     rintro vw71 w71 ⟨x66, A67, c68, l69, e70, hsp72, rfl, x66_r, A67_n, A67_c, e70_r, x2_b74, hr_75, hR_76, m77⟩
     clear hr_57
     clear hR_58
     replace hl := hl.mod m77 (by intro k h1 h2 h3; (try simp only [Iv] at h3); omega)
     replace hr_35 := hr_35.mod m77 (by intro h3; (try simp only [Iv] at h3); omega)
     replace hO_36 := hO_36.mod m77 (by intro k h1 h2 h3; (try simp only [Iv] at h3); omega)
     replace HM := HM.trans m77 (by intro k h1 h3; (try simp only [Iv] at h3 ⊢); omega)
     have hszw71 := m77.size
     have lt_hr_75 := hr_75.lt
     have hR_76_l := hR_76.len
     refine st_pure (l := [7]) (rest := []) (L := [(40, .int .i64 0)]) rfl (by kernel_rfl) ?_
     refine st_end ?_
     refine then_n ?_
     refine wp_block ?_
     refine c_loop (σ := Nat × Int × Option Addr × Nat × List Msg × Int × Int × Bool × Option Addr × Nat × List UInt8 × Int) (fun s a w' => match s with | ⟨k_2, s40_2, Ahr_350_2, chr_350_2, hr_350_2, hr_352_2, hr_353_2, hr_354_2, Ahr_750_2, chr_750_2, hr_750_2, hr_751_2⟩ => lread_l2 x66 k_2 s40_2 hr_350_2 hr_352_2 hr_353_2 hr_354_2 hr_750_2 hr_751_2 = lread_l2 x66 ((x66 - 0).toNat + 1) 0 (List.replicate x12.toNat Msg.zero) 0 0 false l69 e70 ∧ (x66 - s40_2).toNat < k_2 ∧ Fr 101 [(0, .slice A l.length cA), (4, .pointer (some ⟨r1, 0, none⟩)), (5, .pointer (some ⟨r26, 0, none⟩)), (7, .int .u64 x38), (8, .int .u64 x49), (39, .int .i64 x66), (40, .int .i64 s40_2)] a ∧ Mod (Nil) w w' ∧ w71.heap.size ≤ w'.heap.size ∧ RdA tyU8 w' lo hi A l ∧ Blk w' r26 147 [.slice Ahr_350_2 hr_350_2.length chr_350_2, .int .i64 0, .int .i64 hr_352_2, .int .i64 hr_353_2, .bool hr_354_2] ∧ Blk w' r1 209 [.slice Ahr_750_2 hr_750_2.length chr_750_2, .int .i64 hr_751_2, .bool true] ∧ Own tyMsg 35 w' lo29 hi30 (.slice Ahr_350_2 hr_350_2.length chr_350_2) hr_350_2 ∧ RdA tyMsg w' lo29 hi30 Ahr_350_2 hr_350_2 ∧ RdA tyU8 w' lo4 hi5 Ahr_750_2 hr_750_2 ∧ (0 ≤ s40_2 ∧ s40_2 ≤ x66) ∧ (0 ≤ hr_352_2 ∧ hr_352_2 ≤ 4096) ∧ (-9223372036854775808 ≤ hr_353_2 ∧ hr_353_2 ≤ 9223372036854775807) ∧ (-9223372036854775808 ≤ hr_751_2 ∧ hr_751_2 ≤ 9223372036854775807) ∧ (Ahr_350_2 = none → chr_350_2 = 0) ∧ (hr_350_2.length ≤ chr_350_2) ∧ (Ahr_750_2 = none → chr_750_2 = 0) ∧ (hr_750_2.length ≤ chr_750_2) ∧ (hr_350_2.length ≤ 4096 ∧ 0 < hr_350_2.length ∧ 0 < hr_350_2.length ∧ hr_352_2 ≤ hr_350_2.length) ∧ True) (fun s => s.1) ((x66 - 0).toNat + 1, 0, A27, c28, List.replicate x12.toNat Msg.zero, 0, 0, false, A67, c68, l69, e70) ?_ ?_
     ·refine ⟨rfl, by omega, Fr.mk (by kernel_rfl) (by kernel_rfl), HM, by omega, hl, hr_35, hr_75, hO_36, (hO_36.rdSelf.2.2.2), hR_76, ?_, ?_, ?_, ?_, ?_, ?_, ?_, ?_, ?_, trivial⟩
      ·omega
      ·omega
      ·omega
      ·omega
      ·exact A27_n
      ·first | exact A27_c | omega
      ·exact A67_n
      ·first | exact A67_c | omega
      ·first | omega | (simp only [List.length_append, List.length_cons, List.length_nil, List.length_take, List.length_drop, List.length_set, List.length_replicate] at *; omega)
     ·rintro ⟨k_2, s40_2, Ahr_350_2, chr_350_2, hr_350_2, hr_352_2, hr_353_2, hr_354_2, Ahr_750_2, chr_750_2, hr_750_2, hr_751_2⟩ a w78 ⟨hL79, hk80, ⟨Tf, rfl⟩, HM', hszw78, hl', hr_35', hr_75', hO_hr_350_2', hR_hr_350_2', hR_hr_750_2', s40_2_r, hr_352_2_r, hr_353_2_r, hr_751_2_r, Ahr_350_2_n, Ahr_350_2_c, Ahr_750_2_n, Ahr_750_2_c, hi0_2, -⟩
      clear HM hl hr_35 hO_36 hr_75 hR_76
      have HM := HM'; clear HM'
      have hl := hl'; clear hl'
      have hr_35 := hr_35'; clear hr_35'
      have hr_75 := hr_75'; clear hr_75'
      have hO_hr_350_2 := hO_hr_350_2'; clear hO_hr_350_2'
      have hR_hr_350_2 := hR_hr_350_2'; clear hR_hr_350_2'
      have hR_hr_750_2 := hR_hr_750_2'; clear hR_hr_750_2'
      have hl_l := hl.len
      have hO_hr_350_2_b := hO_hr_350_2.bounds
      have hR_hr_350_2_l := hR_hr_350_2.len
      have hR_hr_750_2_l := hR_hr_750_2.len
      obtain ⟨k_2, rfl⟩ : ∃ k, k_2 = k + 1 := ⟨k_2 - 1, by omega⟩
      refine wp_seq ?_
      refine c_region (L := [0]) (by kernel_rfl) ?_
      by_cases h82 : s40_2 < x66
      ·skip
       have hb83 : (decide (s40_2 < x66)) = true := decide_eq_true h82
       refine st_pure (l := [0]) (rest := []) (L := [(41, .bool true)]) rfl (Eq.trans (b := some [(41, .bool (decide (s40_2 < x66)))]) (by kernel_rfl) (by simp only [hb83])) ?_
       refine st_end ?_
       refine then_n ?_
       refine wp_seq ?_
       refine c_true (by kernel_rfl) ?_
       refine wp_skip ?_
       refine then_n ?_
       refine wp_seq ?_
       refine wp_block ?_
       refine wp_seq ?_
       refine c_region (L := [0, 1, 2, 3, 4, 5, 6, 7, 8]) (by kernel_rfl) ?_
       refine st_pure (l := [0]) (rest := [1, 2, 3, 4, 5, 6, 7, 8]) (L := [(43, .pointer (some ⟨r1, 0, none⟩))]) rfl (by kernel_rfl) ?_
       refine st_fn (d := 44) (f := 112) (xs := #[.pointer (some ⟨r1, 0, none⟩)]) (R := _) (by kernel_rfl) (Reader_Block (w := w78) (r := r1) (A := Ahr_750_2) (cA := chr_750_2) (l := hr_750_2) (e := hr_751_2) (lo := lo4) (hi := hi5) (hr := hr_75) (hR := hR_hr_750_2) (A_n := Ahr_750_2_n) (A_c := by first | exact Ahr_750_2_c | omega) (e_r := by omega) (hR_hi := by omega) (hsep := by first | omega | (simp only [List.length_cons, List.length_nil, List.length_append, List.length_take, List.length_drop] at *; omega))) ?_
       rintro vw91 w91 ⟨p84, A85, c86, A87, c88, l89, e90, hsp92, rfl, A85_n, A85_c, A87_n, A87_c, e90_r, hr_94, hR_95, hp_96, m97⟩
       clear hr_75
       clear hR_hr_750_2
       replace hl := hl.mod m97 (by intro k h1 h2 h3; (try simp only [Iv] at h3); omega)
       replace hr_35 := hr_35.mod m97 (by intro h3; (try simp only [Iv] at h3); omega)
       replace hO_hr_350_2 := hO_hr_350_2.mod m97 (by intro k h1 h2 h3; (try simp only [Iv] at h3); omega)
       replace hR_hr_350_2 := hR_hr_350_2.mod m97 (by intro k h1 h2 h3; (try simp only [Iv] at h3); omega)
       replace HM := HM.trans m97 (by intro k h1 h3; (try simp only [Iv] at h3 ⊢); omega)
       have hszw91 := m97.size
       have lt_hr_94 := hr_94.lt
       have hR_95_l := hR_95.len
       have hp_96_l := hp_96.len
       refine st_fn (d := 45) (f := 111) (xs := #[.slice A85 p84.length c86]) (R := _) (by kernel_rfl) (message_ok (w := w91) (A := A85) (cA := c86) (l := p84) (lo := w78.heap.size) (hi := w91.heap.size) (hl := hp_96) (A_n := A85_n) (A_c := by first | exact A85_c | omega) (hl_hi := by omega)) ?_
       rintro vw100 w100 ⟨m98, d99, hsp101, rfl, m103⟩
       have hrm98_0 := i64_lo m98.kind
       have hrm98_1 := i64_lo m98.time
       have hrm98_2 := i64_lo m98.cls
       have hrm98_4 := i64_lo m98.bank
       have hrm98_5 := i64_lo m98.place
       have hsm98_0 := i64_hi m98.kind
       have hsm98_1 := i64_hi m98.time
       have hsm98_2 := i64_hi m98.cls
       have hsm98_3 := u8_hi m98.high
       have hsm98_4 := i64_hi m98.bank
       have hsm98_5 := i64_hi m98.place
       have hsm98_6 := u8_hi m98.value
       replace hl := hl.mod0 m103
       replace hr_35 := hr_35.mod m103 (fun q => q)
       replace hO_hr_350_2 := hO_hr_350_2.mod0 m103
       replace hR_hr_350_2 := hR_hr_350_2.mod0 m103
       replace hr_94 := hr_94.mod m103 (fun q => q)
       replace hR_95 := hR_95.mod0 m103
       replace hp_96 := hp_96.mod0 m103
       replace HM := HM.tr0 m103
       have hszw100 := m103.size
       refine st_pure (l := [3, 4, 5]) (rest := [6, 7, 8]) (L := [(42, .tuple #[.agg #[.int .i64 m98.kind.toInt, .int .i64 m98.time.toInt, .int .i64 m98.cls.toInt, .int .u8 (m98.high.toNat : Int), .int .i64 m98.bank.toInt, .int .i64 m98.place.toInt, .int .u8 (m98.value.toNat : Int)], .bool d99]), (46, .agg #[.int .i64 m98.kind.toInt, .int .i64 m98.time.toInt, .int .i64 m98.cls.toInt, .int .u8 (m98.high.toNat : Int), .int .i64 m98.bank.toInt, .int .i64 m98.place.toInt, .int .u8 (m98.value.toNat : Int)]), (47, .bool d99)]) rfl (by kernel_rfl) ?_
       refine st_new (d := 9) (e := 35) (C := [.int .i64 0, .int .i64 0, .int .i64 0, .int .u8 0, .int .i64 0, .int .i64 0, .int .u8 0]) (V := fun r => .pointer (some ⟨r, 0, none⟩)) (by kernel_rfl) ?_
       intro b104 w105 m106 lb104 ub104 hB107
       replace hl := hl.mod0 m106
       replace hr_35 := hr_35.mod m106 (fun q => q)
       replace hO_hr_350_2 := hO_hr_350_2.mod0 m106
       replace hR_hr_350_2 := hR_hr_350_2.mod0 m106
       replace hr_94 := hr_94.mod m106 (fun q => q)
       replace hR_95 := hR_95.mod0 m106
       replace hp_96 := hp_96.mod0 m106
       replace HM := HM.tr0 m106
       have hszw105 := m106.size
       refine st_store (t := 35) (v := .agg #[.int .i64 m98.kind.toInt, .int .i64 m98.time.toInt, .int .i64 m98.cls.toInt, .int .u8 (m98.high.toNat : Int), .int .i64 m98.bank.toInt, .int .i64 m98.place.toInt, .int .u8 (m98.value.toNat : Int)]) (o := 0) (C' := [.int .i64 m98.kind.toInt, .int .i64 m98.time.toInt, .int .i64 m98.cls.toInt, .int .u8 (m98.high.toNat : Int), .int .i64 m98.bank.toInt, .int .i64 m98.place.toInt, .int .u8 (m98.value.toNat : Int)]) (by kernel_rfl) hB107 (by kernel_rfl) ?_
       intro w108 m109 zm109 NhB107
       clear hB107; have hB107 := NhB107; clear NhB107
       replace hl := hl.mod m109 (by intro k h1 h2 h3; (try simp only [Iv] at h3); omega)
       replace hr_35 := hr_35.mod m109 (by intro h3; (try simp only [Iv] at h3); omega)
       replace hO_hr_350_2 := hO_hr_350_2.mod m109 (by intro k h1 h2 h3; (try simp only [Iv] at h3); omega)
       replace hR_hr_350_2 := hR_hr_350_2.mod m109 (by intro k h1 h2 h3; (try simp only [Iv] at h3); omega)
       replace hr_94 := hr_94.mod m109 (by intro h3; (try simp only [Iv] at h3); omega)
       replace hR_95 := hR_95.mod m109 (by intro k h1 h2 h3; (try simp only [Iv] at h3); omega)
       replace hp_96 := hp_96.mod m109 (by intro k h1 h2 h3; (try simp only [Iv] at h3); omega)
       replace HM := HM.trans m109 (by intro k h1 h3; (try simp only [Iv] at h3 ⊢); omega)
       have hszw108 := m109.size
       refine st_pure (l := [8]) (rest := []) (L := [(10, .bool d99)]) rfl (by kernel_rfl) ?_
       refine st_end ?_
       refine then_n ?_
       refine wp_seq ?_
       refine c_region (L := [0, 1, 2, 3, 4, 5, 6, 7]) (by kernel_rfl) ?_
       by_cases h110 : d99 = true
       ·skip
        have hb111 : (d99) = true := by simpa using h110
        refine st_pure (l := [0]) (rest := [1, 2, 3, 4, 5, 6, 7]) (L := [(48, .bool true)]) rfl (Eq.trans (b := some [(48, .bool d99)]) (by kernel_rfl) (by simp only [hb111])) ?_
        refine st_pure (l := [1, 2, 3]) (rest := [4, 5, 6, 7]) (L := [(49, .bool false), (50, .bool false), (51, .pointer (some ⟨r26, 0, none⟩))]) rfl (by kernel_rfl) ?_
        refine st_load (d := 52) (t := 35) (cs := _) (v := .agg #[.int .i64 m98.kind.toInt, .int .i64 m98.time.toInt, .int .i64 m98.cls.toInt, .int .u8 (m98.high.toNat : Int), .int .i64 m98.bank.toInt, .int .i64 m98.place.toInt, .int .u8 (m98.value.toNat : Int)]) (by kernel_rfl) (hB107.sub 0) (by kernel_rfl) ?_
        refine st_fn (d := 53) (f := 22) (xs := #[.pointer (some ⟨r26, 0, none⟩), .agg #[.int .i64 m98.kind.toInt, .int .i64 m98.time.toInt, .int .i64 m98.cls.toInt, .int .u8 (m98.high.toNat : Int), .int .i64 m98.bank.toInt, .int .i64 m98.place.toInt, .int .u8 (m98.value.toNat : Int)]]) (R := _) (by kernel_rfl) (Send_ok (w := w108) (r := r26) (A := Ahr_350_2) (cA := chr_350_2) (ring := hr_350_2) (fr := 0) (ct := hr_352_2) (mk := hr_353_2) (en := hr_354_2) (lo := lo29) (hi := hi30) (m := m98) (hr := hr_35) (ho := hO_hr_350_2) (A_n := Ahr_350_2_n) (A_c := by first | exact Ahr_350_2_c | omega) (fr_r := by omega) (ct_r := by omega) (mk_r := by omega) (ho_hi := by omega) (hlen := by first | omega | (simp only [List.length_cons, List.length_nil, List.length_append, List.length_take, List.length_drop] at *; omega)) (hsep := by first | omega | (simp only [List.length_cons, List.length_nil, List.length_append, List.length_take, List.length_drop] at *; omega))) ?_
        rintro vw117 w117 ⟨e112, ring113, ct114, mk115, en116, hsp118, rfl, e112_r, ct114_r, mk115_r, hlt120, hr_121, ho_122, m123⟩
        clear hr_35
        clear hO_hr_350_2
        clear hR_hr_350_2
        replace hl := hl.mod m123 (by intro k h1 h2 h3; (try simp only [Iv] at h3); omega)
        replace hr_94 := hr_94.mod m123 (by intro h3; (try simp only [Iv] at h3); omega)
        replace hR_95 := hR_95.mod m123 (by intro k h1 h2 h3; (try simp only [Iv] at h3); omega)
        replace hp_96 := hp_96.mod m123 (by intro k h1 h2 h3; (try simp only [Iv] at h3); omega)
        replace hB107 := hB107.mod m123 (by intro h3; (try simp only [Iv] at h3); omega)
        replace HM := HM.trans m123 (by intro k h1 h3; (try simp only [Iv] at h3 ⊢); omega)
        have hszw117 := m123.size
        have lt_hr_121 := hr_121.lt
        have ho_122_b := ho_122.bounds
        by_cases h124 : e112 ≠ 0
        ·skip
         have hb125 : (e112 != 0) = true := by first | (rw [bne_iff_ne]; exact h124) | (rw [bne_eq_false_iff_eq]; omega)
         refine st_pure (l := [6, 7]) (rest := []) (L := [(54, .bool (e112 != 0)), (55, .bool true)]) rfl (Eq.trans (b := some [(54, .bool (e112 != 0)), (55, .bool (e112 != 0))]) (by kernel_rfl) (by simp only [hb125])) ?_
         refine st_end ?_
         refine then_n ?_
         refine c_true (by kernel_rfl) ?_
         refine wp_seq ?_
         refine c_region (L := [0, 1]) (by kernel_rfl) ?_
         refine st_pure (l := [0, 1]) (rest := []) (L := [(2, .pointer none), (3, .int .i64 4)]) rfl (by kernel_rfl) ?_
         refine st_end ?_
         refine then_n ?_
         refine wp_ret ?_
         refine blk_r ?_
         refine then_r ?_
         refine then_r ?_
         refine blk_r ?_
         refine then_r ?_
         refine post_ret (v := .tuple #[.pointer none, .int .i64 4]) (by kernel_rfl) ?_
         refine .inr ?_
         refine ⟨?_, rfl, HM⟩
         ·rw [lread]
          try simp only [hsp18]
          rw [if_pos h24]
          try simp only [hsp44]
          try simp only [hsp55]
          rw [if_neg h60, if_neg h63]
          have hq126 : lread_j1 x12 l52 e53 = .inl (.inr ()) := by
            rw [lread_j1]
            try simp only [hsp72]
            rw [← hL79]
            rw [lread_l2, if_pos h82]
            try simp only [hsp92]
            try simp only [hsp101]
            rw [if_pos h110]
            try simp only [hsp118]
            rw [if_pos h124]
            all_goals (try rfl)
          simp only [hq126]
          all_goals (try rfl)
        ·skip
         have hb127 : (e112 != 0) = false := by rw [bne_eq_false_iff_eq]; exact Decidable.not_not.1 h124
         refine st_pure (l := [6, 7]) (rest := []) (L := [(54, .bool (e112 != 0)), (55, .bool false)]) rfl (Eq.trans (b := some [(54, .bool (e112 != 0)), (55, .bool (e112 != 0))]) (by kernel_rfl) (by simp only [hb127])) ?_
         refine st_end ?_
         refine then_n ?_
         refine c_false (by kernel_rfl) ?_
         refine wp_skip ?_
         refine blk_n ?_
         refine then_n ?_
         refine c_region (L := [0, 1]) (by kernel_rfl) ?_
         have hw128 : IntKind.wrap .i64 (s40_2 + 1) = s40_2 + 1 := wi64 (by omega) (by omega)
         refine st_pure (l := [0]) (rest := [1]) (L := [(56, .int .i64 (s40_2 + 1))]) rfl (Eq.trans (b := some [(56, .int .i64 (IntKind.wrap .i64 (s40_2 + 1)))]) (by kernel_rfl) (by simp only [hw128])) ?_
         refine st_pure (l := [1]) (rest := []) (L := [(40, .int .i64 (s40_2 + 1))]) rfl (by kernel_rfl) ?_
         refine st_end ?_
         refine then_n ?_
         refine ⟨(k_2, s40_2 + 1, Ahr_350_2, chr_350_2, ring113, ct114, mk115, en116, A87, c88, l89, e90), ⟨?_, by omega, Fr.mk (by kernel_rfl) (by kernel_rfl), HM, by omega, hl, hr_121, hr_94, ho_122, (ho_122.rdSelf.2.2.2), hR_95, ?_, ?_, ?_, ?_, ?_, ?_, ?_, ?_, ?_, trivial⟩, by dsimp only; omega⟩
         ·rw [← hL79]
          symm
          rw [lread_l2, if_pos h82]
          try simp only [hsp92]
          try simp only [hsp101]
          rw [if_pos h110]
          try simp only [hsp118]
          rw [if_neg h124]
          all_goals (try rfl)
         ·omega
         ·omega
         ·omega
         ·omega
         ·exact Ahr_350_2_n
         ·first | exact Ahr_350_2_c | omega
         ·exact A87_n
         ·first | exact A87_c | omega
         ·first | omega | (simp only [List.length_append, List.length_cons, List.length_nil, List.length_take, List.length_drop, List.length_set, List.length_replicate] at *; omega)
       ·skip
        have hb129 : (d99) = false := by simpa using h110
        refine st_pure (l := [0]) (rest := [1, 2, 3, 4, 5, 6, 7]) (L := [(48, .bool false)]) rfl (Eq.trans (b := some [(48, .bool d99)]) (by kernel_rfl) (by simp only [hb129])) ?_
        refine st_pure (l := [1, 2, 3, 4, 5, 6, 7]) (rest := []) (L := [(49, .bool true), (50, .bool true), (51, undef), (52, undef), (53, undef), (54, undef), (55, .bool true)]) rfl (by kernel_rfl) ?_
        refine st_end ?_
        refine then_n ?_
        refine c_true (by kernel_rfl) ?_
        refine wp_seq ?_
        refine c_region (L := [0, 1]) (by kernel_rfl) ?_
        refine st_pure (l := [0, 1]) (rest := []) (L := [(2, .pointer none), (3, .int .i64 4)]) rfl (by kernel_rfl) ?_
        refine st_end ?_
        refine then_n ?_
        refine wp_ret ?_
        refine blk_r ?_
        refine then_r ?_
        refine then_r ?_
        refine blk_r ?_
        refine then_r ?_
        refine post_ret (v := .tuple #[.pointer none, .int .i64 4]) (by kernel_rfl) ?_
        refine .inr ?_
        refine ⟨?_, rfl, HM⟩
        ·rw [lread]
         try simp only [hsp18]
         rw [if_pos h24]
         try simp only [hsp44]
         try simp only [hsp55]
         rw [if_neg h60, if_neg h63]
         have hq130 : lread_j1 x12 l52 e53 = .inl (.inr ()) := by
           rw [lread_j1]
           try simp only [hsp72]
           rw [← hL79]
           rw [lread_l2, if_pos h82]
           try simp only [hsp92]
           try simp only [hsp101]
           rw [if_neg h110]
           all_goals (try rfl)
         simp only [hq130]
         all_goals (try rfl)
      ·skip
       have hb131 : (decide (s40_2 < x66)) = false := decide_eq_false h82
       refine st_pure (l := [0]) (rest := []) (L := [(41, .bool false)]) rfl (Eq.trans (b := some [(41, .bool (decide (s40_2 < x66)))]) (by kernel_rfl) (by simp only [hb131])) ?_
       refine st_end ?_
       refine then_n ?_
       refine wp_seq ?_
       refine c_false (by kernel_rfl) ?_
       refine wp_exit ?_
       refine then_x ?_
       refine then_x ?_
       refine blk_hit ?_
       refine then_n ?_
       refine ⟨Ahr_350_2, chr_350_2, hr_350_2, hr_352_2, hr_353_2, hr_354_2, Ahr_750_2, chr_750_2, hr_750_2, hr_751_2, ?_, Fr.mk (by kernel_rfl) (by kernel_rfl), HM, by omega, hl, hr_35, hr_75, hO_hr_350_2, hR_hr_350_2, hR_hr_750_2, ?_, ?_, ?_, ?_, ?_, ?_, ?_, ?_, trivial⟩
       ·rw [lread_j1]
        try simp only [hsp72]
        rw [← hL79]
        rw [lread_l2, if_neg h82]
        all_goals (try rfl)
       ·omega
       ·omega
       ·omega
       ·exact Ahr_350_2_n
       ·first | exact Ahr_350_2_c | omega
       ·exact Ahr_750_2_n
       ·first | exact Ahr_750_2_c | omega
       ·first | omega | (simp only [List.length_append, List.length_cons, List.length_nil, List.length_take, List.length_drop, List.length_set, List.length_replicate] at *; omega)
    ·rintro a w132 ⟨Ahr_350_1, chr_350_1, hr_350_1, hr_352_1, hr_353_1, hr_354_1, Ahr_570_1, chr_570_1, hr_570_1, hr_571_1, hJ133, ⟨Tf, rfl⟩, HM', hszw132, hl', hr_35', hr_57', hO_hr_350_1', hR_hr_350_1', hR_hr_570_1', hr_352_1_r, hr_353_1_r, hr_571_1_r, Ahr_350_1_n, Ahr_350_1_c, Ahr_570_1_n, Ahr_570_1_c, hi0_1, -⟩
     clear HM hl hr_35 hO_36 hr_57 hR_58
     have HM := HM'; clear HM'
     have hl := hl'; clear hl'
     have hr_35 := hr_35'; clear hr_35'
     have hr_57 := hr_57'; clear hr_57'
     have hO_hr_350_1 := hO_hr_350_1'; clear hO_hr_350_1'
     have hR_hr_350_1 := hR_hr_350_1'; clear hR_hr_350_1'
     have hR_hr_570_1 := hR_hr_570_1'; clear hR_hr_570_1'
     have hl_l := hl.len
     have hO_hr_350_1_b := hO_hr_350_1.bounds
     have hR_hr_350_1_l := hR_hr_350_1.len
     have hR_hr_570_1_l := hR_hr_570_1.len
     refine wp_seq ?_
     refine c_cut (J := fun a w' => ∃ hr_571_3 : Int, lread_j3 x38 x49 hr_352_1 hr_353_1 hr_354_1 hr_570_1 hr_571_1 = .inr hr_571_3 ∧ Fr 101 [(0, .slice A l.length cA), (5, .pointer (some ⟨r26, 0, none⟩)), (7, .int .u64 x38), (8, .int .u64 x49)] a ∧ Mod (Nil) w w' ∧ w132.heap.size ≤ w'.heap.size ∧ RdA tyU8 w' lo hi A l ∧ Blk w' r26 147 [.slice Ahr_350_1 hr_350_1.length chr_350_1, .int .i64 0, .int .i64 hr_352_1, .int .i64 hr_353_1, .bool hr_354_1] ∧ Blk w' r1 209 [.slice Ahr_570_1 hr_570_1.length chr_570_1, .int .i64 hr_571_3, .bool true] ∧ Own tyMsg 35 w' lo29 hi30 (.slice Ahr_350_1 hr_350_1.length chr_350_1) hr_350_1 ∧ RdA tyMsg w' lo29 hi30 Ahr_350_1 hr_350_1 ∧ RdA tyU8 w' lo4 hi5 Ahr_570_1 hr_570_1 ∧ (0 ≤ hr_571_3 ∧ hr_571_3 ≤ 0) ∧ True) ?_ ?_
     ·skip
      refine wp_seq ?_
      refine c_region (L := [0, 1, 2, 3, 4, 5, 6, 7, 8, 9, 10, 11, 12, 13, 14, 15, 16, 17, 18, 19, 20, 21, 22, 23, 24, 25, 26, 27]) (by kernel_rfl) ?_
      refine st_pure (l := [0]) (rest := [1, 2, 3, 4, 5, 6, 7, 8, 9, 10, 11, 12, 13, 14, 15, 16, 17, 18, 19, 20, 21, 22, 23, 24, 25, 26, 27]) (L := [(57, .pointer (some ⟨r1, 0, none⟩))]) rfl (by kernel_rfl) ?_
      refine st_fn (d := 58) (f := 113) (xs := #[.pointer (some ⟨r1, 0, none⟩)]) (R := _) (by kernel_rfl) (Reader_End (w := w132) (r := r1) (A := Ahr_570_1) (cA := chr_570_1) (l := hr_570_1) (e := hr_571_1) (hr := hr_57) (A_n := Ahr_570_1_n) (A_c := by first | exact Ahr_570_1_c | omega) (e_r := by omega)) ?_
      rintro vw136 w136 ⟨e135, hsp137, rfl, e135_r, hr_139, m140⟩
      clear hr_57
      replace hl := hl.mod m140 (by intro k h1 h2 h3; (try simp only [Iv] at h3); omega)
      replace hr_35 := hr_35.mod m140 (by intro h3; (try simp only [Iv] at h3); omega)
      replace hO_hr_350_1 := hO_hr_350_1.mod m140 (by intro k h1 h2 h3; (try simp only [Iv] at h3); omega)
      replace hR_hr_350_1 := hR_hr_350_1.mod m140 (by intro k h1 h2 h3; (try simp only [Iv] at h3); omega)
      replace hR_hr_570_1 := hR_hr_570_1.mod m140 (by intro k h1 h2 h3; (try simp only [Iv] at h3); omega)
      replace HM := HM.trans m140 (by intro k h1 h3; (try simp only [Iv] at h3 ⊢); omega)
      have hszw136 := m140.size
      have lt_hr_139 := hr_139.lt
      by_cases h141 : e135 ≠ 0
      ·skip
       have hb142 : (e135 != 0) = true := by first | (rw [bne_iff_ne]; exact h141) | (rw [bne_eq_false_iff_eq]; omega)
       refine st_pure (l := [2, 3]) (rest := [4, 5, 6, 7, 8, 9, 10, 11, 12, 13, 14, 15, 16, 17, 18, 19, 20, 21, 22, 23, 24, 25, 26, 27]) (L := [(59, .bool (e135 != 0)), (60, .bool true)]) rfl (Eq.trans (b := some [(59, .bool (e135 != 0)), (60, .bool (e135 != 0))]) (by kernel_rfl) (by simp only [hb142])) ?_
       refine st_pure (l := [4, 5, 6, 7, 8, 9, 10, 11, 12, 13, 14, 15, 16, 17, 18, 19, 20, 21, 22, 23, 24, 25, 26, 27]) (rest := []) (L := [(61, undef), (62, undef), (63, undef), (64, undef), (65, undef), (66, undef), (67, undef), (68, undef), (69, undef), (70, undef), (71, undef), (72, undef), (73, undef), (74, undef), (75, undef), (76, undef), (77, undef), (78, undef), (79, undef), (80, undef), (81, undef), (82, undef), (83, undef), (84, .bool true)]) rfl (by kernel_rfl) ?_
       refine st_end ?_
       refine then_n ?_
       refine c_true (by kernel_rfl) ?_
       refine wp_seq ?_
       refine c_region (L := [0, 1]) (by kernel_rfl) ?_
       refine st_pure (l := [0, 1]) (rest := []) (L := [(2, .pointer none), (3, .int .i64 4)]) rfl (by kernel_rfl) ?_
       refine st_end ?_
       refine then_n ?_
       refine wp_ret ?_
       refine then_r ?_
       refine post_ret (v := .tuple #[.pointer none, .int .i64 4]) (by kernel_rfl) ?_
       refine .inr ?_
       refine ⟨?_, rfl, HM⟩
       ·rw [lread]
        try simp only [hsp18]
        rw [if_pos h24]
        try simp only [hsp44]
        try simp only [hsp55]
        rw [if_neg h60, if_neg h63]
        try simp only [hJ133]
        have hq143 : lread_j3 x38 x49 hr_352_1 hr_353_1 hr_354_1 hr_570_1 hr_571_1 = .inl (.inr ()) := by
          rw [lread_j3]
          try simp only [hsp137]
          rw [if_pos h141]
          all_goals (try rfl)
        simp only [hq143]
        all_goals (try rfl)
      ·skip
       have hb144 : (e135 != 0) = false := by rw [bne_eq_false_iff_eq]; exact Decidable.not_not.1 h141
       refine st_pure (l := [2, 3]) (rest := [4, 5, 6, 7, 8, 9, 10, 11, 12, 13, 14, 15, 16, 17, 18, 19, 20, 21, 22, 23, 24, 25, 26, 27]) (L := [(59, .bool (e135 != 0)), (60, .bool false)]) rfl (Eq.trans (b := some [(59, .bool (e135 != 0)), (60, .bool (e135 != 0))]) (by kernel_rfl) (by simp only [hb144])) ?_
       refine st_pure (l := [4, 5, 6]) (rest := [7, 8, 9, 10, 11, 12, 13, 14, 15, 16, 17, 18, 19, 20, 21, 22, 23, 24, 25, 26, 27]) (L := [(61, .pointer (some ⟨r26, 0, none⟩)), (62, .pointer (some ⟨r26, 0, none⟩)), (63, .pointer (some ⟨r26, 2, none⟩))]) rfl (by kernel_rfl) ?_
       refine st_load (d := 64) (t := 3) (cs := _) (v := .int .i64 hr_352_1) (by kernel_rfl) (hr_35.sub 2) (by kernel_rfl) ?_
       by_cases h145 : hr_352_1 > 0
       ·skip
        have hb146 : (decide (hr_352_1 > 0)) = true := decide_eq_true h145
        refine st_pure (l := [8, 9]) (rest := [10, 11, 12, 13, 14, 15, 16, 17, 18, 19, 20, 21, 22, 23, 24, 25, 26, 27]) (L := [(65, .bool (decide (hr_352_1 > 0))), (66, .bool true)]) rfl (Eq.trans (b := some [(65, .bool (decide (hr_352_1 > 0))), (66, .bool (decide (hr_352_1 > 0)))]) (by kernel_rfl) (by simp only [hb146])) ?_
        refine st_pure (l := [10, 11, 12]) (rest := [13, 14, 15, 16, 17, 18, 19, 20, 21, 22, 23, 24, 25, 26, 27]) (L := [(67, .pointer (some ⟨r26, 0, none⟩)), (68, .pointer (some ⟨r26, 0, none⟩)), (69, .pointer (some ⟨r26, 3, none⟩))]) rfl (by kernel_rfl) ?_
        refine st_load (d := 70) (t := 2) (cs := _) (v := .int .i64 hr_353_1) (by kernel_rfl) (hr_35.sub 3) (by kernel_rfl) ?_
        have hw147 : IntKind.wrap .i64 (x38) = x38 := wi64 (by omega) (by omega)
        refine st_pure (l := [14, 15]) (rest := [16, 17, 18, 19, 20, 21, 22, 23, 24, 25, 26, 27]) (L := [(71, .int .u64 x38), (72, .int .i64 x38)]) rfl (Eq.trans (b := some [(71, .int .u64 x38), (72, .int .i64 (IntKind.wrap .i64 (x38)))]) (by kernel_rfl) (by simp only [hw147])) ?_
        by_cases h148 : hr_353_1 ≠ x38
        ·skip
         have hb149 : (hr_353_1 != x38) = true := by first | (rw [bne_iff_ne]; exact h148) | (rw [bne_eq_false_iff_eq]; omega)
         refine st_pure (l := [16, 17]) (rest := [18, 19, 20, 21, 22, 23, 24, 25, 26, 27]) (L := [(73, .bool (hr_353_1 != x38)), (74, .bool true)]) rfl (Eq.trans (b := some [(73, .bool (hr_353_1 != x38)), (74, .bool (hr_353_1 != x38))]) (by kernel_rfl) (by simp only [hb149])) ?_
         refine st_pure (l := [18, 19, 20, 21, 22, 23, 24, 25, 26, 27]) (rest := []) (L := [(75, undef), (76, undef), (77, undef), (78, undef), (79, undef), (80, undef), (81, undef), (82, .bool true), (83, .bool true), (84, .bool true)]) rfl (by kernel_rfl) ?_
         refine st_end ?_
         refine then_n ?_
         refine c_true (by kernel_rfl) ?_
         refine wp_seq ?_
         refine c_region (L := [0, 1]) (by kernel_rfl) ?_
         refine st_pure (l := [0, 1]) (rest := []) (L := [(2, .pointer none), (3, .int .i64 4)]) rfl (by kernel_rfl) ?_
         refine st_end ?_
         refine then_n ?_
         refine wp_ret ?_
         refine then_r ?_
         refine post_ret (v := .tuple #[.pointer none, .int .i64 4]) (by kernel_rfl) ?_
         refine .inr ?_
         refine ⟨?_, rfl, HM⟩
         ·rw [lread]
          try simp only [hsp18]
          rw [if_pos h24]
          try simp only [hsp44]
          try simp only [hsp55]
          rw [if_neg h60, if_neg h63]
          try simp only [hJ133]
          have hq150 : lread_j3 x38 x49 hr_352_1 hr_353_1 hr_354_1 hr_570_1 hr_571_1 = .inl (.inr ()) := by
            rw [lread_j3]
            try simp only [hsp137]
            rw [if_neg h141, if_pos h145, if_pos h148]
            all_goals (try rfl)
          simp only [hq150]
          all_goals (try rfl)
        ·skip
         have hb151 : (hr_353_1 != x38) = false := by rw [bne_eq_false_iff_eq]; exact Decidable.not_not.1 h148
         refine st_pure (l := [16, 17]) (rest := [18, 19, 20, 21, 22, 23, 24, 25, 26, 27]) (L := [(73, .bool (hr_353_1 != x38)), (74, .bool false)]) rfl (Eq.trans (b := some [(73, .bool (hr_353_1 != x38)), (74, .bool (hr_353_1 != x38))]) (by kernel_rfl) (by simp only [hb151])) ?_
         refine st_pure (l := [18, 19, 20]) (rest := [21, 22, 23, 24, 25, 26, 27]) (L := [(75, .pointer (some ⟨r26, 0, none⟩)), (76, .pointer (some ⟨r26, 0, none⟩)), (77, .pointer (some ⟨r26, 4, none⟩))]) rfl (by kernel_rfl) ?_
         by_cases h152 : hr_354_1 = true
         ·skip
          have hb153 : (hr_354_1) = true := by simpa using h152
          refine st_load (d := 78) (t := 4) (cs := _) (v := .bool true) (by kernel_rfl) (hr_35.sub 4) (Eq.trans (b := some (.bool hr_354_1)) (by kernel_rfl) (by rw [hb153])) ?_
          by_cases h154 : x49 = 1
          ·skip
           have hb155 : (x49 == 1) = true := beq_iff_eq.2 h154
           refine st_pure (l := [22, 23]) (rest := [24, 25, 26, 27]) (L := [(79, .int .u64 x49), (80, .bool true)]) rfl (Eq.trans (b := some [(79, .int .u64 x49), (80, .bool (x49 == 1))]) (by kernel_rfl) (by simp only [hb155])) ?_
           refine st_pure (l := [24, 25, 26, 27]) (rest := []) (L := [(81, .bool false), (82, .bool false), (83, .bool false), (84, .bool false)]) rfl (by kernel_rfl) ?_
           refine st_end ?_
           refine then_n ?_
           refine c_false (by kernel_rfl) ?_
           refine wp_skip ?_
           refine then_n ?_
           refine ⟨e135, ?_, Fr.mk (by kernel_rfl) (by kernel_rfl), HM, by omega, hl, hr_35, hr_139, hO_hr_350_1, hR_hr_350_1, hR_hr_570_1, ?_, trivial⟩
           ·rw [lread_j3]
            try simp only [hsp137]
            rw [if_neg h141, if_pos h145, if_neg h148, if_pos h152, if_pos h154]
            all_goals (try rfl)
           ·omega
          ·skip
           have hb156 : (x49 == 1) = false := beq_eq_false_iff_ne.2 h154
           refine st_pure (l := [22, 23]) (rest := [24, 25, 26, 27]) (L := [(79, .int .u64 x49), (80, .bool false)]) rfl (Eq.trans (b := some [(79, .int .u64 x49), (80, .bool (x49 == 1))]) (by kernel_rfl) (by simp only [hb156])) ?_
           refine st_pure (l := [24, 25, 26, 27]) (rest := []) (L := [(81, .bool true), (82, .bool true), (83, .bool true), (84, .bool true)]) rfl (by kernel_rfl) ?_
           refine st_end ?_
           refine then_n ?_
           refine c_true (by kernel_rfl) ?_
           refine wp_seq ?_
           refine c_region (L := [0, 1]) (by kernel_rfl) ?_
           refine st_pure (l := [0, 1]) (rest := []) (L := [(2, .pointer none), (3, .int .i64 4)]) rfl (by kernel_rfl) ?_
           refine st_end ?_
           refine then_n ?_
           refine wp_ret ?_
           refine then_r ?_
           refine post_ret (v := .tuple #[.pointer none, .int .i64 4]) (by kernel_rfl) ?_
           refine .inr ?_
           refine ⟨?_, rfl, HM⟩
           ·rw [lread]
            try simp only [hsp18]
            rw [if_pos h24]
            try simp only [hsp44]
            try simp only [hsp55]
            rw [if_neg h60, if_neg h63]
            try simp only [hJ133]
            have hq157 : lread_j3 x38 x49 hr_352_1 hr_353_1 hr_354_1 hr_570_1 hr_571_1 = .inl (.inr ()) := by
              rw [lread_j3]
              try simp only [hsp137]
              rw [if_neg h141, if_pos h145, if_neg h148, if_pos h152, if_neg h154]
              all_goals (try rfl)
            simp only [hq157]
            all_goals (try rfl)
         ·skip
          have hb158 : (hr_354_1) = false := by simpa using h152
          refine st_load (d := 78) (t := 4) (cs := _) (v := .bool false) (by kernel_rfl) (hr_35.sub 4) (Eq.trans (b := some (.bool hr_354_1)) (by kernel_rfl) (by rw [hb158])) ?_
          by_cases h159 : x49 = 1
          ·skip
           have hb160 : (x49 == 1) = true := beq_iff_eq.2 h159
           refine st_pure (l := [22, 23]) (rest := [24, 25, 26, 27]) (L := [(79, .int .u64 x49), (80, .bool true)]) rfl (Eq.trans (b := some [(79, .int .u64 x49), (80, .bool (x49 == 1))]) (by kernel_rfl) (by simp only [hb160])) ?_
           refine st_pure (l := [24, 25, 26, 27]) (rest := []) (L := [(81, .bool true), (82, .bool true), (83, .bool true), (84, .bool true)]) rfl (by kernel_rfl) ?_
           refine st_end ?_
           refine then_n ?_
           refine c_true (by kernel_rfl) ?_
           refine wp_seq ?_
           refine c_region (L := [0, 1]) (by kernel_rfl) ?_
           refine st_pure (l := [0, 1]) (rest := []) (L := [(2, .pointer none), (3, .int .i64 4)]) rfl (by kernel_rfl) ?_
           refine st_end ?_
           refine then_n ?_
           refine wp_ret ?_
           refine then_r ?_
           refine post_ret (v := .tuple #[.pointer none, .int .i64 4]) (by kernel_rfl) ?_
           refine .inr ?_
           refine ⟨?_, rfl, HM⟩
           ·rw [lread]
            try simp only [hsp18]
            rw [if_pos h24]
            try simp only [hsp44]
            try simp only [hsp55]
            rw [if_neg h60, if_neg h63]
            try simp only [hJ133]
            have hq161 : lread_j3 x38 x49 hr_352_1 hr_353_1 hr_354_1 hr_570_1 hr_571_1 = .inl (.inr ()) := by
              rw [lread_j3]
              try simp only [hsp137]
              rw [if_neg h141, if_pos h145, if_neg h148, if_neg h152, if_pos h159]
              all_goals (try rfl)
            simp only [hq161]
            all_goals (try rfl)
          ·skip
           have hb162 : (x49 == 1) = false := beq_eq_false_iff_ne.2 h159
           refine st_pure (l := [22, 23]) (rest := [24, 25, 26, 27]) (L := [(79, .int .u64 x49), (80, .bool false)]) rfl (Eq.trans (b := some [(79, .int .u64 x49), (80, .bool (x49 == 1))]) (by kernel_rfl) (by simp only [hb162])) ?_
           refine st_pure (l := [24, 25, 26, 27]) (rest := []) (L := [(81, .bool false), (82, .bool false), (83, .bool false), (84, .bool false)]) rfl (by kernel_rfl) ?_
           refine st_end ?_
           refine then_n ?_
           refine c_false (by kernel_rfl) ?_
           refine wp_skip ?_
           refine then_n ?_
           refine ⟨e135, ?_, Fr.mk (by kernel_rfl) (by kernel_rfl), HM, by omega, hl, hr_35, hr_139, hO_hr_350_1, hR_hr_350_1, hR_hr_570_1, ?_, trivial⟩
           ·rw [lread_j3]
            try simp only [hsp137]
            rw [if_neg h141, if_pos h145, if_neg h148, if_neg h152, if_neg h159]
            all_goals (try rfl)
           ·omega
       ·skip
        have hb163 : (decide (hr_352_1 > 0)) = false := decide_eq_false h145
        refine st_pure (l := [8, 9]) (rest := [10, 11, 12, 13, 14, 15, 16, 17, 18, 19, 20, 21, 22, 23, 24, 25, 26, 27]) (L := [(65, .bool (decide (hr_352_1 > 0))), (66, .bool false)]) rfl (Eq.trans (b := some [(65, .bool (decide (hr_352_1 > 0))), (66, .bool (decide (hr_352_1 > 0)))]) (by kernel_rfl) (by simp only [hb163])) ?_
        refine st_pure (l := [10, 11, 12, 13, 14, 15, 16, 17, 18, 19, 20, 21, 22, 23, 24, 25, 26, 27]) (rest := []) (L := [(67, undef), (68, undef), (69, undef), (70, undef), (71, undef), (72, undef), (73, undef), (74, undef), (75, undef), (76, undef), (77, undef), (78, undef), (79, undef), (80, undef), (81, undef), (82, undef), (83, .bool false), (84, .bool false)]) rfl (by kernel_rfl) ?_
        refine st_end ?_
        refine then_n ?_
        refine c_false (by kernel_rfl) ?_
        refine wp_skip ?_
        refine then_n ?_
        refine ⟨e135, ?_, Fr.mk (by kernel_rfl) (by kernel_rfl), HM, by omega, hl, hr_35, hr_139, hO_hr_350_1, hR_hr_350_1, hR_hr_570_1, ?_, trivial⟩
        ·rw [lread_j3]
         try simp only [hsp137]
         rw [if_neg h141, if_neg h145]
         all_goals (try rfl)
        ·omega
     ·rintro a w164 ⟨hr_571_3, hJ165, ⟨Tf, rfl⟩, HM', hszw164, hl', hr_35', hr_57', hO_hr_350_1', hR_hr_350_1', hR_hr_570_1', hr_571_3_r, -⟩
      clear HM hl hr_35 hr_57 hO_hr_350_1 hR_hr_350_1 hR_hr_570_1
      have HM := HM'; clear HM'
      have hl := hl'; clear hl'
      have hr_35 := hr_35'; clear hr_35'
      have hr_57 := hr_57'; clear hr_57'
      have hO_hr_350_1 := hO_hr_350_1'; clear hO_hr_350_1'
      have hR_hr_350_1 := hR_hr_350_1'; clear hR_hr_350_1'
      have hR_hr_570_1 := hR_hr_570_1'; clear hR_hr_570_1'
      have hl_l := hl.len
      have hO_hr_350_1_b := hO_hr_350_1.bounds
      have hR_hr_350_1_l := hR_hr_350_1.len
      have hR_hr_570_1_l := hR_hr_570_1.len
      refine wp_seq ?_
      refine c_region (L := [0, 1, 2, 3, 4, 5, 6, 7, 8, 9, 10, 11]) (by kernel_rfl) ?_
      have hw167 : IntKind.wrap .i64 (x38) = x38 := wi64 (by omega) (by omega)
      refine st_pure (l := [0, 1, 2, 3]) (rest := [4, 5, 6, 7, 8, 9, 10, 11]) (L := [(85, .pointer (some ⟨r26, 0, none⟩)), (86, .pointer (some ⟨r26, 0, none⟩)), (87, .int .u64 x38), (88, .int .i64 x38)]) rfl (Eq.trans (b := some [(85, .pointer (some ⟨r26, 0, none⟩)), (86, .pointer (some ⟨r26, 0, none⟩)), (87, .int .u64 x38), (88, .int .i64 (IntKind.wrap .i64 (x38)))]) (by kernel_rfl) (by simp only [hw167])) ?_
      refine st_pure (l := [4, 5, 6, 7]) (rest := [8, 9, 10, 11]) (L := [(89, .int .u64 x49), (90, .bool (x49 == 1)), (91, .pointer (some ⟨r26, 0, none⟩)), (92, .pointer (some ⟨r26, 3, none⟩))]) rfl (by kernel_rfl) ?_
      refine st_store (t := 2) (v := .int .i64 x38) (o := 3) (C' := [.slice Ahr_350_1 hr_350_1.length chr_350_1, .int .i64 0, .int .i64 hr_352_1, .int .i64 x38, .bool hr_354_1]) (by kernel_rfl) hr_35 (by kernel_rfl) ?_
      intro w168 m169 zm169 Nhr_35
      clear hr_35; have hr_35 := Nhr_35; clear Nhr_35
      replace hl := hl.mod m169 (by intro k h1 h2 h3; (try simp only [Iv] at h3); omega)
      replace hr_57 := hr_57.mod m169 (by intro h3; (try simp only [Iv] at h3); omega)
      replace hO_hr_350_1 := hO_hr_350_1.mod m169 (by intro k h1 h2 h3; (try simp only [Iv] at h3); omega)
      replace hR_hr_350_1 := hR_hr_350_1.mod m169 (by intro k h1 h2 h3; (try simp only [Iv] at h3); omega)
      replace hR_hr_570_1 := hR_hr_570_1.mod m169 (by intro k h1 h2 h3; (try simp only [Iv] at h3); omega)
      replace HM := HM.trans m169 (by intro k h1 h3; (try simp only [Iv] at h3 ⊢); omega)
      have hszw168 := m169.size
      refine st_pure (l := [9, 10]) (rest := [11]) (L := [(93, .pointer (some ⟨r26, 0, none⟩)), (94, .pointer (some ⟨r26, 4, none⟩))]) rfl (by kernel_rfl) ?_
      refine st_store (t := 4) (v := .bool (x49 == 1)) (o := 4) (C' := [.slice Ahr_350_1 hr_350_1.length chr_350_1, .int .i64 0, .int .i64 hr_352_1, .int .i64 x38, .bool (x49 == 1)]) (by kernel_rfl) hr_35 (by kernel_rfl) ?_
      intro w170 m171 zm171 Nhr_35
      clear hr_35; have hr_35 := Nhr_35; clear Nhr_35
      replace hl := hl.mod m171 (by intro k h1 h2 h3; (try simp only [Iv] at h3); omega)
      replace hr_57 := hr_57.mod m171 (by intro h3; (try simp only [Iv] at h3); omega)
      replace hO_hr_350_1 := hO_hr_350_1.mod m171 (by intro k h1 h2 h3; (try simp only [Iv] at h3); omega)
      replace hR_hr_350_1 := hR_hr_350_1.mod m171 (by intro k h1 h2 h3; (try simp only [Iv] at h3); omega)
      replace hR_hr_570_1 := hR_hr_570_1.mod m171 (by intro k h1 h2 h3; (try simp only [Iv] at h3); omega)
      replace HM := HM.trans m171 (by intro k h1 h3; (try simp only [Iv] at h3 ⊢); omega)
      have hszw170 := m171.size
      refine st_end ?_
      refine then_n ?_
      refine wp_seq ?_
      refine wp_seq ?_
      refine c_region (L := [0, 1, 2, 3, 4]) (by kernel_rfl) ?_
      refine st_pure (l := [0]) (rest := [1, 2, 3, 4]) (L := [(95, .pointer (some ⟨r26, 0, none⟩))]) rfl (by kernel_rfl) ?_
      refine st_fn (d := 96) (f := 34) (xs := #[.pointer (some ⟨r26, 0, none⟩)]) (R := _) (by kernel_rfl) (LBytes_ok (w := w170) (r := r26) (A := Ahr_350_1) (cA := chr_350_1) (ring := hr_350_1) (fr := 0) (ct := hr_352_1) (mk := x38) (en := x49 == 1) (lo := lo29) (hi := hi30) (hr := hr_35) (hq := hR_hr_350_1) (A_n := Ahr_350_1_n) (A_c := by first | exact Ahr_350_1_c | omega) (fr_r := by omega) (ct_r := by omega) (mk_r := by omega) (hq_hi := by omega) (hlen := by first | omega | (simp only [List.length_cons, List.length_nil, List.length_append, List.length_take, List.length_drop] at *; omega))) ?_
      rintro vw175 w175 ⟨l172, A173, c174, rfl, A173_n, A173_c, rfl, l2_b177, hO_178, hR_179, m180⟩
      replace hl := hl.mod0 m180
      replace hr_35 := hr_35.mod m180 (fun q => q)
      replace hr_57 := hr_57.mod m180 (fun q => q)
      replace hO_hr_350_1 := hO_hr_350_1.mod0 m180
      replace hR_hr_350_1 := hR_hr_350_1.mod0 m180
      replace hR_hr_570_1 := hR_hr_570_1.mod0 m180
      replace HM := HM.tr0 m180
      have hszw175 := m180.size
      have hO_178_b := hO_178.bounds
      have hR_179_l := hR_179.len
      refine st_pure (l := [2]) (rest := [3, 4]) (L := [(97, .slice A l.length cA)]) rfl (by kernel_rfl) ?_
      refine st_fn (d := 98) (f := 114) (xs := #[.slice A173 ((lbytes hr_350_1 0 hr_352_1 x38 (x49 == 1)).length) c174, .slice A l.length cA]) (R := _) (by kernel_rfl) (Equal_u8 (w := w175) (A := A173) (cA := c174) (l := lbytes hr_350_1 0 hr_352_1 x38 (x49 == 1)) (lo := w170.heap.size) (hi := w175.heap.size) (B := A) (cB := cA) (m := l) (lo' := lo) (hi' := hi) (hl := hR_179) (hm := hl) (A_n := A173_n) (A_c := by first | exact A173_c | omega) (B_n := A_n) (B_c := by first | exact A_c | omega) (hl_hi := by omega) (hm_hi := by omega)) ?_
      rintro vw182 w182 ⟨d181, hsp183, hv184, m185⟩
      replace hl := hl.mod0 m185
      replace hr_35 := hr_35.mod m185 (fun q => q)
      replace hr_57 := hr_57.mod m185 (fun q => q)
      replace hO_hr_350_1 := hO_hr_350_1.mod0 m185
      replace hR_hr_350_1 := hR_hr_350_1.mod0 m185
      replace hR_hr_570_1 := hR_hr_570_1.mod0 m185
      replace hO_178 := hO_178.mod0 m185
      replace hR_179 := hR_179.mod0 m185
      replace HM := HM.tr0 m185
      have hszw182 := m185.size
      by_cases h186 : d181 = true
      ·skip
       have hb187 : (d181) = true := by simpa using h186
       rw [hb187] at hv184; subst hv184
       refine st_pure (l := [4]) (rest := []) (L := [(99, .bool false)]) rfl (by kernel_rfl) ?_
       refine st_end ?_
       refine then_n ?_
       refine c_false (by kernel_rfl) ?_
       refine wp_skip ?_
       refine then_n ?_
       refine wp_seq ?_
       refine c_region (L := [0, 1, 2]) (by kernel_rfl) ?_
       refine st_pure (l := [0, 1, 2]) (rest := []) (L := [(100, .pointer (some ⟨r26, 0, none⟩)), (2, .pointer (some ⟨r26, 0, none⟩)), (3, .int .i64 0)]) rfl (by kernel_rfl) ?_
       refine st_end ?_
       refine then_n ?_
       refine wp_ret ?_
       refine post_ret (v := .tuple #[.pointer (some ⟨r26, 0, none⟩), .int .i64 0]) (by kernel_rfl) ?_
       refine .inl ?_
       refine ⟨r26, Ahr_350_1, chr_350_1, hr_350_1, 0, hr_352_1, x38, x49 == 1, lo29, hi30, ?_, rfl, ?_, ?_, ?_, ?_, ?_, ?_, ?_, hr_35, hO_hr_350_1, HM⟩
       ·rw [lread]
        try simp only [hsp18]
        rw [if_pos h24]
        try simp only [hsp44]
        try simp only [hsp55]
        rw [if_neg h60, if_neg h63]
        try simp only [hJ133]
        try simp only [hJ165]
        try simp only [hsp183]
        rw [if_pos h186]
        all_goals (try rfl)
       ·exact Ahr_350_1_n
       ·first | exact Ahr_350_1_c | omega
       ·omega
       ·omega
       ·omega
       ·omega
       ·omega
      ·skip
       have hb188 : (d181) = false := by simpa using h186
       rw [hb188] at hv184; subst hv184
       refine st_pure (l := [4]) (rest := []) (L := [(99, .bool true)]) rfl (by kernel_rfl) ?_
       refine st_end ?_
       refine then_n ?_
       refine c_true (by kernel_rfl) ?_
       refine wp_seq ?_
       refine c_region (L := [0, 1]) (by kernel_rfl) ?_
       refine st_pure (l := [0, 1]) (rest := []) (L := [(2, .pointer none), (3, .int .i64 4)]) rfl (by kernel_rfl) ?_
       refine st_end ?_
       refine then_n ?_
       refine wp_ret ?_
       refine then_r ?_
       refine post_ret (v := .tuple #[.pointer none, .int .i64 4]) (by kernel_rfl) ?_
       refine .inr ?_
       refine ⟨?_, rfl, HM⟩
       ·rw [lread]
        try simp only [hsp18]
        rw [if_pos h24]
        try simp only [hsp44]
        try simp only [hsp55]
        rw [if_neg h60, if_neg h63]
        try simp only [hJ133]
        try simp only [hJ165]
        try simp only [hsp183]
        rw [if_neg h186]
        all_goals (try rfl)
 ·skip
  have hb189 : (decide (1 ≤ x12 ∧ x12 ≤ 4096)) = false := decide_eq_false h24
  refine st_fn (d := 16) (f := 13) (xs := #[.int .i64 x12]) (R := _) (by kernel_rfl) (New_no (w := w17) (room := x12) (room_r := by omega) (hroom := by first | omega | (simp only [List.length_cons, List.length_nil, List.length_append, List.length_take, List.length_drop] at *; omega))) ?_
  rintro vw190 w190 ⟨rfl, m192⟩
  replace hl := hl.mod0 m192
  replace hr_21 := hr_21.mod m192 (fun q => q)
  replace hR_22 := hR_22.mod0 m192
  replace HM := HM.tr0 m192
  have hszw190 := m192.size
  refine st_pure (l := [3, 4, 5, 6, 7]) (rest := []) (L := [(13, .tuple #[.pointer none, .int .i64 2]), (17, .pointer none), (18, .int .i64 2), (5, .pointer none), (6, .int .i64 2)]) rfl (by kernel_rfl) ?_
  refine st_end ?_
  refine then_n ?_
  refine wp_seq ?_
  refine c_region (L := [0, 1, 2, 3, 4, 5]) (by kernel_rfl) ?_
  refine st_pure (l := [0]) (rest := [1, 2, 3, 4, 5]) (L := [(19, .pointer (some ⟨r1, 0, none⟩))]) rfl (by kernel_rfl) ?_
  refine st_fn (d := 20) (f := 110) (xs := #[.pointer (some ⟨r1, 0, none⟩)]) (R := _) (by kernel_rfl) (Reader_Number (w := w190) (r := r1) (A := A13) (cA := c14) (l := l15) (e := e16) (lo := lo4) (hi := hi5) (hr := hr_21) (hR := hR_22) (A_n := A13_n) (A_c := by first | exact A13_c | omega) (e_r := by omega) (hR_hi := by omega) (hsep := by first | omega | (simp only [List.length_cons, List.length_nil, List.length_append, List.length_take, List.length_drop] at *; omega))) ?_
  rintro vw198 w198 ⟨x193, A194, c195, l196, e197, hsp199, rfl, x193_r, A194_n, A194_c, e197_r, hr_201, hR_202, m203⟩
  clear hr_21
  clear hR_22
  replace hl := hl.mod m203 (by intro k h1 h2 h3; (try simp only [Iv] at h3); omega)
  replace HM := HM.trans m203 (by intro k h1 h3; (try simp only [Iv] at h3 ⊢); omega)
  have hszw198 := m203.size
  have lt_hr_201 := hr_201.lt
  have hR_202_l := hR_202.len
  refine st_pure (l := [2]) (rest := [3, 4, 5]) (L := [(21, .pointer (some ⟨r1, 0, none⟩))]) rfl (by kernel_rfl) ?_
  refine st_fn (d := 22) (f := 110) (xs := #[.pointer (some ⟨r1, 0, none⟩)]) (R := _) (by kernel_rfl) (Reader_Number (w := w198) (r := r1) (A := A194) (cA := c195) (l := l196) (e := e197) (lo := lo4) (hi := hi5) (hr := hr_201) (hR := hR_202) (A_n := A194_n) (A_c := by first | exact A194_c | omega) (e_r := by omega) (hR_hi := by omega) (hsep := by first | omega | (simp only [List.length_cons, List.length_nil, List.length_append, List.length_take, List.length_drop] at *; omega))) ?_
  rintro vw209 w209 ⟨x204, A205, c206, l207, e208, hsp210, rfl, x204_r, A205_n, A205_c, e208_r, hr_212, hR_213, m214⟩
  clear hr_201
  clear hR_202
  replace hl := hl.mod m214 (by intro k h1 h2 h3; (try simp only [Iv] at h3); omega)
  replace HM := HM.trans m214 (by intro k h1 h3; (try simp only [Iv] at h3 ⊢); omega)
  have hszw209 := m214.size
  have lt_hr_212 := hr_212.lt
  have hR_213_l := hR_213.len
  refine st_pure (l := [4, 5]) (rest := []) (L := [(7, .int .u64 x193), (8, .int .u64 x204)]) rfl (by kernel_rfl) ?_
  refine st_end ?_
  refine then_n ?_
  refine wp_seq ?_
  refine wp_seq ?_
  refine c_region (L := [0, 1, 2, 3, 4, 5, 6, 7, 8, 9]) (by kernel_rfl) ?_
  refine st_pure (l := [0, 1, 2, 3, 4, 5, 6, 7, 8, 9]) (rest := []) (L := [(23, .int .i64 2), (24, .bool true), (25, .bool true), (26, undef), (27, undef), (28, .bool true), (29, .bool true), (30, undef), (31, undef), (32, .bool true)]) rfl (by kernel_rfl) ?_
  refine st_end ?_
  refine then_n ?_
  refine c_true (by kernel_rfl) ?_
  refine wp_seq ?_
  refine c_region (L := [0, 1]) (by kernel_rfl) ?_
  refine st_pure (l := [0, 1]) (rest := []) (L := [(2, .pointer none), (3, .int .i64 4)]) rfl (by kernel_rfl) ?_
  refine st_end ?_
  refine then_n ?_
  refine wp_ret ?_
  refine then_r ?_
  refine post_ret (v := .tuple #[.pointer none, .int .i64 4]) (by kernel_rfl) ?_
  refine .inr ?_
  refine ⟨?_, rfl, HM⟩
  ·rw [lread]
   try simp only [hsp18]
   rw [if_neg h24]
   try simp only [hsp199]
   try simp only [hsp210]
   all_goals (try rfl)

end Go.Proofs.Ytjkapifbinmjhaa
