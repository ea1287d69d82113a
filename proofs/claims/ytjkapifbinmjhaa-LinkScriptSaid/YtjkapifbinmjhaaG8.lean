import Derived.Test.YtjkapifbinmjhaaG7
namespace Go.Proofs.Ytjkapifbinmjhaa
open Go.Vx Go.RowKit
set_option linter.unusedVariables false
set_option linter.unusedSimpArgs false
set_option maxRecDepth 100000
set_option maxHeartbeats 4000000
def lawLS_l8 (l : List LAct) : Nat → Unit
 | 0 => default
 | k_8 + 1 =>
  if 0 < (l.length : Int) then
   ()
  else
   ()

def lawLS_j6 (room : Int) (hr_250_1 : List Msg) (hr_251_1 : Int) (hr_252_1 : Int) (hr_253_1 : Int) (hr_254_1 : Bool) (hr_331_1 : List Msg) (hr_332_1 : Int) (hr_333_1 : Bool) : (Bool) ⊕ (Unit) :=
  match rlbytes hr_331_1 room hr_332_1 hr_333_1 with
  | l339 =>
   match lread l339 with
   | .inl (ring359, fr360, ct361, mk362, en363) =>
    if (lbytes hr_250_1 hr_251_1 hr_252_1 hr_253_1 hr_254_1) = l339 then
     if (lbytes ring359 fr360 ct361 mk362 en363) = l339 then
      match kmsgs (allOf hr_250_1 hr_251_1 hr_252_1.toNat) hr_331_1 with
      | d428 =>
       if d428 = true then
        .inr ()
       else
        .inl false
     else
      .inl false
    else
     .inl false
   | .inr () =>
    if (lbytes hr_250_1 hr_251_1 hr_252_1 hr_253_1 hr_254_1) = l339 then
     .inl false
    else
     .inl false

def lawLS_j5 (room : Int) (l : List LAct) (hr_250_2 : List Msg) (hr_251_2 : Int) (hr_252_2 : Int) (hr_253_2 : Int) (hr_254_2 : Bool) (hr_331_2 : List Msg) (hr_332_2 : Int) (hr_333_2 : Bool) (s11_2 : Int) : (Bool) ⊕ (List Msg × Int × Int × Int × Bool × List Msg × Int × Bool) :=
  match l.getD s11_2.toNat LAct.zero with
  | x116 =>
   if x116.take = true then
    match tk1 hr_250_2 hr_251_2 hr_252_2 with
    | (m119, e120, fr121, ct122) =>
     match rtk hr_331_2 with
     | (m135, e136, l137) =>
      if ¬ (m119 = m135) then
       .inl false
      else
       if e120 ≠ e136 then
        .inl false
       else
        .inr (hr_250_2, fr121, ct122, hr_253_2, hr_254_2, l137, hr_332_2, hr_333_2)
   else
    match snd1 hr_250_2 hr_251_2 hr_252_2 hr_253_2 hr_254_2 x116.m with
    | (e171, ring172, ct173, mk174, en175) =>
     match rsnd hr_331_2 room hr_332_2 hr_333_2 x116.m with
     | (e189, l190, mk191, en192) =>
      if e171 ≠ e189 then
       .inl false
      else
       .inr (ring172, hr_251_2, ct173, mk174, en175, l190, mk191, en192)

def lawLS_j4 (l : List LAct) (l46 : List UInt8) (e47 : Int) (l60 : List UInt8) (e61 : Int) (s11_2 : Int) : (Bool) ⊕ (Unit) :=
  if l46 = l60 then
   if e47 ≠ e61 then
    .inl false
   else
    match l.getD s11_2.toNat LAct.zero with
    | x89 =>
     match chk x89.m with
     | e90 =>
      match rchk x89.m with
      | e99 =>
       if e90 ≠ e99 then
        .inl false
       else
        .inr ()
  else
   .inl false

def lawLS_j3 (room : Int) (l : List LAct) (hr_250_2 : List Msg) (hr_251_2 : Int) (hr_252_2 : Int) (hr_253_2 : Int) (hr_254_2 : Bool) (hr_331_2 : List Msg) (hr_332_2 : Int) (hr_333_2 : Bool) (s11_2 : Int) : (Bool) ⊕ (List Msg × Int × Int × Int × Bool × List Msg × Int × Bool) :=
  match l.getD s11_2.toNat LAct.zero with
  | x45 =>
   match mbytes x45.m with
   | (l46, e47) =>
    match rmbytes x45.m with
    | (l60, e61) =>
     match lawLS_j4 l l46 e47 l60 e61 s11_2 with
     | .inr () =>
      match lawLS_j5 room l hr_250_2 hr_251_2 hr_252_2 hr_253_2 hr_254_2 hr_331_2 hr_332_2 hr_333_2 s11_2 with
      | .inr (hr_250_5, hr_251_5, hr_252_5, hr_253_5, hr_254_5, hr_331_5, hr_332_5, hr_333_5) =>
       match fst1 hr_250_5 hr_251_5 hr_252_5 with
       | m212 =>
        match rfst hr_331_5 with
        | (m223, d224) =>
         if ¬ (m212 = m223) then
          .inl false
         else
          if hr_252_5 ≠ 0 then
           if d224 = true then
            if hr_252_5 ≠ (hr_331_5.length : Int) then
             .inl false
            else
             if ((hr_250_5.length : Int) - hr_252_5) ≠ (room - (hr_331_5.length : Int)) then
              .inl false
             else
              if hr_253_5 ≠ hr_332_5 then
               .inl false
              else
               if hr_254_5 = true then
                if hr_333_5 = true then
                 .inr (hr_250_5, hr_251_5, hr_252_5, hr_253_5, hr_254_5, hr_331_5, hr_332_5, hr_333_5)
                else
                 .inl false
               else
                if hr_333_5 = true then
                 .inl false
                else
                 .inr (hr_250_5, hr_251_5, hr_252_5, hr_253_5, hr_254_5, hr_331_5, hr_332_5, hr_333_5)
           else
            .inl false
          else
           if d224 = true then
            .inl false
           else
            if hr_252_5 ≠ (hr_331_5.length : Int) then
             .inl false
            else
             if ((hr_250_5.length : Int) - hr_252_5) ≠ (room - (hr_331_5.length : Int)) then
              .inl false
             else
              if hr_253_5 ≠ hr_332_5 then
               .inl false
              else
               if hr_254_5 = true then
                if hr_333_5 = true then
                 .inr (hr_250_5, hr_251_5, hr_252_5, hr_253_5, hr_254_5, hr_331_5, hr_332_5, hr_333_5)
                else
                 .inl false
               else
                if hr_333_5 = true then
                 .inl false
                else
                 .inr (hr_250_5, hr_251_5, hr_252_5, hr_253_5, hr_254_5, hr_331_5, hr_332_5, hr_333_5)
      | .inl o => .inl o
     | .inl o => .inl o

def lawLS_l2 (room : Int) (l : List LAct) : Nat → Int → (List Msg) → Int → Int → Int → Bool → (List Msg) → Int → Bool → (Bool) ⊕ (List Msg × Int × Int × Int × Bool × List Msg × Int × Bool)
 | 0, _, _, _, _, _, _, _, _, _ => default
 | k_2 + 1, s11_2, hr_250_2, hr_251_2, hr_252_2, hr_253_2, hr_254_2, hr_331_2, hr_332_2, hr_333_2 =>
  if s11_2 < (l.length : Int) then
   match lawLS_j3 room l hr_250_2 hr_251_2 hr_252_2 hr_253_2 hr_254_2 hr_331_2 hr_332_2 hr_333_2 s11_2 with
   | .inr (hr_250_3, hr_251_3, hr_252_3, hr_253_3, hr_254_3, hr_331_3, hr_332_3, hr_333_3) =>
    lawLS_l2 room l k_2 (s11_2 + 1) hr_250_3 hr_251_3 hr_252_3 hr_253_3 hr_254_3 hr_331_3 hr_332_3 hr_333_3
   | .inl o => .inl o
  else
   .inr (hr_250_2, hr_251_2, hr_252_2, hr_253_2, hr_254_2, hr_331_2, hr_332_2, hr_333_2)

def lawLS_j1 (room : Int) (l : List LAct) : (Bool) ⊕ (List Msg × Int × Int × Int × Bool × List Msg × Int × Bool) :=
  lawLS_l2 room l (((l.length : Int) - 0).toNat + 1) 0 (List.replicate room.toNat Msg.zero) 0 0 0 false ([]) 0 false

def lawLS (room : Int) (l : List LAct) (raw : List UInt8) : Bool :=
  match lives25 with
  | d1 =>
   if d1 = true then
    if (l.length : Int) > 100 then
     true
    else
     if (raw.length : Int) > 600 then
      true
     else
      if 1 ≤ room ∧ room ≤ 4096 then
       match lawLS_j1 room l with
       | .inr (hr_250_1, hr_251_1, hr_252_1, hr_253_1, hr_254_1, hr_331_1, hr_332_1, hr_333_1) =>
        match lawLS_j6 room hr_250_1 hr_251_1 hr_252_1 hr_253_1 hr_254_1 hr_331_1 hr_332_1 hr_333_1 with
        | .inr () =>
         match lread raw with
         | .inl (ring474, fr475, ct476, mk477, en478) =>
          match rread raw with
          | .inl (mo495, l496, mk497, en498) =>
           decide ((lbytes ring474 fr475 ct476 mk477 en478) = raw)
          | .inr () =>
           false
         | .inr () =>
          match rread raw with
          | .inl (mo527, l528, mk529, en530) =>
           false
          | .inr () =>
           true
        | .inl o => o
       | .inl o => o
      else
       match lread raw with
       | .inl (ring575, fr576, ct577, mk578, en579) =>
        match rread raw with
        | .inl (mo596, l597, mk598, en599) =>
         decide ((lbytes ring575 fr576 ct577 mk578 en579) = raw)
        | .inr () =>
         false
       | .inr () =>
        match rread raw with
        | .inl (mo628, l629, mk630, en631) =>
         false
        | .inr () =>
         true
   else
    false

theorem LinkScript_ok_b4 {w : World} {w35 : World} {w50 : World} {w64 : World} {room : Int} {A : Option Addr} {cA : Nat} {l : List LAct} {lo : Nat} {hi : Nat} {B : Option Addr} {cB : Nat} {raw : List UInt8} {lo' : Nat} {hi' : Nat} {r16 : Nat} {lo19 : Nat} {hi20 : Nat} {r29 : Nat} {Ahr_250_2 : Option Addr} {chr_250_2 : Nat} {hr_250_2 : List Msg} {hr_251_2 : Int} {hr_252_2 : Int} {hr_253_2 : Int} {hr_254_2 : Bool} {Ahr_331_2 : Option Addr} {chr_331_2 : Nat} {hr_331_2 : List Msg} {hr_332_2 : Int} {hr_333_2 : Bool} {lohr_331_2 : Nat} {hihr_331_2 : Nat} {l46 : List UInt8} {e47 : Int} {A48 : Option Addr} {c49 : Nat} {l60 : List UInt8} {e61 : Int} {A62 : Option Addr} {c63 : Nat} {s11_2 : Int} {Q : Exit → Act → World → Prop} (hl : RdA tyLAct w64 lo hi A l) (hm : RdA tyU8 w64 lo' hi' B raw) (hr_25 : Blk w64 r16 147 [.slice Ahr_250_2 hr_250_2.length chr_250_2, .int .i64 hr_251_2, .int .i64 hr_252_2, .int .i64 hr_253_2, .bool hr_254_2]) (hr_33 : Blk w64 r29 47 [.int .i64 room, .slice Ahr_331_2 hr_331_2.length chr_331_2, .int .i64 hr_332_2, .bool hr_333_2]) (hO_hr_250_2 : Own tyMsg 35 w64 lo19 hi20 (.slice Ahr_250_2 hr_250_2.length chr_250_2) hr_250_2) (hR_hr_250_2 : RdA tyMsg w64 lo19 hi20 Ahr_250_2 hr_250_2) (hO_hr_331_2 : Own tyMsg 35 w64 lohr_331_2 hihr_331_2 (.slice Ahr_331_2 hr_331_2.length chr_331_2) hr_331_2) (hR_hr_331_2 : RdA tyMsg w64 lohr_331_2 hihr_331_2 Ahr_331_2 hr_331_2) (hO_54 : Own tyU8 5 w64 w35.heap.size w50.heap.size (.slice A48 l46.length c49) l46) (hR_55 : RdA tyU8 w64 w35.heap.size w50.heap.size A48 l46) (hO_68 : Own tyU8 5 w64 w50.heap.size w64.heap.size (.slice A62 l60.length c63) l60) (hR_69 : RdA tyU8 w64 w50.heap.size w64.heap.size A62 l60) (HM : Mod (Nil) w w64) (A_n : A = none → cA = 0) (A_c : l.length ≤ cA) (B_n : B = none → cB = 0) (B_c : raw.length ≤ cB) (hI4 : 0 ≤ s11_2 ∧ s11_2 ≤ 99) (A48_n : A48 = none → c49 = 0) (A48_c : l46.length ≤ c49) (hI7 : -9223372036854775808 ≤ e47 ∧ e47 ≤ 9223372036854775807) (A62_n : A62 = none → c63 = 0) (A62_c : l60.length ≤ c63) (hI10 : -9223372036854775808 ≤ e61 ∧ e61 ≤ 9223372036854775807) (Ahr_250_2_n : Ahr_250_2 = none → chr_250_2 = 0) (Ahr_250_2_c : hr_250_2.length ≤ chr_250_2) (hI13 : 0 ≤ hr_251_2 ∧ hr_251_2 ≤ 4096) (hI14 : 0 ≤ hr_252_2 ∧ hr_252_2 ≤ 4096) (hI15 : -9223372036854775808 ≤ hr_253_2 ∧ hr_253_2 ≤ 9223372036854775807) (hI16 : 0 ≤ room ∧ room ≤ 4096) (Ahr_331_2_n : Ahr_331_2 = none → chr_331_2 = 0) (Ahr_331_2_c : hr_331_2.length ≤ chr_331_2) (hI19 : -9223372036854775808 ≤ hr_332_2 ∧ hr_332_2 ≤ 9223372036854775807) (hu_hl : hi ≤ w64.heap.size) (hu_hm : hi' ≤ w64.heap.size) (lt_hr_25 : r16 < w64.heap.size) (lt_hr_33 : r29 < w64.heap.size) (hu_hO_hr_250_2 : hi20 ≤ w64.heap.size) (hv_hO_hr_250_2 : lo19 ≤ w64.heap.size) (hu_hR_hr_250_2 : hi20 ≤ w64.heap.size) (hu_hO_hr_331_2 : hihr_331_2 ≤ w64.heap.size) (hv_hO_hr_331_2 : lohr_331_2 ≤ w64.heap.size) (hu_hR_hr_331_2 : hihr_331_2 ≤ w64.heap.size) (hu_hO_54 : w50.heap.size ≤ w64.heap.size) (hv_hO_54 : w35.heap.size ≤ w64.heap.size) (hu_hR_55 : w50.heap.size ≤ w64.heap.size) (hu_hO_68 : w64.heap.size ≤ w64.heap.size) (hv_hO_68 : w50.heap.size ≤ w64.heap.size) (hu_hR_69 : w64.heap.size ≤ w64.heap.size) (hW0 : w.heap.size ≤ w64.heap.size) (ho_37 : hi ≤ w.heap.size) (ho_38 : hi' ≤ w.heap.size) (ho_39 : w.heap.size ≤ r16) (ho_40 : w.heap.size ≤ r29) (ho_41 : w.heap.size ≤ lo19) (ho_42 : w.heap.size ≤ lohr_331_2) (ho_43 : w.heap.size ≤ w35.heap.size) (ho_44 : w.heap.size ≤ w50.heap.size) (hs_45 : r29 ≠ r16) (hs_46 : hi20 ≤ r16 ∨ r16 < lo19) (hs_47 : hi20 ≤ r29 ∨ r29 < lo19) (hs_48 : hihr_331_2 ≤ r16 ∨ r16 < lohr_331_2) (hs_49 : hihr_331_2 ≤ r29 ∨ r29 < lohr_331_2) (hs_50 : hihr_331_2 ≤ lo19 ∨ hi20 ≤ lohr_331_2) (hs_51 : w50.heap.size ≤ r16 ∨ r16 < w35.heap.size) (hs_52 : w50.heap.size ≤ r29 ∨ r29 < w35.heap.size) (hs_53 : w50.heap.size ≤ lo19 ∨ hi20 ≤ w35.heap.size) (hs_54 : w50.heap.size ≤ lohr_331_2 ∨ hihr_331_2 ≤ w35.heap.size) (hs_55 : w64.heap.size ≤ r16 ∨ r16 < w50.heap.size) (hs_56 : w64.heap.size ≤ r29 ∨ r29 < w50.heap.size) (hs_57 : w64.heap.size ≤ lo19 ∨ hi20 ≤ w50.heap.size) (hs_58 : w64.heap.size ≤ lohr_331_2 ∨ hihr_331_2 ≤ w50.heap.size) (hs_59 : w64.heap.size ≤ w35.heap.size ∨ w50.heap.size ≤ w50.heap.size) (hv_60 : hr_250_2.length ≤ 4096 ∧ 0 < hr_250_2.length ∧ hr_251_2 < hr_250_2.length ∧ hr_252_2 ≤ hr_250_2.length) (hv_61 : hr_331_2.length ≤ 4096) (h8 : ¬ ((l.length : Int) > 100)) (h11 : ¬ ((raw.length : Int) > 600)) (h14 : 1 ≤ room ∧ room ≤ 4096) (h39 : s11_2 < (l.length : Int)) (hQ : ∀ T v w', (results Try.f3 T).run Try.prog w' = .ok v w' → (∃ d : Bool, lawLS_j4 l l46 e47 l60 e61 s11_2 = .inl d ∧ v = .bool d ∧ Mod (Nil) w w') → Q .ret ⟨T, []⟩ w') (Tf : Nat → Value) :
  (bodyC Try.f3 [1, 1, 1, 1, 1, 1, 0, 1, 0, 0, 1, 0, 0, 1, 1, 0]).wp Try.prog (Exit.then (fun a w' => lawLS_j4 l l46 e47 l60 e61 s11_2 = .inr () ∧ Fr 269 [(1, .slice A l.length cA), (2, .slice B raw.length cB), (7, .pointer (some ⟨r16, 0, none⟩)), (9, .pointer (some ⟨r29, 0, none⟩)), (11, .int .i64 s11_2)] a ∧ Mod (Nil) w w' ∧ w64.heap.size ≤ w'.heap.size ∧ RdA tyLAct w' lo hi A l ∧ RdA tyU8 w' lo' hi' B raw ∧ Blk w' r16 147 [.slice Ahr_250_2 hr_250_2.length chr_250_2, .int .i64 hr_251_2, .int .i64 hr_252_2, .int .i64 hr_253_2, .bool hr_254_2] ∧ Blk w' r29 47 [.int .i64 room, .slice Ahr_331_2 hr_331_2.length chr_331_2, .int .i64 hr_332_2, .bool hr_333_2] ∧ Own tyMsg 35 w' lo19 hi20 (.slice Ahr_250_2 hr_250_2.length chr_250_2) hr_250_2 ∧ RdA tyMsg w' lo19 hi20 Ahr_250_2 hr_250_2 ∧ Own tyMsg 35 w' lohr_331_2 hihr_331_2 (.slice Ahr_331_2 hr_331_2.length chr_331_2) hr_331_2 ∧ RdA tyMsg w' lohr_331_2 hihr_331_2 Ahr_331_2 hr_331_2 ∧ (hr_250_2.length ≤ 4096 ∧ 0 < hr_250_2.length ∧ hr_251_2 < hr_250_2.length ∧ hr_252_2 ≤ hr_250_2.length) ∧ (hr_331_2.length ≤ 4096) ∧ True) Q) ⟨puts (mkT 269 Tf) [(1, .slice A l.length cA), (2, .slice B raw.length cB), (7, .pointer (some ⟨r16, 0, none⟩)), (9, .pointer (some ⟨r29, 0, none⟩)), (11, .int .i64 s11_2), (12, .slice A48 l46.length c49), (13, .int .i64 e47), (14, .slice A62 l60.length c63), (15, .int .i64 e61)], []⟩ w64 := by
 have hl_l := hl.len
 have hm_l := hm.len
 have hO_hr_250_2_b := hO_hr_250_2.bounds
 have hR_hr_250_2_l := hR_hr_250_2.len
 have hO_hr_331_2_b := hO_hr_331_2.bounds
 have hR_hr_331_2_l := hR_hr_331_2.len
 have hO_54_b := hO_54.bounds
 have hR_55_l := hR_55.len
 have hO_68_b := hO_68.bounds
 have hR_69_l := hR_69.len
 refine wp_seq ?_
 refine c_drawS (Nil) (Nil) [0, 1, 3, 4, 5, 6, 7, 8, 9, 10, 11, 12, 13, 14, 16, 17, 18, 19, 20, 22, 23] [] 0 (fun _ q => q) (by kernel_rfl) (n := 24) (by kernel_rfl) (by kernel_rfl) ?_
 intro w71 HGw71
 have HC72 : Mod (Nil) w64 w71 := Mod.weaken HGw71 fun _ _ q => q.elim
 have hszw71 := HGw71.size
 refine m_p (k := 0) (n := 2) (fuel := 22) (L := [(87, .slice A48 l46.length c49), (88, .slice A62 l60.length c63)]) (by kernel_rfl) (by kernel_rfl) rfl ?_
 refine m_Q (by kernel_rfl) ?_
 have hR_55_b73 := hR_55
 replace hR_55 := (hR_55.mod0 HGw71)
 have hR_69_b74 := hR_69
 replace hR_69 := (hR_69.mod0 HGw71)
 refine st_fn (d := 89) (f := 17) (xs := #[.slice A48 l46.length c49, .slice A62 l60.length c63]) (R := _) (by kernel_rfl) (kit_Bytes (w := w71) (A := A48) (cA := c49) (l := l46) (lo := w35.heap.size) (hi := w50.heap.size) (B := A62) (cB := c63) (m := l60) (lo' := w50.heap.size) (hi' := w64.heap.size) (hl := hR_55) (hm := hR_69) (A_n := A48_n) (A_c := by first | exact A48_c | omega) (B_n := A62_n) (B_c := by first | exact A62_c | omega) (hl_hi := by omega) (hm_hi := by omega)) ?_
 rintro vw75 w75 ⟨hv76, m77⟩
 have hszw75 := m77.size
 have HC78 := HC72.tr0 m77
 refine st_end (m_after HC78 ?_)
 by_cases h79 : l46 = l60
 ·skip
  have hb80 : (decide (l46 = l60)) = true := decide_eq_true h79
  rw [hb80] at hv76; subst hv76
  by_cases h81 : e47 ≠ e61
  ·skip
   have hb82 : (e47 != e61) = true := by first | (rw [bne_iff_ne]; exact h81) | (rw [bne_eq_false_iff_eq]; omega)
   refine m_p (k := 3) (n := 7) (fuel := 14) (L := [(90, .bool false), (91, .bool false), (92, .int .i64 e47), (93, .int .i64 e61), (94, .bool (e47 != e61)), (95, .bool (e47 != e61)), (96, .bool true)]) (by kernel_rfl) (Eq.trans (b := some [(90, .bool false), (91, .bool false), (92, .int .i64 e47), (93, .int .i64 e61), (94, .bool (e47 != e61)), (95, .bool (e47 != e61)), (96, .bool (e47 != e61))]) (by kernel_rfl) (by simp only [hb82])) rfl ?_
   refine m_p (k := 10) (n := 5) (fuel := 9) (L := [(97, undef), (98, undef), (99, undef), (100, undef), (101, undef)]) (by kernel_rfl) (by kernel_rfl) rfl ?_
   refine m_Q (by kernel_rfl) ?_
   refine st_unwanted (some 102) (by kernel_rfl) ?_
   refine st_end (m_after HC78 ?_)
   refine m_p (k := 16) (n := 5) (fuel := 3) (L := [(103, undef), (104, undef), (105, undef), (106, undef), (107, undef)]) (by kernel_rfl) (by kernel_rfl) rfl ?_
   refine m_Q (by kernel_rfl) ?_
   refine st_unwanted (some 108) (by kernel_rfl) ?_
   refine st_end (m_after HC78 ?_)
   refine m_p (k := 22) (n := 2) (fuel := 0) (L := [(109, undef), (110, .bool true)]) (by kernel_rfl) (by kernel_rfl) rfl ?_
   refine m_end ?_
   refine then_n ?_
   refine c_true (by kernel_rfl) ?_
   refine wp_seq ?_
   refine c_region (L := [0]) (by kernel_rfl) ?_
   refine st_pure (l := [0]) (rest := []) (L := [(6, .bool false)]) rfl (by kernel_rfl) ?_
   refine st_end ?_
   refine then_n ?_
   refine wp_ret ?_
   refine then_r ?_
   refine hQ _ (.bool false) _ (pureRun_run _ (by kernel_rfl) _) ?_
   replace HM := ((HM.tr0 HGw71).tr0 m77)
   refine ⟨false, ?_, rfl, HM⟩
   ·rw [lawLS_j4, if_pos h79, if_pos h81]
    all_goals (try rfl)
  ·skip
   have hb83 : (e47 != e61) = false := by rw [bne_eq_false_iff_eq]; exact Decidable.not_not.1 h81
   refine m_p (k := 3) (n := 7) (fuel := 14) (L := [(90, .bool false), (91, .bool false), (92, .int .i64 e47), (93, .int .i64 e61), (94, .bool (e47 != e61)), (95, .bool (e47 != e61)), (96, .bool false)]) (by kernel_rfl) (Eq.trans (b := some [(90, .bool false), (91, .bool false), (92, .int .i64 e47), (93, .int .i64 e61), (94, .bool (e47 != e61)), (95, .bool (e47 != e61)), (96, .bool (e47 != e61))]) (by kernel_rfl) (by simp only [hb83])) rfl ?_
   refine m_p (k := 10) (n := 2) (fuel := 12) (L := [(97, .slice A l.length cA), (98, .int .i64 s11_2)]) (by kernel_rfl) (by kernel_rfl) rfl ?_
   have hl_b87 := hl
   have hi88 : (s11_2).toNat < (l).length := by omega
   obtain ⟨b84, o85, ehA86, lhA86, uhA86, hA86⟩ := hl_b87.get hi88
   obtain ⟨x89, ex89⟩ : ∃ y, y = (l)[(s11_2).toNat] := ⟨_, rfl⟩
   rw [← ex89] at hA86
   have dx89 := getD_of (d := LAct.zero) hi88 ex89
   have hrx89_1 := i64_lo x89.m.kind
   have hrx89_2 := i64_lo x89.m.time
   have hrx89_3 := i64_lo x89.m.cls
   have hrx89_5 := i64_lo x89.m.bank
   have hrx89_6 := i64_lo x89.m.place
   have hsx89_1 := i64_hi x89.m.kind
   have hsx89_2 := i64_hi x89.m.time
   have hsx89_3 := i64_hi x89.m.cls
   have hsx89_4 := u8_hi x89.m.high
   have hsx89_5 := i64_hi x89.m.bank
   have hsx89_6 := i64_hi x89.m.place
   have hsx89_7 := u8_hi x89.m.value
   refine m_index (d := 99) (tn := 22) (n := l.length) (c := cA) (ix := s11_2) (kd := .i64) (e := 37) (t := tyLAct) (b := b84) (by kernel_rfl) (by kernel_rfl) Try.underlying22 (by kernel_rfl) ehA86 (by omega) (by omega) ?_
   refine m_p (k := 13) (n := 1) (fuel := 10) (L := [(100, .pointer (some ⟨b84, (o85 + (s11_2).toNat * 8) + 1, none⟩))]) (by kernel_rfl) (by kernel_rfl) rfl ?_
   refine m_load (d := 101) (t := 35) (b := b84) (o := (o85 + (s11_2).toNat * 8) + 1) (v := .agg #[.int .i64 x89.m.kind.toInt, .int .i64 x89.m.time.toInt, .int .i64 x89.m.cls.toInt, .int .u8 (x89.m.high.toNat : Int), .int .i64 x89.m.bank.toInt, .int .i64 x89.m.place.toInt, .int .u8 (x89.m.value.toNat : Int)]) (by kernel_rfl) (by kernel_rfl) (fun wQ (mQ : Mod (Nil) w64 wQ) => (hA86.mod mQ (fun q => q)).dropk 1) (by kernel_rfl) ?_
   refine m_Q (by kernel_rfl) ?_
   refine st_fn (d := 102) (f := 18) (xs := #[.agg #[.int .i64 x89.m.kind.toInt, .int .i64 x89.m.time.toInt, .int .i64 x89.m.cls.toInt, .int .u8 (x89.m.high.toNat : Int), .int .i64 x89.m.bank.toInt, .int .i64 x89.m.place.toInt, .int .u8 (x89.m.value.toNat : Int)]]) (R := _) (by kernel_rfl) (Check_ok (w := w75) (m := x89.m) ) ?_
   rintro vw91 w91 ⟨e90, hsp92, rfl, e90_r, m94⟩
   have hszw91 := m94.size
   have HC95 := HC78.tr0 m94
   refine st_end (m_after HC95 ?_)
   refine m_p (k := 16) (n := 2) (fuel := 6) (L := [(103, .slice A l.length cA), (104, .int .i64 s11_2)]) (by kernel_rfl) (by kernel_rfl) rfl ?_
   refine m_index (d := 105) (tn := 22) (n := l.length) (c := cA) (ix := s11_2) (kd := .i64) (e := 37) (t := tyLAct) (b := b84) (by kernel_rfl) (by kernel_rfl) Try.underlying22 (by kernel_rfl) ehA86 (by omega) (by omega) ?_
   refine m_p (k := 19) (n := 1) (fuel := 4) (L := [(106, .pointer (some ⟨b84, (o85 + (s11_2).toNat * 8) + 1, none⟩))]) (by kernel_rfl) (by kernel_rfl) rfl ?_
   refine m_load (d := 107) (t := 35) (b := b84) (o := (o85 + (s11_2).toNat * 8) + 1) (v := .agg #[.int .i64 x89.m.kind.toInt, .int .i64 x89.m.time.toInt, .int .i64 x89.m.cls.toInt, .int .u8 (x89.m.high.toNat : Int), .int .i64 x89.m.bank.toInt, .int .i64 x89.m.place.toInt, .int .u8 (x89.m.value.toNat : Int)]) (by kernel_rfl) (by kernel_rfl) (fun wQ (mQ : Mod (Nil) w64 wQ) => (hA86.mod mQ (fun q => q)).dropk 1) (by kernel_rfl) ?_
   refine m_Q (by kernel_rfl) ?_
   refine st_fn (d := 108) (f := 19) (xs := #[.agg #[.int .i64 x89.m.kind.toInt, .int .i64 x89.m.time.toInt, .int .i64 x89.m.cls.toInt, .int .u8 (x89.m.high.toNat : Int), .int .i64 x89.m.bank.toInt, .int .i64 x89.m.place.toInt, .int .u8 (x89.m.value.toNat : Int)]]) (R := _) (by kernel_rfl) (rCheck_ok (w := w91) (m := x89.m) ) ?_
   rintro vw100 w100 ⟨e99, hsp101, rfl, e99_r, m103⟩
   have hszw100 := m103.size
   have HC104 := HC95.tr0 m103
   refine st_end (m_after HC104 ?_)
   by_cases h105 : e90 ≠ e99
   ·skip
    have hb106 : (e90 != e99) = true := by first | (rw [bne_iff_ne]; exact h105) | (rw [bne_eq_false_iff_eq]; omega)
    refine m_p (k := 22) (n := 2) (fuel := 0) (L := [(109, .bool (e90 != e99)), (110, .bool true)]) (by kernel_rfl) (Eq.trans (b := some [(109, .bool (e90 != e99)), (110, .bool (e90 != e99))]) (by kernel_rfl) (by simp only [hb106])) rfl ?_
    refine m_end ?_
    clear hA86
    refine cut_fr 269 [(1, .slice A l.length cA), (2, .slice B raw.length cB), (7, .pointer (some ⟨r16, 0, none⟩)), (9, .pointer (some ⟨r29, 0, none⟩)), (11, .int .i64 s11_2), (110, .bool true)] (by kernel_rfl) (by kernel_rfl) ?_
    intro Tf
    refine c_true (by kernel_rfl) ?_
    refine wp_seq ?_
    refine c_region (L := [0]) (by kernel_rfl) ?_
    refine st_pure (l := [0]) (rest := []) (L := [(6, .bool false)]) rfl (by kernel_rfl) ?_
    refine st_end ?_
    refine then_n ?_
    refine wp_ret ?_
    refine then_r ?_
    refine hQ _ (.bool false) _ (pureRun_run _ (by kernel_rfl) _) ?_
    replace HM := ((((HM.tr0 HGw71).tr0 m77).tr0 m94).tr0 m103)
    refine ⟨false, ?_, rfl, HM⟩
    ·rw [lawLS_j4, if_pos h79, if_neg h81]
     try simp only [dx89]
     try simp only [hsp92]
     try simp only [hsp101]
     rw [if_pos h105]
     all_goals (try rfl)
   ·skip
    have hb107 : (e90 != e99) = false := by rw [bne_eq_false_iff_eq]; exact Decidable.not_not.1 h105
    refine m_p (k := 22) (n := 2) (fuel := 0) (L := [(109, .bool (e90 != e99)), (110, .bool false)]) (by kernel_rfl) (Eq.trans (b := some [(109, .bool (e90 != e99)), (110, .bool (e90 != e99))]) (by kernel_rfl) (by simp only [hb107])) rfl ?_
    refine m_end ?_
    clear hA86
    refine cut_fr 269 [(1, .slice A l.length cA), (2, .slice B raw.length cB), (7, .pointer (some ⟨r16, 0, none⟩)), (9, .pointer (some ⟨r29, 0, none⟩)), (11, .int .i64 s11_2), (110, .bool false)] (by kernel_rfl) (by kernel_rfl) ?_
    intro Tf
    refine c_false (by kernel_rfl) ?_
    refine wp_skip ?_
    refine then_n ?_
    replace HM := ((((HM.tr0 HGw71).tr0 m77).tr0 m94).tr0 m103)
    replace hl := ((((hl.mod0 HGw71).mod0 m77).mod0 m94).mod0 m103)
    replace hm := ((((hm.mod0 HGw71).mod0 m77).mod0 m94).mod0 m103)
    replace hr_25 := ((((hr_25.mod HGw71 (fun q => q)).mod m77 (fun q => q)).mod m94 (fun q => q)).mod m103 (fun q => q))
    replace hr_33 := ((((hr_33.mod HGw71 (fun q => q)).mod m77 (fun q => q)).mod m94 (fun q => q)).mod m103 (fun q => q))
    replace hO_hr_250_2 := ((((hO_hr_250_2.mod0 HGw71).mod0 m77).mod0 m94).mod0 m103)
    replace hR_hr_250_2 := ((((hR_hr_250_2.mod0 HGw71).mod0 m77).mod0 m94).mod0 m103)
    replace hO_hr_331_2 := ((((hO_hr_331_2.mod0 HGw71).mod0 m77).mod0 m94).mod0 m103)
    replace hR_hr_331_2 := ((((hR_hr_331_2.mod0 HGw71).mod0 m77).mod0 m94).mod0 m103)
    refine ⟨?_, Fr.mk (by kernel_rfl) (by kernel_rfl), HM, by omega, hl, hm, hr_25, hr_33, hO_hr_250_2, hR_hr_250_2, hO_hr_331_2, hR_hr_331_2, ?_, ?_, trivial⟩
    ·rw [lawLS_j4, if_pos h79, if_neg h81]
     try simp only [dx89]
     try simp only [hsp92]
     try simp only [hsp101]
     rw [if_neg h105]
     all_goals (try rfl)
    ·first | omega | (simp only [List.length_append, List.length_cons, List.length_nil, List.length_take, List.length_drop, List.length_set, List.length_replicate] at *; omega)
    ·first | omega | (simp only [List.length_append, List.length_cons, List.length_nil, List.length_take, List.length_drop, List.length_set, List.length_replicate] at *; omega)
 ·skip
  have hb108 : (decide (l46 = l60)) = false := decide_eq_false h79
  rw [hb108] at hv76; subst hv76
  refine m_p (k := 3) (n := 12) (fuel := 9) (L := [(90, .bool true), (91, .bool true), (92, undef), (93, undef), (94, undef), (95, .bool true), (96, .bool true), (97, undef), (98, undef), (99, undef), (100, undef), (101, undef)]) (by kernel_rfl) (by kernel_rfl) rfl ?_
  refine m_Q (by kernel_rfl) ?_
  refine st_unwanted (some 102) (by kernel_rfl) ?_
  refine st_end (m_after HC78 ?_)
  refine m_p (k := 16) (n := 5) (fuel := 3) (L := [(103, undef), (104, undef), (105, undef), (106, undef), (107, undef)]) (by kernel_rfl) (by kernel_rfl) rfl ?_
  refine m_Q (by kernel_rfl) ?_
  refine st_unwanted (some 108) (by kernel_rfl) ?_
  refine st_end (m_after HC78 ?_)
  refine m_p (k := 22) (n := 2) (fuel := 0) (L := [(109, undef), (110, .bool true)]) (by kernel_rfl) (by kernel_rfl) rfl ?_
  refine m_end ?_
  refine then_n ?_
  refine c_true (by kernel_rfl) ?_
  refine wp_seq ?_
  refine c_region (L := [0]) (by kernel_rfl) ?_
  refine st_pure (l := [0]) (rest := []) (L := [(6, .bool false)]) rfl (by kernel_rfl) ?_
  refine st_end ?_
  refine then_n ?_
  refine wp_ret ?_
  refine then_r ?_
  refine hQ _ (.bool false) _ (pureRun_run _ (by kernel_rfl) _) ?_
  replace HM := ((HM.tr0 HGw71).tr0 m77)
  refine ⟨false, ?_, rfl, HM⟩
  ·rw [lawLS_j4, if_neg h79]
   all_goals (try rfl)

theorem LinkScript_ok_b5 {w : World} {w109 : World} {room : Int} {A : Option Addr} {cA : Nat} {l : List LAct} {lo : Nat} {hi : Nat} {B : Option Addr} {cB : Nat} {raw : List UInt8} {lo' : Nat} {hi' : Nat} {r16 : Nat} {lo19 : Nat} {hi20 : Nat} {r29 : Nat} {Ahr_250_2 : Option Addr} {chr_250_2 : Nat} {hr_250_2 : List Msg} {hr_251_2 : Int} {hr_252_2 : Int} {hr_253_2 : Int} {hr_254_2 : Bool} {Ahr_331_2 : Option Addr} {chr_331_2 : Nat} {hr_331_2 : List Msg} {hr_332_2 : Int} {hr_333_2 : Bool} {lohr_331_2 : Nat} {hihr_331_2 : Nat} {s11_2 : Int} {Q : Exit → Act → World → Prop} (hl : RdA tyLAct w109 lo hi A l) (hm : RdA tyU8 w109 lo' hi' B raw) (hr_25 : Blk w109 r16 147 [.slice Ahr_250_2 hr_250_2.length chr_250_2, .int .i64 hr_251_2, .int .i64 hr_252_2, .int .i64 hr_253_2, .bool hr_254_2]) (hr_33 : Blk w109 r29 47 [.int .i64 room, .slice Ahr_331_2 hr_331_2.length chr_331_2, .int .i64 hr_332_2, .bool hr_333_2]) (hO_hr_250_2 : Own tyMsg 35 w109 lo19 hi20 (.slice Ahr_250_2 hr_250_2.length chr_250_2) hr_250_2) (hR_hr_250_2 : RdA tyMsg w109 lo19 hi20 Ahr_250_2 hr_250_2) (hO_hr_331_2 : Own tyMsg 35 w109 lohr_331_2 hihr_331_2 (.slice Ahr_331_2 hr_331_2.length chr_331_2) hr_331_2) (hR_hr_331_2 : RdA tyMsg w109 lohr_331_2 hihr_331_2 Ahr_331_2 hr_331_2) (HM : Mod (Nil) w w109) (A_n : A = none → cA = 0) (A_c : l.length ≤ cA) (B_n : B = none → cB = 0) (B_c : raw.length ≤ cB) (hI4 : 0 ≤ s11_2 ∧ s11_2 ≤ 99) (Ahr_250_2_n : Ahr_250_2 = none → chr_250_2 = 0) (Ahr_250_2_c : hr_250_2.length ≤ chr_250_2) (hI7 : 0 ≤ hr_251_2 ∧ hr_251_2 ≤ 4096) (hI8 : 0 ≤ hr_252_2 ∧ hr_252_2 ≤ 4096) (hI9 : -9223372036854775808 ≤ hr_253_2 ∧ hr_253_2 ≤ 9223372036854775807) (hI10 : 0 ≤ room ∧ room ≤ 4096) (Ahr_331_2_n : Ahr_331_2 = none → chr_331_2 = 0) (Ahr_331_2_c : hr_331_2.length ≤ chr_331_2) (hI13 : -9223372036854775808 ≤ hr_332_2 ∧ hr_332_2 ≤ 9223372036854775807) (hu_hl : hi ≤ w109.heap.size) (hu_hm : hi' ≤ w109.heap.size) (lt_hr_25 : r16 < w109.heap.size) (lt_hr_33 : r29 < w109.heap.size) (hu_hO_hr_250_2 : hi20 ≤ w109.heap.size) (hv_hO_hr_250_2 : lo19 ≤ w109.heap.size) (hu_hR_hr_250_2 : hi20 ≤ w109.heap.size) (hu_hO_hr_331_2 : hihr_331_2 ≤ w109.heap.size) (hv_hO_hr_331_2 : lohr_331_2 ≤ w109.heap.size) (hu_hR_hr_331_2 : hihr_331_2 ≤ w109.heap.size) (hW0 : w.heap.size ≤ w109.heap.size) (ho_25 : hi ≤ w.heap.size) (ho_26 : hi' ≤ w.heap.size) (ho_27 : w.heap.size ≤ r16) (ho_28 : w.heap.size ≤ r29) (ho_29 : w.heap.size ≤ lo19) (ho_30 : w.heap.size ≤ lohr_331_2) (hs_31 : r29 ≠ r16) (hs_32 : hi20 ≤ r16 ∨ r16 < lo19) (hs_33 : hi20 ≤ r29 ∨ r29 < lo19) (hs_34 : hihr_331_2 ≤ r16 ∨ r16 < lohr_331_2) (hs_35 : hihr_331_2 ≤ r29 ∨ r29 < lohr_331_2) (hs_36 : hihr_331_2 ≤ lo19 ∨ hi20 ≤ lohr_331_2) (hv_37 : hr_250_2.length ≤ 4096 ∧ 0 < hr_250_2.length ∧ hr_251_2 < hr_250_2.length ∧ hr_252_2 ≤ hr_250_2.length) (hv_38 : hr_331_2.length ≤ 4096) (h8 : ¬ ((l.length : Int) > 100)) (h11 : ¬ ((raw.length : Int) > 600)) (h14 : 1 ≤ room ∧ room ≤ 4096) (h39 : s11_2 < (l.length : Int)) (hQ : ∀ T v w', (results Try.f3 T).run Try.prog w' = .ok v w' → (∃ d : Bool, lawLS_j5 room l hr_250_2 hr_251_2 hr_252_2 hr_253_2 hr_254_2 hr_331_2 hr_332_2 hr_333_2 s11_2 = .inl d ∧ v = .bool d ∧ Mod (Nil) w w') → Q .ret ⟨T, []⟩ w') (Tf : Nat → Value) :
  (bodyC Try.f3 [1, 1, 1, 1, 1, 1, 0, 1, 0, 0, 1, 0, 0, 1, 1, 1, 0]).wp Try.prog (Exit.then (fun a w' => ∃ Ahr_250_5 : Option Addr, ∃ chr_250_5 : Nat, ∃ hr_250_5 : List Msg, ∃ hr_251_5 : Int, ∃ hr_252_5 : Int, ∃ hr_253_5 : Int, ∃ hr_254_5 : Bool, ∃ Ahr_331_5 : Option Addr, ∃ chr_331_5 : Nat, ∃ hr_331_5 : List Msg, ∃ hr_332_5 : Int, ∃ hr_333_5 : Bool, ∃ lohr_331_5 : Nat, ∃ hihr_331_5 : Nat, lawLS_j5 room l hr_250_2 hr_251_2 hr_252_2 hr_253_2 hr_254_2 hr_331_2 hr_332_2 hr_333_2 s11_2 = .inr (hr_250_5, hr_251_5, hr_252_5, hr_253_5, hr_254_5, hr_331_5, hr_332_5, hr_333_5) ∧ Fr 269 [(1, .slice A l.length cA), (2, .slice B raw.length cB), (7, .pointer (some ⟨r16, 0, none⟩)), (9, .pointer (some ⟨r29, 0, none⟩)), (11, .int .i64 s11_2)] a ∧ Mod (Nil) w w' ∧ w109.heap.size ≤ w'.heap.size ∧ RdA tyLAct w' lo hi A l ∧ RdA tyU8 w' lo' hi' B raw ∧ Blk w' r16 147 [.slice Ahr_250_5 hr_250_5.length chr_250_5, .int .i64 hr_251_5, .int .i64 hr_252_5, .int .i64 hr_253_5, .bool hr_254_5] ∧ Blk w' r29 47 [.int .i64 room, .slice Ahr_331_5 hr_331_5.length chr_331_5, .int .i64 hr_332_5, .bool hr_333_5] ∧ Own tyMsg 35 w' lo19 hi20 (.slice Ahr_250_5 hr_250_5.length chr_250_5) hr_250_5 ∧ RdA tyMsg w' lo19 hi20 Ahr_250_5 hr_250_5 ∧ Own tyMsg 35 w' lohr_331_5 hihr_331_5 (.slice Ahr_331_5 hr_331_5.length chr_331_5) hr_331_5 ∧ RdA tyMsg w' lohr_331_5 hihr_331_5 Ahr_331_5 hr_331_5 ∧ (0 ≤ hr_251_5 ∧ hr_251_5 ≤ 4096) ∧ (0 ≤ hr_252_5 ∧ hr_252_5 ≤ 4096) ∧ (-9223372036854775808 ≤ hr_253_5 ∧ hr_253_5 ≤ 9223372036854775807) ∧ (-9223372036854775808 ≤ hr_332_5 ∧ hr_332_5 ≤ 9223372036854775807) ∧ (Ahr_250_5 = none → chr_250_5 = 0) ∧ (hr_250_5.length ≤ chr_250_5) ∧ ((lohr_331_5 = lohr_331_2 ∧ hihr_331_5 = hihr_331_2) ∨ (w109.heap.size ≤ lohr_331_5 ∧ lohr_331_5 ≤ hihr_331_5 ∧ hihr_331_5 ≤ w'.heap.size)) ∧ (Ahr_331_5 = none → chr_331_5 = 0) ∧ (hr_331_5.length ≤ chr_331_5) ∧ (hr_250_5.length ≤ 4096 ∧ 0 < hr_250_5.length ∧ hr_251_5 < hr_250_5.length ∧ hr_252_5 ≤ hr_250_5.length) ∧ (hr_331_5.length ≤ 4096) ∧ True) Q) ⟨puts (mkT 269 Tf) [(1, .slice A l.length cA), (2, .slice B raw.length cB), (7, .pointer (some ⟨r16, 0, none⟩)), (9, .pointer (some ⟨r29, 0, none⟩)), (11, .int .i64 s11_2)], []⟩ w109 := by
 have hl_l := hl.len
 have hm_l := hm.len
 have hO_hr_250_2_b := hO_hr_250_2.bounds
 have hR_hr_250_2_l := hR_hr_250_2.len
 have hO_hr_331_2_b := hO_hr_331_2.bounds
 have hR_hr_331_2_l := hR_hr_331_2.len
 refine wp_seq ?_
 refine c_region (L := [0, 1, 2, 3, 4]) (by kernel_rfl) ?_
 refine st_pure (l := [0, 1]) (rest := [2, 3, 4]) (L := [(111, .slice A l.length cA), (112, .int .i64 s11_2)]) rfl (by kernel_rfl) ?_
 have hi115 : (s11_2).toNat < (l).length := by omega
 obtain ⟨b112, o113, ehA114, lhA114, uhA114, hA114⟩ := hl.get hi115
 obtain ⟨x116, ex116⟩ : ∃ y, y = (l)[(s11_2).toNat] := ⟨_, rfl⟩
 rw [← ex116] at hA114
 have dx116 := getD_of (d := LAct.zero) hi115 ex116
 have hrx116_1 := i64_lo x116.m.kind
 have hrx116_2 := i64_lo x116.m.time
 have hrx116_3 := i64_lo x116.m.cls
 have hrx116_5 := i64_lo x116.m.bank
 have hrx116_6 := i64_lo x116.m.place
 have hsx116_1 := i64_hi x116.m.kind
 have hsx116_2 := i64_hi x116.m.time
 have hsx116_3 := i64_hi x116.m.cls
 have hsx116_4 := u8_hi x116.m.high
 have hsx116_5 := i64_hi x116.m.bank
 have hsx116_6 := i64_hi x116.m.place
 have hsx116_7 := u8_hi x116.m.value
 refine st_index (d := 113) (tn := 22) (n := l.length) (c := cA) (ix := s11_2) (k := .i64) (e := 37) (t := tyLAct) (b := b112) (by kernel_rfl) Try.underlying22 (by kernel_rfl) ehA114 (by omega) (by omega) ?_
 refine st_pure (l := [3]) (rest := [4]) (L := [(114, .pointer (some ⟨b112, o113 + (s11_2).toNat * 8, none⟩))]) rfl (by kernel_rfl) ?_
 by_cases h117 : x116.take = true
 ·skip
  have hb118 : (x116.take) = true := by simpa using h117
  refine st_load (d := 115) (t := 4) (cs := _) (v := .bool true) (by kernel_rfl) (hA114.dropk 0) (Eq.trans (b := some (.bool x116.take)) (by kernel_rfl) (by rw [hb118])) ?_
  refine st_end ?_
  refine then_n ?_
  refine c_true (by kernel_rfl) ?_
  refine wp_seq ?_
  refine c_region (L := [0, 1, 2, 3, 4, 5, 6, 7]) (by kernel_rfl) ?_
  refine st_pure (l := [0]) (rest := [1, 2, 3, 4, 5, 6, 7]) (L := [(117, .pointer (some ⟨r16, 0, none⟩))]) rfl (by kernel_rfl) ?_
  refine st_fn (d := 118) (f := 20) (xs := #[.pointer (some ⟨r16, 0, none⟩)]) (R := _) (by kernel_rfl) (Take_ok (w := w109) (r := r16) (A := Ahr_250_2) (cA := chr_250_2) (ring := hr_250_2) (fr := hr_251_2) (ct := hr_252_2) (mk := hr_253_2) (en := hr_254_2) (lo := lo19) (hi := hi20) (hr := hr_25) (hq := hR_hr_250_2) (A_n := Ahr_250_2_n) (A_c := by first | exact Ahr_250_2_c | omega) (fr_r := by omega) (ct_r := by omega) (mk_r := by omega) (hq_hi := by omega) (hlen := by first | omega | (simp only [List.length_append, List.length_cons, List.length_nil, List.length_take, List.length_drop, List.length_set, List.length_replicate] at *; omega)) (hsep := by first | omega | (simp only [List.length_append, List.length_cons, List.length_nil, List.length_take, List.length_drop, List.length_set, List.length_replicate] at *; omega))) ?_
  rintro vw123 w123 ⟨m119, e120, fr121, ct122, hsp124, rfl, e120_r, fr121_r, ct122_r, hlt126, hr_127, m128⟩
  have hrm119_0 := i64_lo m119.kind
  have hrm119_1 := i64_lo m119.time
  have hrm119_2 := i64_lo m119.cls
  have hrm119_4 := i64_lo m119.bank
  have hrm119_5 := i64_lo m119.place
  have hsm119_0 := i64_hi m119.kind
  have hsm119_1 := i64_hi m119.time
  have hsm119_2 := i64_hi m119.cls
  have hsm119_3 := u8_hi m119.high
  have hsm119_4 := i64_hi m119.bank
  have hsm119_5 := i64_hi m119.place
  have hsm119_6 := u8_hi m119.value
  clear hr_25
  have hszw123 := m128.size
  have lt_hr_127 := hr_127.lt
  refine st_pure (l := [2, 3, 4]) (rest := [5, 6, 7]) (L := [(116, .tuple #[.agg #[.int .i64 m119.kind.toInt, .int .i64 m119.time.toInt, .int .i64 m119.cls.toInt, .int .u8 (m119.high.toNat : Int), .int .i64 m119.bank.toInt, .int .i64 m119.place.toInt, .int .u8 (m119.value.toNat : Int)], .int .i64 e120]), (119, .agg #[.int .i64 m119.kind.toInt, .int .i64 m119.time.toInt, .int .i64 m119.cls.toInt, .int .u8 (m119.high.toNat : Int), .int .i64 m119.bank.toInt, .int .i64 m119.place.toInt, .int .u8 (m119.value.toNat : Int)]), (120, .int .i64 e120)]) rfl (by kernel_rfl) ?_
  refine st_new (d := 16) (e := 35) (C := [.int .i64 0, .int .i64 0, .int .i64 0, .int .u8 0, .int .i64 0, .int .i64 0, .int .u8 0]) (V := fun r => .pointer (some ⟨r, 0, none⟩)) (by kernel_rfl) ?_
  intro b129 w130 m131 lb129 ub129 hB132
  have hszw130 := m131.size
  refine st_store (t := 35) (v := .agg #[.int .i64 m119.kind.toInt, .int .i64 m119.time.toInt, .int .i64 m119.cls.toInt, .int .u8 (m119.high.toNat : Int), .int .i64 m119.bank.toInt, .int .i64 m119.place.toInt, .int .u8 (m119.value.toNat : Int)]) (o := 0) (C' := [.int .i64 m119.kind.toInt, .int .i64 m119.time.toInt, .int .i64 m119.cls.toInt, .int .u8 (m119.high.toNat : Int), .int .i64 m119.bank.toInt, .int .i64 m119.place.toInt, .int .u8 (m119.value.toNat : Int)]) (by kernel_rfl) hB132 (by kernel_rfl) ?_
  intro w133 m134 zm134 NhB132
  clear hB132; have hB132 := NhB132; clear NhB132
  have hszw133 := m134.size
  refine st_pure (l := [7]) (rest := []) (L := [(17, .int .i64 e120)]) rfl (by kernel_rfl) ?_
  refine st_end ?_
  refine then_n ?_
  refine wp_seq ?_
  refine c_region (L := [0, 1, 2, 3, 4, 5, 6, 7]) (by kernel_rfl) ?_
  refine st_pure (l := [0]) (rest := [1, 2, 3, 4, 5, 6, 7]) (L := [(122, .pointer (some ⟨r29, 0, none⟩))]) rfl (by kernel_rfl) ?_
  replace hr_33 := (((hr_33.mod m128 (by intro h3; (try simp only [Iv] at h3); omega)).mod m131 (fun q => q)).mod m134 (by intro h3; (try simp only [Iv] at h3); omega))
  replace hO_hr_331_2 := (((hO_hr_331_2.mod m128 (by intro k h1 h2 h3; (try simp only [Iv] at h3); omega)).mod0 m131).mod m134 (by intro k h1 h2 h3; (try simp only [Iv] at h3); omega))
  refine st_fn (d := 123) (f := 21) (xs := #[.pointer (some ⟨r29, 0, none⟩)]) (R := _) (by kernel_rfl) (rTake_ok (w := w133) (r := r29) (A := Ahr_331_2) (cA := chr_331_2) (ml := hr_331_2) (mo := room) (mk := hr_332_2) (en := hr_333_2) (lo := lohr_331_2) (hi := hihr_331_2) (hr := hr_33) (ho := hO_hr_331_2) (mo_r := by omega) (A_n := Ahr_331_2_n) (A_c := by first | exact Ahr_331_2_c | omega) (mk_r := by omega) (ho_hi := by omega) (hlen := by first | omega | (simp only [List.length_append, List.length_cons, List.length_nil, List.length_take, List.length_drop, List.length_set, List.length_replicate] at *; omega)) (hsep := by first | omega | (simp only [List.length_append, List.length_cons, List.length_nil, List.length_take, List.length_drop, List.length_set, List.length_replicate] at *; omega))) ?_
  rintro vw142 w142 ⟨m135, e136, l137, A138, c139, lo140, hi141, hsp143, rfl, e136_r, A138_n, A138_c, hl145, hdis146, hr_147, ho_148, m149⟩
  have hrm135_0 := i64_lo m135.kind
  have hrm135_1 := i64_lo m135.time
  have hrm135_2 := i64_lo m135.cls
  have hrm135_4 := i64_lo m135.bank
  have hrm135_5 := i64_lo m135.place
  have hsm135_0 := i64_hi m135.kind
  have hsm135_1 := i64_hi m135.time
  have hsm135_2 := i64_hi m135.cls
  have hsm135_3 := u8_hi m135.high
  have hsm135_4 := i64_hi m135.bank
  have hsm135_5 := i64_hi m135.place
  have hsm135_6 := u8_hi m135.value
  clear hr_33
  clear hO_hr_331_2
  clear hR_hr_331_2
  have hszw142 := m149.size
  have lt_hr_147 := hr_147.lt
  have ho_148_b := ho_148.bounds
  refine st_pure (l := [2, 3, 4]) (rest := [5, 6, 7]) (L := [(121, .tuple #[.agg #[.int .i64 m135.kind.toInt, .int .i64 m135.time.toInt, .int .i64 m135.cls.toInt, .int .u8 (m135.high.toNat : Int), .int .i64 m135.bank.toInt, .int .i64 m135.place.toInt, .int .u8 (m135.value.toNat : Int)], .int .i64 e136]), (124, .agg #[.int .i64 m135.kind.toInt, .int .i64 m135.time.toInt, .int .i64 m135.cls.toInt, .int .u8 (m135.high.toNat : Int), .int .i64 m135.bank.toInt, .int .i64 m135.place.toInt, .int .u8 (m135.value.toNat : Int)]), (125, .int .i64 e136)]) rfl (by kernel_rfl) ?_
  refine st_new (d := 18) (e := 35) (C := [.int .i64 0, .int .i64 0, .int .i64 0, .int .u8 0, .int .i64 0, .int .i64 0, .int .u8 0]) (V := fun r => .pointer (some ⟨r, 0, none⟩)) (by kernel_rfl) ?_
  intro b150 w151 m152 lb150 ub150 hB153
  have hszw151 := m152.size
  refine st_store (t := 35) (v := .agg #[.int .i64 m135.kind.toInt, .int .i64 m135.time.toInt, .int .i64 m135.cls.toInt, .int .u8 (m135.high.toNat : Int), .int .i64 m135.bank.toInt, .int .i64 m135.place.toInt, .int .u8 (m135.value.toNat : Int)]) (o := 0) (C' := [.int .i64 m135.kind.toInt, .int .i64 m135.time.toInt, .int .i64 m135.cls.toInt, .int .u8 (m135.high.toNat : Int), .int .i64 m135.bank.toInt, .int .i64 m135.place.toInt, .int .u8 (m135.value.toNat : Int)]) (by kernel_rfl) hB153 (by kernel_rfl) ?_
  intro w154 m155 zm155 NhB153
  clear hB153; have hB153 := NhB153; clear NhB153
  have hszw154 := m155.size
  refine st_pure (l := [7]) (rest := []) (L := [(19, .int .i64 e136)]) rfl (by kernel_rfl) ?_
  refine st_end ?_
  refine cut_fr 269 [(1, .slice A l.length cA), (2, .slice B raw.length cB), (7, .pointer (some ⟨r16, 0, none⟩)), (9, .pointer (some ⟨r29, 0, none⟩)), (11, .int .i64 s11_2), (16, .pointer (some ⟨b129, 0, none⟩)), (17, .int .i64 e120), (18, .pointer (some ⟨b150, 0, none⟩)), (19, .int .i64 e136)] (by kernel_rfl) (by kernel_rfl) ?_
  intro Tf
  refine wp_seq ?_
  refine c_region (L := [0, 1, 2, 3, 4, 5, 6, 7]) (by kernel_rfl) ?_
  replace hB132 := (((hB132.mod m149 (by intro h3; (try simp only [Iv] at h3); omega)).mod m152 (fun q => q)).mod m155 (by intro h3; (try simp only [Iv] at h3); omega))
  refine st_load (d := 126) (t := 35) (cs := _) (v := .agg #[.int .i64 m119.kind.toInt, .int .i64 m119.time.toInt, .int .i64 m119.cls.toInt, .int .u8 (m119.high.toNat : Int), .int .i64 m119.bank.toInt, .int .i64 m119.place.toInt, .int .u8 (m119.value.toNat : Int)]) (by kernel_rfl) (hB132.sub 0) (by kernel_rfl) ?_
  refine st_load (d := 127) (t := 35) (cs := _) (v := .agg #[.int .i64 m135.kind.toInt, .int .i64 m135.time.toInt, .int .i64 m135.cls.toInt, .int .u8 (m135.high.toNat : Int), .int .i64 m135.bank.toInt, .int .i64 m135.place.toInt, .int .u8 (m135.value.toNat : Int)]) (by kernel_rfl) (hB153.sub 0) (by kernel_rfl) ?_
  refine st_comes (d := 128) (v := .bool (((m119.kind.toInt == m135.kind.toInt) && ((m119.time.toInt == m135.time.toInt) && ((m119.cls.toInt == m135.cls.toInt) && (((m119.high.toNat : Int) == (m135.high.toNat : Int)) && ((m119.bank.toInt == m135.bank.toInt) && ((m119.place.toInt == m135.place.toInt) && (((m119.value.toNat : Int) == (m135.value.toNat : Int)) && true))))))) != true)) (comes_eq (t := 35) (neg := true) (xs := #[.int .i64 m119.kind.toInt, .int .i64 m119.time.toInt, .int .i64 m119.cls.toInt, .int .u8 (m119.high.toNat : Int), .int .i64 m119.bank.toInt, .int .i64 m119.place.toInt, .int .u8 (m119.value.toNat : Int)]) (ys := #[.int .i64 m135.kind.toInt, .int .i64 m135.time.toInt, .int .i64 m135.cls.toInt, .int .u8 (m135.high.toNat : Int), .int .i64 m135.bank.toInt, .int .i64 m135.place.toInt, .int .u8 (m135.value.toNat : Int)]) (b := ((m119.kind.toInt == m135.kind.toInt) && ((m119.time.toInt == m135.time.toInt) && ((m119.cls.toInt == m135.cls.toInt) && (((m119.high.toNat : Int) == (m135.high.toNat : Int)) && ((m119.bank.toInt == m135.bank.toInt) && ((m119.place.toInt == m135.place.toInt) && (((m119.value.toNat : Int) == (m135.value.toNat : Int)) && true)))))))) (by kernel_rfl) (by kernel_rfl) (by kernel_rfl)) ?_
  by_cases h156 : ¬ (m119 = m135)
  ·skip
   have hb157 : (((m119.kind.toInt == m135.kind.toInt) && ((m119.time.toInt == m135.time.toInt) && ((m119.cls.toInt == m135.cls.toInt) && (((m119.high.toNat : Int) == (m135.high.toNat : Int)) && ((m119.bank.toInt == m135.bank.toInt) && ((m119.place.toInt == m135.place.toInt) && (((m119.value.toNat : Int) == (m135.value.toNat : Int)) && true))))))) != true) = true := by rw [show ((m119.kind.toInt == m135.kind.toInt) && ((m119.time.toInt == m135.time.toInt) && ((m119.cls.toInt == m135.cls.toInt) && (((m119.high.toNat : Int) == (m135.high.toNat : Int)) && ((m119.bank.toInt == m135.bank.toInt) && ((m119.place.toInt == m135.place.toInt) && (((m119.value.toNat : Int) == (m135.value.toNat : Int)) && true))))))) = false from Bool.eq_false_iff.2 fun hh => h156 ((Msg.eq_iff _ _).1 (by simpa only [Bool.and_eq_true, beq_iff_eq, Bool.and_true, true_and, and_true] using hh))]; rfl
   refine st_pure (l := [3]) (rest := [4, 5, 6, 7]) (L := [(129, .bool true)]) rfl (Eq.trans (b := some [(129, .bool (((m119.kind.toInt == m135.kind.toInt) && ((m119.time.toInt == m135.time.toInt) && ((m119.cls.toInt == m135.cls.toInt) && (((m119.high.toNat : Int) == (m135.high.toNat : Int)) && ((m119.bank.toInt == m135.bank.toInt) && ((m119.place.toInt == m135.place.toInt) && (((m119.value.toNat : Int) == (m135.value.toNat : Int)) && true))))))) != true))]) (by kernel_rfl) (by simp only [hb157])) ?_
   refine st_pure (l := [4, 5, 6, 7]) (rest := []) (L := [(130, undef), (131, undef), (132, undef), (133, .bool true)]) rfl (by kernel_rfl) ?_
   refine st_end ?_
   refine then_n ?_
   refine c_true (by kernel_rfl) ?_
   refine wp_seq ?_
   refine c_region (L := [0]) (by kernel_rfl) ?_
   refine st_pure (l := [0]) (rest := []) (L := [(6, .bool false)]) rfl (by kernel_rfl) ?_
   refine st_end ?_
   refine then_n ?_
   refine wp_ret ?_
   refine then_r ?_
   refine hQ _ (.bool false) _ (pureRun_run _ (by kernel_rfl) _) ?_
   replace HM := ((((((HM.trans m128 (by intro k h1 h3; (try simp only [Iv] at h3 ⊢); omega)).tr0 m131).trans m134 (by intro k h1 h3; (try simp only [Iv] at h3 ⊢); omega)).trans m149 (by intro k h1 h3; (try simp only [Iv] at h3 ⊢); omega)).tr0 m152).trans m155 (by intro k h1 h3; (try simp only [Iv] at h3 ⊢); omega))
   refine ⟨false, ?_, rfl, HM⟩
   ·rw [lawLS_j5]
    try simp only [dx116]
    rw [if_pos h117]
    try simp only [hsp124]
    try simp only [hsp143]
    rw [if_pos h156]
    all_goals (try rfl)
  ·skip
   have hb158 : (((m119.kind.toInt == m135.kind.toInt) && ((m119.time.toInt == m135.time.toInt) && ((m119.cls.toInt == m135.cls.toInt) && (((m119.high.toNat : Int) == (m135.high.toNat : Int)) && ((m119.bank.toInt == m135.bank.toInt) && ((m119.place.toInt == m135.place.toInt) && (((m119.value.toNat : Int) == (m135.value.toNat : Int)) && true))))))) != true) = false := by rw [show ((m119.kind.toInt == m135.kind.toInt) && ((m119.time.toInt == m135.time.toInt) && ((m119.cls.toInt == m135.cls.toInt) && (((m119.high.toNat : Int) == (m135.high.toNat : Int)) && ((m119.bank.toInt == m135.bank.toInt) && ((m119.place.toInt == m135.place.toInt) && (((m119.value.toNat : Int) == (m135.value.toNat : Int)) && true))))))) = true from by rw [(Decidable.not_not.1 h156)]; simp only [beq_self_eq_true, Bool.and_true, Bool.and_self]]; rfl
   refine st_pure (l := [3]) (rest := [4, 5, 6, 7]) (L := [(129, .bool false)]) rfl (Eq.trans (b := some [(129, .bool (((m119.kind.toInt == m135.kind.toInt) && ((m119.time.toInt == m135.time.toInt) && ((m119.cls.toInt == m135.cls.toInt) && (((m119.high.toNat : Int) == (m135.high.toNat : Int)) && ((m119.bank.toInt == m135.bank.toInt) && ((m119.place.toInt == m135.place.toInt) && (((m119.value.toNat : Int) == (m135.value.toNat : Int)) && true))))))) != true))]) (by kernel_rfl) (by simp only [hb158])) ?_
   by_cases h159 : e120 ≠ e136
   ·skip
    have hb160 : (e120 != e136) = true := by first | (rw [bne_iff_ne]; exact h159) | (rw [bne_eq_false_iff_eq]; omega)
    refine st_pure (l := [4, 5, 6, 7]) (rest := []) (L := [(130, .int .i64 e120), (131, .int .i64 e136), (132, .bool (e120 != e136)), (133, .bool true)]) rfl (Eq.trans (b := some [(130, .int .i64 e120), (131, .int .i64 e136), (132, .bool (e120 != e136)), (133, .bool (e120 != e136))]) (by kernel_rfl) (by simp only [hb160])) ?_
    refine st_end ?_
    refine then_n ?_
    refine c_true (by kernel_rfl) ?_
    refine wp_seq ?_
    refine c_region (L := [0]) (by kernel_rfl) ?_
    refine st_pure (l := [0]) (rest := []) (L := [(6, .bool false)]) rfl (by kernel_rfl) ?_
    refine st_end ?_
    refine then_n ?_
    refine wp_ret ?_
    refine then_r ?_
    refine hQ _ (.bool false) _ (pureRun_run _ (by kernel_rfl) _) ?_
    replace HM := ((((((HM.trans m128 (by intro k h1 h3; (try simp only [Iv] at h3 ⊢); omega)).tr0 m131).trans m134 (by intro k h1 h3; (try simp only [Iv] at h3 ⊢); omega)).trans m149 (by intro k h1 h3; (try simp only [Iv] at h3 ⊢); omega)).tr0 m152).trans m155 (by intro k h1 h3; (try simp only [Iv] at h3 ⊢); omega))
    refine ⟨false, ?_, rfl, HM⟩
    ·rw [lawLS_j5]
     try simp only [dx116]
     rw [if_pos h117]
     try simp only [hsp124]
     try simp only [hsp143]
     rw [if_neg h156, if_pos h159]
     all_goals (try rfl)
   ·skip
    have hb161 : (e120 != e136) = false := by rw [bne_eq_false_iff_eq]; exact Decidable.not_not.1 h159
    refine st_pure (l := [4, 5, 6, 7]) (rest := []) (L := [(130, .int .i64 e120), (131, .int .i64 e136), (132, .bool (e120 != e136)), (133, .bool false)]) rfl (Eq.trans (b := some [(130, .int .i64 e120), (131, .int .i64 e136), (132, .bool (e120 != e136)), (133, .bool (e120 != e136))]) (by kernel_rfl) (by simp only [hb161])) ?_
    refine st_end ?_
    refine then_n ?_
    refine c_false (by kernel_rfl) ?_
    refine wp_skip ?_
    refine then_n ?_
    replace HM := ((((((HM.trans m128 (by intro k h1 h3; (try simp only [Iv] at h3 ⊢); omega)).tr0 m131).trans m134 (by intro k h1 h3; (try simp only [Iv] at h3 ⊢); omega)).trans m149 (by intro k h1 h3; (try simp only [Iv] at h3 ⊢); omega)).tr0 m152).trans m155 (by intro k h1 h3; (try simp only [Iv] at h3 ⊢); omega))
    replace hl := ((((((hl.mod m128 (by intro k h1 h2 h3; (try simp only [Iv] at h3); omega)).mod0 m131).mod m134 (by intro k h1 h2 h3; (try simp only [Iv] at h3); omega)).mod m149 (by intro k h1 h2 h3; (try simp only [Iv] at h3); omega)).mod0 m152).mod m155 (by intro k h1 h2 h3; (try simp only [Iv] at h3); omega))
    replace hm := ((((((hm.mod m128 (by intro k h1 h2 h3; (try simp only [Iv] at h3); omega)).mod0 m131).mod m134 (by intro k h1 h2 h3; (try simp only [Iv] at h3); omega)).mod m149 (by intro k h1 h2 h3; (try simp only [Iv] at h3); omega)).mod0 m152).mod m155 (by intro k h1 h2 h3; (try simp only [Iv] at h3); omega))
    replace hr_127 := (((((hr_127.mod m131 (fun q => q)).mod m134 (by intro h3; (try simp only [Iv] at h3); omega)).mod m149 (by intro h3; (try simp only [Iv] at h3); omega)).mod m152 (fun q => q)).mod m155 (by intro h3; (try simp only [Iv] at h3); omega))
    replace hr_147 := ((hr_147.mod m152 (fun q => q)).mod m155 (by intro h3; (try simp only [Iv] at h3); omega))
    replace hO_hr_250_2 := ((((((hO_hr_250_2.mod m128 (by intro k h1 h2 h3; (try simp only [Iv] at h3); omega)).mod0 m131).mod m134 (by intro k h1 h2 h3; (try simp only [Iv] at h3); omega)).mod m149 (by intro k h1 h2 h3; (try simp only [Iv] at h3); omega)).mod0 m152).mod m155 (by intro k h1 h2 h3; (try simp only [Iv] at h3); omega))
    replace hR_hr_250_2 := ((((((hR_hr_250_2.mod m128 (by intro k h1 h2 h3; (try simp only [Iv] at h3); omega)).mod0 m131).mod m134 (by intro k h1 h2 h3; (try simp only [Iv] at h3); omega)).mod m149 (by intro k h1 h2 h3; (try simp only [Iv] at h3); omega)).mod0 m152).mod m155 (by intro k h1 h2 h3; (try simp only [Iv] at h3); omega))
    replace ho_148 := ((ho_148.mod0 m152).mod m155 (by intro k h1 h2 h3; (try simp only [Iv] at h3); omega))
    refine ⟨Ahr_250_2, chr_250_2, hr_250_2, fr121, ct122, hr_253_2, hr_254_2, A138, c139, l137, hr_332_2, hr_333_2, lo140, hi141, ?_, Fr.mk (by kernel_rfl) (by kernel_rfl), HM, by omega, hl, hm, hr_127, hr_147, hO_hr_250_2, hR_hr_250_2, ho_148, (ho_148.rdSelf.2.2.2), ?_, ?_, ?_, ?_, ?_, ?_, ?_, ?_, ?_, ?_, ?_, trivial⟩
    ·rw [lawLS_j5]
     try simp only [dx116]
     rw [if_pos h117]
     try simp only [hsp124]
     try simp only [hsp143]
     rw [if_neg h156, if_neg h159]
     all_goals (try rfl)
    ·omega
    ·omega
    ·omega
    ·omega
    ·exact Ahr_250_2_n
    ·first | exact Ahr_250_2_c | omega
    ·omega
    ·exact A138_n
    ·first | exact A138_c | omega
    ·first | omega | (simp only [List.length_append, List.length_cons, List.length_nil, List.length_take, List.length_drop, List.length_set, List.length_replicate] at *; omega)
    ·first | omega | (simp only [List.length_append, List.length_cons, List.length_nil, List.length_take, List.length_drop, List.length_set, List.length_replicate] at *; omega)
 ·skip
  have hb162 : (x116.take) = false := by simpa using h117
  refine st_load (d := 115) (t := 4) (cs := _) (v := .bool false) (by kernel_rfl) (hA114.dropk 0) (Eq.trans (b := some (.bool x116.take)) (by kernel_rfl) (by rw [hb162])) ?_
  refine st_end ?_
  refine then_n ?_
  refine c_false (by kernel_rfl) ?_
  refine wp_seq ?_
  refine c_drawS (fun k => k = r16 ∨ Iv lo19 hi20 k ∨ k = r29 ∨ Iv lohr_331_2 hihr_331_2 k) (fun k => k = r16 ∨ Iv lo19 hi20 k ∨ k = r29 ∨ Iv lohr_331_2 hihr_331_2 k) [0, 1, 2, 3, 4, 5, 7, 8, 9, 10, 11, 12, 14] [] 0 (fun _ q => q) (by kernel_rfl) (n := 15) (by kernel_rfl) (by kernel_rfl) ?_
  intro w163 HGw163
  have HC164 : Mod (fun k => k = r16 ∨ Iv lo19 hi20 k ∨ k = r29 ∨ Iv lohr_331_2 hihr_331_2 k) w109 w163 := Mod.weaken HGw163 fun _ _ q => q.elim
  have hszw163 := HGw163.size
  refine m_p (k := 0) (n := 3) (fuel := 12) (L := [(134, .pointer (some ⟨r16, 0, none⟩)), (135, .slice A l.length cA), (136, .int .i64 s11_2)]) (by kernel_rfl) (by kernel_rfl) rfl ?_
  refine m_index (d := 137) (tn := 22) (n := l.length) (c := cA) (ix := s11_2) (kd := .i64) (e := 37) (t := tyLAct) (b := b112) (by kernel_rfl) (by kernel_rfl) Try.underlying22 (by kernel_rfl) ehA114 (by omega) (by omega) ?_
  refine m_p (k := 4) (n := 1) (fuel := 10) (L := [(138, .pointer (some ⟨b112, (o113 + (s11_2).toNat * 8) + 1, none⟩))]) (by kernel_rfl) (by kernel_rfl) rfl ?_
  have hA114_b168 := hA114
  refine m_load (d := 139) (t := 35) (b := b112) (o := (o113 + (s11_2).toNat * 8) + 1) (v := .agg #[.int .i64 x116.m.kind.toInt, .int .i64 x116.m.time.toInt, .int .i64 x116.m.cls.toInt, .int .u8 (x116.m.high.toNat : Int), .int .i64 x116.m.bank.toInt, .int .i64 x116.m.place.toInt, .int .u8 (x116.m.value.toNat : Int)]) (by kernel_rfl) (by kernel_rfl) (fun wQ (mQ : Mod (fun k => k = r16 ∨ Iv lo19 hi20 k ∨ k = r29 ∨ Iv lohr_331_2 hihr_331_2 k) w109 wQ) => (hA114_b168.mod mQ (by intro h3; (try simp only [Iv] at h3); omega)).dropk 1) (by kernel_rfl) ?_
  refine m_Q (by kernel_rfl) ?_
  have hr_25_b169 := hr_25
  replace hr_25 := (hr_25.mod HGw163 (fun q => q))
  have hO_hr_250_2_b170 := hO_hr_250_2
  replace hO_hr_250_2 := (hO_hr_250_2.mod0 HGw163)
  refine st_fn (d := 140) (f := 22) (xs := #[.pointer (some ⟨r16, 0, none⟩), .agg #[.int .i64 x116.m.kind.toInt, .int .i64 x116.m.time.toInt, .int .i64 x116.m.cls.toInt, .int .u8 (x116.m.high.toNat : Int), .int .i64 x116.m.bank.toInt, .int .i64 x116.m.place.toInt, .int .u8 (x116.m.value.toNat : Int)]]) (R := _) (by kernel_rfl) (Send_ok (w := w163) (r := r16) (A := Ahr_250_2) (cA := chr_250_2) (ring := hr_250_2) (fr := hr_251_2) (ct := hr_252_2) (mk := hr_253_2) (en := hr_254_2) (lo := lo19) (hi := hi20) (m := x116.m) (hr := hr_25) (ho := hO_hr_250_2) (A_n := Ahr_250_2_n) (A_c := by first | exact Ahr_250_2_c | omega) (fr_r := by omega) (ct_r := by omega) (mk_r := by omega) (ho_hi := by omega) (hlen := by first | omega | (simp only [List.length_append, List.length_cons, List.length_nil, List.length_take, List.length_drop, List.length_set, List.length_replicate] at *; omega)) (hsep := by first | omega | (simp only [List.length_append, List.length_cons, List.length_nil, List.length_take, List.length_drop, List.length_set, List.length_replicate] at *; omega))) ?_
  rintro vw176 w176 ⟨e171, ring172, ct173, mk174, en175, hsp177, rfl, e171_r, ct173_r, mk174_r, hlt179, hr_180, ho_181, m182⟩
  clear hr_25
  clear hO_hr_250_2
  clear hR_hr_250_2
  have hszw176 := m182.size
  have HC183 : Mod (fun k => k = r16 ∨ Iv lo19 hi20 k ∨ k = r29 ∨ Iv lohr_331_2 hihr_331_2 k) w109 _ := HC164.trans m182 (by intro k h1 h3; (try simp only [Iv] at h3 ⊢); omega)
  have lt_hr_180 := hr_180.lt
  have ho_181_b := ho_181.bounds
  refine st_end (m_after HC183 ?_)
  refine m_p (k := 7) (n := 3) (fuel := 5) (L := [(141, .pointer (some ⟨r29, 0, none⟩)), (142, .slice A l.length cA), (143, .int .i64 s11_2)]) (by kernel_rfl) (by kernel_rfl) rfl ?_
  refine m_index (d := 144) (tn := 22) (n := l.length) (c := cA) (ix := s11_2) (kd := .i64) (e := 37) (t := tyLAct) (b := b112) (by kernel_rfl) (by kernel_rfl) Try.underlying22 (by kernel_rfl) ehA114 (by omega) (by omega) ?_
  refine m_p (k := 11) (n := 1) (fuel := 3) (L := [(145, .pointer (some ⟨b112, (o113 + (s11_2).toNat * 8) + 1, none⟩))]) (by kernel_rfl) (by kernel_rfl) rfl ?_
  refine m_load (d := 146) (t := 35) (b := b112) (o := (o113 + (s11_2).toNat * 8) + 1) (v := .agg #[.int .i64 x116.m.kind.toInt, .int .i64 x116.m.time.toInt, .int .i64 x116.m.cls.toInt, .int .u8 (x116.m.high.toNat : Int), .int .i64 x116.m.bank.toInt, .int .i64 x116.m.place.toInt, .int .u8 (x116.m.value.toNat : Int)]) (by kernel_rfl) (by kernel_rfl) (fun wQ (mQ : Mod (fun k => k = r16 ∨ Iv lo19 hi20 k ∨ k = r29 ∨ Iv lohr_331_2 hihr_331_2 k) w109 wQ) => (hA114_b168.mod mQ (by intro h3; (try simp only [Iv] at h3); omega)).dropk 1) (by kernel_rfl) ?_
  refine m_Q (by kernel_rfl) ?_
  have hr_33_b187 := hr_33
  replace hr_33 := ((hr_33.mod HGw163 (fun q => q)).mod m182 (by intro h3; (try simp only [Iv] at h3); omega))
  have hO_hr_331_2_b188 := hO_hr_331_2
  replace hO_hr_331_2 := ((hO_hr_331_2.mod0 HGw163).mod m182 (by intro k h1 h2 h3; (try simp only [Iv] at h3); omega))
  refine st_fn (d := 147) (f := 23) (xs := #[.pointer (some ⟨r29, 0, none⟩), .agg #[.int .i64 x116.m.kind.toInt, .int .i64 x116.m.time.toInt, .int .i64 x116.m.cls.toInt, .int .u8 (x116.m.high.toNat : Int), .int .i64 x116.m.bank.toInt, .int .i64 x116.m.place.toInt, .int .u8 (x116.m.value.toNat : Int)]]) (R := _) (by kernel_rfl) (rSend_ok (w := w176) (r := r29) (A := Ahr_331_2) (cA := chr_331_2) (ml := hr_331_2) (mo := room) (mk := hr_332_2) (en := hr_333_2) (lo := lohr_331_2) (hi := hihr_331_2) (m := x116.m) (hr := hr_33) (ho := hO_hr_331_2) (mo_r := by omega) (A_n := Ahr_331_2_n) (A_c := by first | exact Ahr_331_2_c | omega) (mk_r := by omega) (ho_hi := by omega) (hlen := by first | omega | (simp only [List.length_append, List.length_cons, List.length_nil, List.length_take, List.length_drop, List.length_set, List.length_replicate] at *; omega)) (hsep := by first | omega | (simp only [List.length_append, List.length_cons, List.length_nil, List.length_take, List.length_drop, List.length_set, List.length_replicate] at *; omega)) (hlo := by first | omega | (simp only [List.length_append, List.length_cons, List.length_nil, List.length_take, List.length_drop, List.length_set, List.length_replicate] at *; omega))) ?_
  rintro vw197 w197 ⟨e189, l190, mk191, en192, A193, c194, lo195, hi196, hsp198, rfl, e189_r, A193_n, A193_c, mk191_r, hl200, hdis201, hr_202, ho_203, m204⟩
  clear hr_33
  clear hO_hr_331_2
  clear hR_hr_331_2
  have hszw197 := m204.size
  have HC205 : Mod (fun k => k = r16 ∨ Iv lo19 hi20 k ∨ k = r29 ∨ Iv lohr_331_2 hihr_331_2 k) w109 _ := HC183.trans m204 (by intro k h1 h3; (try simp only [Iv] at h3 ⊢); omega)
  have lt_hr_202 := hr_202.lt
  have ho_203_b := ho_203.bounds
  refine st_end (m_after HC205 ?_)
  by_cases h206 : e171 ≠ e189
  ·skip
   have hb207 : (e171 != e189) = true := by first | (rw [bne_iff_ne]; exact h206) | (rw [bne_eq_false_iff_eq]; omega)
   refine m_p (k := 14) (n := 1) (fuel := 0) (L := [(148, .bool true)]) (by kernel_rfl) (Eq.trans (b := some [(148, .bool (e171 != e189))]) (by kernel_rfl) (by simp only [hb207])) rfl ?_
   refine m_end ?_
   refine cut_fr 269 [(1, .slice A l.length cA), (2, .slice B raw.length cB), (7, .pointer (some ⟨r16, 0, none⟩)), (9, .pointer (some ⟨r29, 0, none⟩)), (11, .int .i64 s11_2), (148, .bool true)] (by kernel_rfl) (by kernel_rfl) ?_
   intro Tf
   refine c_true (by kernel_rfl) ?_
   refine wp_seq ?_
   refine c_region (L := [0]) (by kernel_rfl) ?_
   refine st_pure (l := [0]) (rest := []) (L := [(6, .bool false)]) rfl (by kernel_rfl) ?_
   refine st_end ?_
   refine then_n ?_
   refine wp_ret ?_
   refine then_r ?_
   refine hQ _ (.bool false) _ (pureRun_run _ (by kernel_rfl) _) ?_
   replace HM := (((HM.tr0 HGw163).trans m182 (by intro k h1 h3; (try simp only [Iv] at h3 ⊢); omega)).trans m204 (by intro k h1 h3; (try simp only [Iv] at h3 ⊢); omega))
   refine ⟨false, ?_, rfl, HM⟩
   ·rw [lawLS_j5]
    try simp only [dx116]
    rw [if_neg h117]
    try simp only [hsp177]
    try simp only [hsp198]
    rw [if_pos h206]
    all_goals (try rfl)
  ·skip
   have hb208 : (e171 != e189) = false := by rw [bne_eq_false_iff_eq]; exact Decidable.not_not.1 h206
   refine m_p (k := 14) (n := 1) (fuel := 0) (L := [(148, .bool false)]) (by kernel_rfl) (Eq.trans (b := some [(148, .bool (e171 != e189))]) (by kernel_rfl) (by simp only [hb208])) rfl ?_
   refine m_end ?_
   refine cut_fr 269 [(1, .slice A l.length cA), (2, .slice B raw.length cB), (7, .pointer (some ⟨r16, 0, none⟩)), (9, .pointer (some ⟨r29, 0, none⟩)), (11, .int .i64 s11_2), (148, .bool false)] (by kernel_rfl) (by kernel_rfl) ?_
   intro Tf
   refine c_false (by kernel_rfl) ?_
   refine wp_skip ?_
   refine then_n ?_
   replace HM := (((HM.tr0 HGw163).trans m182 (by intro k h1 h3; (try simp only [Iv] at h3 ⊢); omega)).trans m204 (by intro k h1 h3; (try simp only [Iv] at h3 ⊢); omega))
   replace hl := (((hl.mod0 HGw163).mod m182 (by intro k h1 h2 h3; (try simp only [Iv] at h3); omega)).mod m204 (by intro k h1 h2 h3; (try simp only [Iv] at h3); omega))
   replace hm := (((hm.mod0 HGw163).mod m182 (by intro k h1 h2 h3; (try simp only [Iv] at h3); omega)).mod m204 (by intro k h1 h2 h3; (try simp only [Iv] at h3); omega))
   replace hr_180 := (hr_180.mod m204 (by intro h3; (try simp only [Iv] at h3); omega))
   replace ho_181 := (ho_181.mod m204 (by intro k h1 h2 h3; (try simp only [Iv] at h3); omega))
   refine ⟨Ahr_250_2, chr_250_2, ring172, hr_251_2, ct173, mk174, en175, A193, c194, l190, mk191, en192, lo195, hi196, ?_, Fr.mk (by kernel_rfl) (by kernel_rfl), HM, by omega, hl, hm, hr_180, hr_202, ho_181, (ho_181.rdSelf.2.2.2), ho_203, (ho_203.rdSelf.2.2.2), ?_, ?_, ?_, ?_, ?_, ?_, ?_, ?_, ?_, ?_, ?_, trivial⟩
   ·rw [lawLS_j5]
    try simp only [dx116]
    rw [if_neg h117]
    try simp only [hsp177]
    try simp only [hsp198]
    rw [if_neg h206]
    all_goals (try rfl)
   ·omega
   ·omega
   ·omega
   ·omega
   ·exact Ahr_250_2_n
   ·first | exact Ahr_250_2_c | omega
   ·omega
   ·exact A193_n
   ·first | exact A193_c | omega
   ·first | omega | (simp only [List.length_append, List.length_cons, List.length_nil, List.length_take, List.length_drop, List.length_set, List.length_replicate] at *; omega)
   ·first | omega | (simp only [List.length_append, List.length_cons, List.length_nil, List.length_take, List.length_drop, List.length_set, List.length_replicate] at *; omega)

theorem LinkScript_ok_b3 {w : World} {w35 : World} {room : Int} {A : Option Addr} {cA : Nat} {l : List LAct} {lo : Nat} {hi : Nat} {B : Option Addr} {cB : Nat} {raw : List UInt8} {lo' : Nat} {hi' : Nat} {r16 : Nat} {lo19 : Nat} {hi20 : Nat} {r29 : Nat} {Ahr_250_2 : Option Addr} {chr_250_2 : Nat} {hr_250_2 : List Msg} {hr_251_2 : Int} {hr_252_2 : Int} {hr_253_2 : Int} {hr_254_2 : Bool} {Ahr_331_2 : Option Addr} {chr_331_2 : Nat} {hr_331_2 : List Msg} {hr_332_2 : Int} {hr_333_2 : Bool} {lohr_331_2 : Nat} {hihr_331_2 : Nat} {s11_2 : Int} {Q : Exit → Act → World → Prop} (hl : RdA tyLAct w35 lo hi A l) (hm : RdA tyU8 w35 lo' hi' B raw) (hr_25 : Blk w35 r16 147 [.slice Ahr_250_2 hr_250_2.length chr_250_2, .int .i64 hr_251_2, .int .i64 hr_252_2, .int .i64 hr_253_2, .bool hr_254_2]) (hr_33 : Blk w35 r29 47 [.int .i64 room, .slice Ahr_331_2 hr_331_2.length chr_331_2, .int .i64 hr_332_2, .bool hr_333_2]) (hO_hr_250_2 : Own tyMsg 35 w35 lo19 hi20 (.slice Ahr_250_2 hr_250_2.length chr_250_2) hr_250_2) (hR_hr_250_2 : RdA tyMsg w35 lo19 hi20 Ahr_250_2 hr_250_2) (hO_hr_331_2 : Own tyMsg 35 w35 lohr_331_2 hihr_331_2 (.slice Ahr_331_2 hr_331_2.length chr_331_2) hr_331_2) (hR_hr_331_2 : RdA tyMsg w35 lohr_331_2 hihr_331_2 Ahr_331_2 hr_331_2) (HM : Mod (Nil) w w35) (A_n : A = none → cA = 0) (A_c : l.length ≤ cA) (B_n : B = none → cB = 0) (B_c : raw.length ≤ cB) (hI4 : 0 ≤ s11_2 ∧ s11_2 ≤ 99) (Ahr_250_2_n : Ahr_250_2 = none → chr_250_2 = 0) (Ahr_250_2_c : hr_250_2.length ≤ chr_250_2) (hI7 : 0 ≤ hr_251_2 ∧ hr_251_2 ≤ 4096) (hI8 : 0 ≤ hr_252_2 ∧ hr_252_2 ≤ 4096) (hI9 : -9223372036854775808 ≤ hr_253_2 ∧ hr_253_2 ≤ 9223372036854775807) (hI10 : 0 ≤ room ∧ room ≤ 4096) (Ahr_331_2_n : Ahr_331_2 = none → chr_331_2 = 0) (Ahr_331_2_c : hr_331_2.length ≤ chr_331_2) (hI13 : -9223372036854775808 ≤ hr_332_2 ∧ hr_332_2 ≤ 9223372036854775807) (hu_hl : hi ≤ w35.heap.size) (hu_hm : hi' ≤ w35.heap.size) (lt_hr_25 : r16 < w35.heap.size) (lt_hr_33 : r29 < w35.heap.size) (hu_hO_hr_250_2 : hi20 ≤ w35.heap.size) (hv_hO_hr_250_2 : lo19 ≤ w35.heap.size) (hu_hR_hr_250_2 : hi20 ≤ w35.heap.size) (hu_hO_hr_331_2 : hihr_331_2 ≤ w35.heap.size) (hv_hO_hr_331_2 : lohr_331_2 ≤ w35.heap.size) (hu_hR_hr_331_2 : hihr_331_2 ≤ w35.heap.size) (hW0 : w.heap.size ≤ w35.heap.size) (ho_25 : hi ≤ w.heap.size) (ho_26 : hi' ≤ w.heap.size) (ho_27 : w.heap.size ≤ r16) (ho_28 : w.heap.size ≤ r29) (ho_29 : w.heap.size ≤ lo19) (ho_30 : w.heap.size ≤ lohr_331_2) (hs_31 : r29 ≠ r16) (hs_32 : hi20 ≤ r16 ∨ r16 < lo19) (hs_33 : hi20 ≤ r29 ∨ r29 < lo19) (hs_34 : hihr_331_2 ≤ r16 ∨ r16 < lohr_331_2) (hs_35 : hihr_331_2 ≤ r29 ∨ r29 < lohr_331_2) (hs_36 : hihr_331_2 ≤ lo19 ∨ hi20 ≤ lohr_331_2) (hv_37 : hr_250_2.length ≤ 4096 ∧ 0 < hr_250_2.length ∧ hr_251_2 < hr_250_2.length ∧ hr_252_2 ≤ hr_250_2.length) (hv_38 : hr_331_2.length ≤ 4096) (h8 : ¬ ((l.length : Int) > 100)) (h11 : ¬ ((raw.length : Int) > 600)) (h14 : 1 ≤ room ∧ room ≤ 4096) (h39 : s11_2 < (l.length : Int)) (hQ : ∀ T v w', (results Try.f3 T).run Try.prog w' = .ok v w' → (∃ d : Bool, lawLS_j3 room l hr_250_2 hr_251_2 hr_252_2 hr_253_2 hr_254_2 hr_331_2 hr_332_2 hr_333_2 s11_2 = .inl d ∧ v = .bool d ∧ Mod (Nil) w w') → Q .ret ⟨T, []⟩ w') (Tf : Nat → Value) :
  (bodyC Try.f3 [1, 1, 1, 1, 1, 1, 0, 1, 0, 0, 1, 0]).wp Try.prog (Exit.then (fun a w' => ∃ Ahr_250_3 : Option Addr, ∃ chr_250_3 : Nat, ∃ hr_250_3 : List Msg, ∃ hr_251_3 : Int, ∃ hr_252_3 : Int, ∃ hr_253_3 : Int, ∃ hr_254_3 : Bool, ∃ Ahr_331_3 : Option Addr, ∃ chr_331_3 : Nat, ∃ hr_331_3 : List Msg, ∃ hr_332_3 : Int, ∃ hr_333_3 : Bool, ∃ lohr_331_3 : Nat, ∃ hihr_331_3 : Nat, lawLS_j3 room l hr_250_2 hr_251_2 hr_252_2 hr_253_2 hr_254_2 hr_331_2 hr_332_2 hr_333_2 s11_2 = .inr (hr_250_3, hr_251_3, hr_252_3, hr_253_3, hr_254_3, hr_331_3, hr_332_3, hr_333_3) ∧ Fr 269 [(1, .slice A l.length cA), (2, .slice B raw.length cB), (7, .pointer (some ⟨r16, 0, none⟩)), (9, .pointer (some ⟨r29, 0, none⟩)), (11, .int .i64 s11_2)] a ∧ Mod (Nil) w w' ∧ w35.heap.size ≤ w'.heap.size ∧ RdA tyLAct w' lo hi A l ∧ RdA tyU8 w' lo' hi' B raw ∧ Blk w' r16 147 [.slice Ahr_250_3 hr_250_3.length chr_250_3, .int .i64 hr_251_3, .int .i64 hr_252_3, .int .i64 hr_253_3, .bool hr_254_3] ∧ Blk w' r29 47 [.int .i64 room, .slice Ahr_331_3 hr_331_3.length chr_331_3, .int .i64 hr_332_3, .bool hr_333_3] ∧ Own tyMsg 35 w' lo19 hi20 (.slice Ahr_250_3 hr_250_3.length chr_250_3) hr_250_3 ∧ RdA tyMsg w' lo19 hi20 Ahr_250_3 hr_250_3 ∧ Own tyMsg 35 w' lohr_331_3 hihr_331_3 (.slice Ahr_331_3 hr_331_3.length chr_331_3) hr_331_3 ∧ RdA tyMsg w' lohr_331_3 hihr_331_3 Ahr_331_3 hr_331_3 ∧ (0 ≤ hr_251_3 ∧ hr_251_3 ≤ 4096) ∧ (0 ≤ hr_252_3 ∧ hr_252_3 ≤ 4096) ∧ (-9223372036854775808 ≤ hr_253_3 ∧ hr_253_3 ≤ 9223372036854775807) ∧ (-9223372036854775808 ≤ hr_332_3 ∧ hr_332_3 ≤ 9223372036854775807) ∧ (Ahr_250_3 = none → chr_250_3 = 0) ∧ (hr_250_3.length ≤ chr_250_3) ∧ ((lohr_331_3 = lohr_331_2 ∧ hihr_331_3 = hihr_331_2) ∨ (w35.heap.size ≤ lohr_331_3 ∧ lohr_331_3 ≤ hihr_331_3 ∧ hihr_331_3 ≤ w'.heap.size)) ∧ (Ahr_331_3 = none → chr_331_3 = 0) ∧ (hr_331_3.length ≤ chr_331_3) ∧ (hr_250_3.length ≤ 4096 ∧ 0 < hr_250_3.length ∧ hr_251_3 < hr_250_3.length ∧ hr_252_3 ≤ hr_250_3.length) ∧ (hr_331_3.length ≤ 4096) ∧ True) Q) ⟨puts (mkT 269 Tf) [(1, .slice A l.length cA), (2, .slice B raw.length cB), (7, .pointer (some ⟨r16, 0, none⟩)), (9, .pointer (some ⟨r29, 0, none⟩)), (11, .int .i64 s11_2)], []⟩ w35 := by
 have hl_l := hl.len
 have hm_l := hm.len
 have hO_hr_250_2_b := hO_hr_250_2.bounds
 have hR_hr_250_2_l := hR_hr_250_2.len
 have hO_hr_331_2_b := hO_hr_331_2.bounds
 have hR_hr_331_2_l := hR_hr_331_2.len
 refine wp_block ?_
 refine wp_seq ?_
 refine c_region (L := [0, 1, 2, 3, 4, 5, 6, 7, 8, 9, 10]) (by kernel_rfl) ?_
 refine st_pure (l := [0, 1]) (rest := [2, 3, 4, 5, 6, 7, 8, 9, 10]) (L := [(70, .slice A l.length cA), (71, .int .i64 s11_2)]) rfl (by kernel_rfl) ?_
 have hi44 : (s11_2).toNat < (l).length := by omega
 obtain ⟨b41, o42, ehA43, lhA43, uhA43, hA43⟩ := hl.get hi44
 obtain ⟨x45, ex45⟩ : ∃ y, y = (l)[(s11_2).toNat] := ⟨_, rfl⟩
 rw [← ex45] at hA43
 have dx45 := getD_of (d := LAct.zero) hi44 ex45
 have hrx45_1 := i64_lo x45.m.kind
 have hrx45_2 := i64_lo x45.m.time
 have hrx45_3 := i64_lo x45.m.cls
 have hrx45_5 := i64_lo x45.m.bank
 have hrx45_6 := i64_lo x45.m.place
 have hsx45_1 := i64_hi x45.m.kind
 have hsx45_2 := i64_hi x45.m.time
 have hsx45_3 := i64_hi x45.m.cls
 have hsx45_4 := u8_hi x45.m.high
 have hsx45_5 := i64_hi x45.m.bank
 have hsx45_6 := i64_hi x45.m.place
 have hsx45_7 := u8_hi x45.m.value
 refine st_index (d := 72) (tn := 22) (n := l.length) (c := cA) (ix := s11_2) (k := .i64) (e := 37) (t := tyLAct) (b := b41) (by kernel_rfl) Try.underlying22 (by kernel_rfl) ehA43 (by omega) (by omega) ?_
 refine st_pure (l := [3]) (rest := [4, 5, 6, 7, 8, 9, 10]) (L := [(73, .pointer (some ⟨b41, (o42 + (s11_2).toNat * 8) + 1, none⟩))]) rfl (by kernel_rfl) ?_
 refine st_load (d := 74) (t := 35) (cs := _) (v := .agg #[.int .i64 x45.m.kind.toInt, .int .i64 x45.m.time.toInt, .int .i64 x45.m.cls.toInt, .int .u8 (x45.m.high.toNat : Int), .int .i64 x45.m.bank.toInt, .int .i64 x45.m.place.toInt, .int .u8 (x45.m.value.toNat : Int)]) (by kernel_rfl) (hA43.dropk 1) (by kernel_rfl) ?_
 refine st_fn (d := 75) (f := 15) (xs := #[.agg #[.int .i64 x45.m.kind.toInt, .int .i64 x45.m.time.toInt, .int .i64 x45.m.cls.toInt, .int .u8 (x45.m.high.toNat : Int), .int .i64 x45.m.bank.toInt, .int .i64 x45.m.place.toInt, .int .u8 (x45.m.value.toNat : Int)]]) (R := _) (by kernel_rfl) (Bytes_ok (w := w35) (m := x45.m) ) ?_
 rintro vw50 w50 ⟨l46, e47, A48, c49, hsp51, rfl, A48_n, A48_c, e47_r, l2_b53, hO_54, hR_55, m56⟩
 have hszw50 := m56.size
 have hO_54_b := hO_54.bounds
 have hR_55_l := hR_55.len
 refine st_pure (l := [6, 7, 8, 9, 10]) (rest := []) (L := [(69, .tuple #[.slice A48 l46.length c49, .int .i64 e47]), (76, .slice A48 l46.length c49), (77, .int .i64 e47), (12, .slice A48 l46.length c49), (13, .int .i64 e47)]) rfl (by kernel_rfl) ?_
 refine st_end ?_
 refine then_n ?_
 refine wp_seq ?_
 refine c_region (L := [0, 1, 2, 3, 4, 5, 6, 7, 8, 9, 10]) (by kernel_rfl) ?_
 refine st_pure (l := [0, 1]) (rest := [2, 3, 4, 5, 6, 7, 8, 9, 10]) (L := [(79, .slice A l.length cA), (80, .int .i64 s11_2)]) rfl (by kernel_rfl) ?_
 refine st_index (d := 81) (tn := 22) (n := l.length) (c := cA) (ix := s11_2) (k := .i64) (e := 37) (t := tyLAct) (b := b41) (by kernel_rfl) Try.underlying22 (by kernel_rfl) ehA43 (by omega) (by omega) ?_
 refine st_pure (l := [3]) (rest := [4, 5, 6, 7, 8, 9, 10]) (L := [(82, .pointer (some ⟨b41, (o42 + (s11_2).toNat * 8) + 1, none⟩))]) rfl (by kernel_rfl) ?_
 replace hA43 := (hA43.mod m56 (fun q => q))
 refine st_load (d := 83) (t := 35) (cs := _) (v := .agg #[.int .i64 x45.m.kind.toInt, .int .i64 x45.m.time.toInt, .int .i64 x45.m.cls.toInt, .int .u8 (x45.m.high.toNat : Int), .int .i64 x45.m.bank.toInt, .int .i64 x45.m.place.toInt, .int .u8 (x45.m.value.toNat : Int)]) (by kernel_rfl) (hA43.dropk 1) (by kernel_rfl) ?_
 refine st_fn (d := 84) (f := 16) (xs := #[.agg #[.int .i64 x45.m.kind.toInt, .int .i64 x45.m.time.toInt, .int .i64 x45.m.cls.toInt, .int .u8 (x45.m.high.toNat : Int), .int .i64 x45.m.bank.toInt, .int .i64 x45.m.place.toInt, .int .u8 (x45.m.value.toNat : Int)]]) (R := _) (by kernel_rfl) (rBytes_ok (w := w50) (m := x45.m) ) ?_
 rintro vw64 w64 ⟨l60, e61, A62, c63, hsp65, rfl, A62_n, A62_c, e61_r, l2_b67, hO_68, hR_69, m70⟩
 have hszw64 := m70.size
 have hO_68_b := hO_68.bounds
 have hR_69_l := hR_69.len
 refine st_pure (l := [6, 7, 8, 9, 10]) (rest := []) (L := [(78, .tuple #[.slice A62 l60.length c63, .int .i64 e61]), (85, .slice A62 l60.length c63), (86, .int .i64 e61), (14, .slice A62 l60.length c63), (15, .int .i64 e61)]) rfl (by kernel_rfl) ?_
 refine st_end ?_
 refine cut_fr 269 [(1, .slice A l.length cA), (2, .slice B raw.length cB), (7, .pointer (some ⟨r16, 0, none⟩)), (9, .pointer (some ⟨r29, 0, none⟩)), (11, .int .i64 s11_2), (12, .slice A48 l46.length c49), (13, .int .i64 e47), (14, .slice A62 l60.length c63), (15, .int .i64 e61)] (by kernel_rfl) (by kernel_rfl) ?_
 intro Tf
 refine wp_seq ?_
 replace hr_25 := ((hr_25.mod m56 (fun q => q)).mod m70 (fun q => q))
 replace hr_33 := ((hr_33.mod m56 (fun q => q)).mod m70 (fun q => q))
 replace HM := ((HM.tr0 m56).tr0 m70)
 replace hl := ((hl.mod0 m56).mod0 m70)
 replace hm := ((hm.mod0 m56).mod0 m70)
 replace hO_hr_250_2 := ((hO_hr_250_2.mod0 m56).mod0 m70)
 replace hR_hr_250_2 := ((hR_hr_250_2.mod0 m56).mod0 m70)
 replace hO_hr_331_2 := ((hO_hr_331_2.mod0 m56).mod0 m70)
 replace hR_hr_331_2 := ((hR_hr_331_2.mod0 m56).mod0 m70)
 replace hO_54 := (hO_54.mod0 m70)
 replace hR_55 := (hR_55.mod0 m70)
 refine c_cut (J := fun a w' => lawLS_j4 l l46 e47 l60 e61 s11_2 = .inr () ∧ Fr 269 [(1, .slice A l.length cA), (2, .slice B raw.length cB), (7, .pointer (some ⟨r16, 0, none⟩)), (9, .pointer (some ⟨r29, 0, none⟩)), (11, .int .i64 s11_2)] a ∧ Mod (Nil) w w' ∧ w64.heap.size ≤ w'.heap.size ∧ RdA tyLAct w' lo hi A l ∧ RdA tyU8 w' lo' hi' B raw ∧ Blk w' r16 147 [.slice Ahr_250_2 hr_250_2.length chr_250_2, .int .i64 hr_251_2, .int .i64 hr_252_2, .int .i64 hr_253_2, .bool hr_254_2] ∧ Blk w' r29 47 [.int .i64 room, .slice Ahr_331_2 hr_331_2.length chr_331_2, .int .i64 hr_332_2, .bool hr_333_2] ∧ Own tyMsg 35 w' lo19 hi20 (.slice Ahr_250_2 hr_250_2.length chr_250_2) hr_250_2 ∧ RdA tyMsg w' lo19 hi20 Ahr_250_2 hr_250_2 ∧ Own tyMsg 35 w' lohr_331_2 hihr_331_2 (.slice Ahr_331_2 hr_331_2.length chr_331_2) hr_331_2 ∧ RdA tyMsg w' lohr_331_2 hihr_331_2 Ahr_331_2 hr_331_2 ∧ (hr_250_2.length ≤ 4096 ∧ 0 < hr_250_2.length ∧ hr_251_2 < hr_250_2.length ∧ hr_252_2 ≤ hr_250_2.length) ∧ (hr_331_2.length ≤ 4096) ∧ True) (c_blk (bodyC Try.f3 [1, 1, 1, 1, 1, 1, 0, 1, 0, 0, 1, 0, 0, 1, 1, 0]) (by kernel_rfl) (wp_fr 269 [(1, .slice A l.length cA), (2, .slice B raw.length cB), (7, .pointer (some ⟨r16, 0, none⟩)), (9, .pointer (some ⟨r29, 0, none⟩)), (11, .int .i64 s11_2), (12, .slice A48 l46.length c49), (13, .int .i64 e47), (14, .slice A62 l60.length c63), (15, .int .i64 e61)] (by kernel_rfl) (by kernel_rfl) fun Tf => LinkScript_ok_b4 (w := w) (w35 := w35) (w50 := w50) (w64 := w64) (room := room) (A := A) (cA := cA) (l := l) (lo := lo) (hi := hi) (B := B) (cB := cB) (raw := raw) (lo' := lo') (hi' := hi') (r16 := r16) (lo19 := lo19) (hi20 := hi20) (r29 := r29) (Ahr_250_2 := Ahr_250_2) (chr_250_2 := chr_250_2) (hr_250_2 := hr_250_2) (hr_251_2 := hr_251_2) (hr_252_2 := hr_252_2) (hr_253_2 := hr_253_2) (hr_254_2 := hr_254_2) (Ahr_331_2 := Ahr_331_2) (chr_331_2 := chr_331_2) (hr_331_2 := hr_331_2) (hr_332_2 := hr_332_2) (hr_333_2 := hr_333_2) (lohr_331_2 := lohr_331_2) (hihr_331_2 := hihr_331_2) (l46 := l46) (e47 := e47) (A48 := A48) (c49 := c49) (l60 := l60) (e61 := e61) (A62 := A62) (c63 := c63) (s11_2 := s11_2) (hl := hl) (hm := hm) (hr_25 := hr_25) (hr_33 := hr_33) (hO_hr_250_2 := hO_hr_250_2) (hR_hr_250_2 := hR_hr_250_2) (hO_hr_331_2 := hO_hr_331_2) (hR_hr_331_2 := hR_hr_331_2) (hO_54 := hO_54) (hR_55 := hR_55) (hO_68 := hO_68) (hR_69 := hR_69) (HM := HM) (A_n := by exact A_n) (A_c := by first | exact A_c | omega) (B_n := by exact B_n) (B_c := by first | exact B_c | omega) (hI4 := by omega) (A48_n := by exact A48_n) (A48_c := by first | exact A48_c | omega) (hI7 := by omega) (A62_n := by exact A62_n) (A62_c := by first | exact A62_c | omega) (hI10 := by omega) (Ahr_250_2_n := by exact Ahr_250_2_n) (Ahr_250_2_c := by first | exact Ahr_250_2_c | omega) (hI13 := by omega) (hI14 := by omega) (hI15 := by omega) (hI16 := by omega) (Ahr_331_2_n := by exact Ahr_331_2_n) (Ahr_331_2_c := by first | exact Ahr_331_2_c | omega) (hI19 := by omega) (hu_hl := by omega) (hu_hm := by omega) (lt_hr_25 := by omega) (lt_hr_33 := by omega) (hu_hO_hr_250_2 := by omega) (hv_hO_hr_250_2 := by omega) (hu_hR_hr_250_2 := by omega) (hu_hO_hr_331_2 := by omega) (hv_hO_hr_331_2 := by omega) (hu_hR_hr_331_2 := by omega) (hu_hO_54 := by omega) (hv_hO_54 := by omega) (hu_hR_55 := by omega) (hu_hO_68 := by omega) (hv_hO_68 := by omega) (hu_hR_69 := by omega) (hW0 := by omega) (ho_37 := by omega) (ho_38 := by omega) (ho_39 := by omega) (ho_40 := by omega) (ho_41 := by omega) (ho_42 := by omega) (ho_43 := by omega) (ho_44 := by omega) (hs_45 := by omega) (hs_46 := by omega) (hs_47 := by omega) (hs_48 := by omega) (hs_49 := by omega) (hs_50 := by omega) (hs_51 := by omega) (hs_52 := by omega) (hs_53 := by omega) (hs_54 := by omega) (hs_55 := by omega) (hs_56 := by omega) (hs_57 := by omega) (hs_58 := by omega) (hs_59 := by omega) (hv_60 := by first | omega | (simp only [List.length_append, List.length_cons, List.length_nil, List.length_take, List.length_drop, List.length_set, List.length_replicate] at *; omega)) (hv_61 := by first | omega | (simp only [List.length_append, List.length_cons, List.length_nil, List.length_take, List.length_drop, List.length_set, List.length_replicate] at *; omega)) (h8 := by exact h8) (h11 := by exact h11) (h14 := by exact h14) (h39 := by exact h39) (hQ := ?_) (Tf := Tf))) ?_
 ·intro T v w' hr hp
  refine blk_r ?_
  refine then_r ?_
  refine hQ _ _ _ hr ?_
  obtain ⟨d, hs, hrest⟩ := hp
  refine ⟨d, ?_, hrest⟩
  rw [lawLS_j3]
  try simp only [dx45]
  try simp only [hsp51]
  try simp only [hsp65]
  simp only [hs]
  all_goals (try rfl)
 ·rintro a w109 ⟨hJ110, ⟨Tf, rfl⟩, HM', hszw109, hl', hm', hr_25', hr_33', hO_hr_250_2', hR_hr_250_2', hO_hr_331_2', hR_hr_331_2', hi0_4, hi1_4, -⟩
  clear HM hl hm hr_25 hr_33 hO_hr_250_2 hR_hr_250_2 hO_hr_331_2 hR_hr_331_2 hA43 hO_54 hR_55 hO_68 hR_69
  have HM := HM'; clear HM'
  have hl := hl'; clear hl'
  have hm := hm'; clear hm'
  have hr_25 := hr_25'; clear hr_25'
  have hr_33 := hr_33'; clear hr_33'
  have hO_hr_250_2 := hO_hr_250_2'; clear hO_hr_250_2'
  have hR_hr_250_2 := hR_hr_250_2'; clear hR_hr_250_2'
  have hO_hr_331_2 := hO_hr_331_2'; clear hO_hr_331_2'
  have hR_hr_331_2 := hR_hr_331_2'; clear hR_hr_331_2'
  have hl_l := hl.len
  have hm_l := hm.len
  have hO_hr_250_2_b := hO_hr_250_2.bounds
  have hR_hr_250_2_l := hR_hr_250_2.len
  have hO_hr_331_2_b := hO_hr_331_2.bounds
  have hR_hr_331_2_l := hR_hr_331_2.len
  refine wp_seq ?_
  refine c_cut (J := fun a w' => ∃ Ahr_250_5 : Option Addr, ∃ chr_250_5 : Nat, ∃ hr_250_5 : List Msg, ∃ hr_251_5 : Int, ∃ hr_252_5 : Int, ∃ hr_253_5 : Int, ∃ hr_254_5 : Bool, ∃ Ahr_331_5 : Option Addr, ∃ chr_331_5 : Nat, ∃ hr_331_5 : List Msg, ∃ hr_332_5 : Int, ∃ hr_333_5 : Bool, ∃ lohr_331_5 : Nat, ∃ hihr_331_5 : Nat, lawLS_j5 room l hr_250_2 hr_251_2 hr_252_2 hr_253_2 hr_254_2 hr_331_2 hr_332_2 hr_333_2 s11_2 = .inr (hr_250_5, hr_251_5, hr_252_5, hr_253_5, hr_254_5, hr_331_5, hr_332_5, hr_333_5) ∧ Fr 269 [(1, .slice A l.length cA), (2, .slice B raw.length cB), (7, .pointer (some ⟨r16, 0, none⟩)), (9, .pointer (some ⟨r29, 0, none⟩)), (11, .int .i64 s11_2)] a ∧ Mod (Nil) w w' ∧ w109.heap.size ≤ w'.heap.size ∧ RdA tyLAct w' lo hi A l ∧ RdA tyU8 w' lo' hi' B raw ∧ Blk w' r16 147 [.slice Ahr_250_5 hr_250_5.length chr_250_5, .int .i64 hr_251_5, .int .i64 hr_252_5, .int .i64 hr_253_5, .bool hr_254_5] ∧ Blk w' r29 47 [.int .i64 room, .slice Ahr_331_5 hr_331_5.length chr_331_5, .int .i64 hr_332_5, .bool hr_333_5] ∧ Own tyMsg 35 w' lo19 hi20 (.slice Ahr_250_5 hr_250_5.length chr_250_5) hr_250_5 ∧ RdA tyMsg w' lo19 hi20 Ahr_250_5 hr_250_5 ∧ Own tyMsg 35 w' lohr_331_5 hihr_331_5 (.slice Ahr_331_5 hr_331_5.length chr_331_5) hr_331_5 ∧ RdA tyMsg w' lohr_331_5 hihr_331_5 Ahr_331_5 hr_331_5 ∧ (0 ≤ hr_251_5 ∧ hr_251_5 ≤ 4096) ∧ (0 ≤ hr_252_5 ∧ hr_252_5 ≤ 4096) ∧ (-9223372036854775808 ≤ hr_253_5 ∧ hr_253_5 ≤ 9223372036854775807) ∧ (-9223372036854775808 ≤ hr_332_5 ∧ hr_332_5 ≤ 9223372036854775807) ∧ (Ahr_250_5 = none → chr_250_5 = 0) ∧ (hr_250_5.length ≤ chr_250_5) ∧ ((lohr_331_5 = lohr_331_2 ∧ hihr_331_5 = hihr_331_2) ∨ (w109.heap.size ≤ lohr_331_5 ∧ lohr_331_5 ≤ hihr_331_5 ∧ hihr_331_5 ≤ w'.heap.size)) ∧ (Ahr_331_5 = none → chr_331_5 = 0) ∧ (hr_331_5.length ≤ chr_331_5) ∧ (hr_250_5.length ≤ 4096 ∧ 0 < hr_250_5.length ∧ hr_251_5 < hr_250_5.length ∧ hr_252_5 ≤ hr_250_5.length) ∧ (hr_331_5.length ≤ 4096) ∧ True) (c_blk (bodyC Try.f3 [1, 1, 1, 1, 1, 1, 0, 1, 0, 0, 1, 0, 0, 1, 1, 1, 0]) (by kernel_rfl) (wp_fr 269 [(1, .slice A l.length cA), (2, .slice B raw.length cB), (7, .pointer (some ⟨r16, 0, none⟩)), (9, .pointer (some ⟨r29, 0, none⟩)), (11, .int .i64 s11_2)] (by kernel_rfl) (by kernel_rfl) fun Tf => LinkScript_ok_b5 (w := w) (w109 := w109) (room := room) (A := A) (cA := cA) (l := l) (lo := lo) (hi := hi) (B := B) (cB := cB) (raw := raw) (lo' := lo') (hi' := hi') (r16 := r16) (lo19 := lo19) (hi20 := hi20) (r29 := r29) (Ahr_250_2 := Ahr_250_2) (chr_250_2 := chr_250_2) (hr_250_2 := hr_250_2) (hr_251_2 := hr_251_2) (hr_252_2 := hr_252_2) (hr_253_2 := hr_253_2) (hr_254_2 := hr_254_2) (Ahr_331_2 := Ahr_331_2) (chr_331_2 := chr_331_2) (hr_331_2 := hr_331_2) (hr_332_2 := hr_332_2) (hr_333_2 := hr_333_2) (lohr_331_2 := lohr_331_2) (hihr_331_2 := hihr_331_2) (s11_2 := s11_2) (hl := hl) (hm := hm) (hr_25 := hr_25) (hr_33 := hr_33) (hO_hr_250_2 := hO_hr_250_2) (hR_hr_250_2 := hR_hr_250_2) (hO_hr_331_2 := hO_hr_331_2) (hR_hr_331_2 := hR_hr_331_2) (HM := HM) (A_n := by exact A_n) (A_c := by first | exact A_c | omega) (B_n := by exact B_n) (B_c := by first | exact B_c | omega) (hI4 := by omega) (Ahr_250_2_n := by exact Ahr_250_2_n) (Ahr_250_2_c := by first | exact Ahr_250_2_c | omega) (hI7 := by omega) (hI8 := by omega) (hI9 := by omega) (hI10 := by omega) (Ahr_331_2_n := by exact Ahr_331_2_n) (Ahr_331_2_c := by first | exact Ahr_331_2_c | omega) (hI13 := by omega) (hu_hl := by omega) (hu_hm := by omega) (lt_hr_25 := by omega) (lt_hr_33 := by omega) (hu_hO_hr_250_2 := by omega) (hv_hO_hr_250_2 := by omega) (hu_hR_hr_250_2 := by omega) (hu_hO_hr_331_2 := by omega) (hv_hO_hr_331_2 := by omega) (hu_hR_hr_331_2 := by omega) (hW0 := by omega) (ho_25 := by omega) (ho_26 := by omega) (ho_27 := by omega) (ho_28 := by omega) (ho_29 := by omega) (ho_30 := by omega) (hs_31 := by omega) (hs_32 := by omega) (hs_33 := by omega) (hs_34 := by omega) (hs_35 := by omega) (hs_36 := by omega) (hv_37 := by first | omega | (simp only [List.length_append, List.length_cons, List.length_nil, List.length_take, List.length_drop, List.length_set, List.length_replicate] at *; omega)) (hv_38 := by first | omega | (simp only [List.length_append, List.length_cons, List.length_nil, List.length_take, List.length_drop, List.length_set, List.length_replicate] at *; omega)) (h8 := by exact h8) (h11 := by exact h11) (h14 := by exact h14) (h39 := by exact h39) (hQ := ?_) (Tf := Tf))) ?_
  ·intro T v w' hr hp
   refine blk_r ?_
   refine then_r ?_
   refine hQ _ _ _ hr ?_
   obtain ⟨d, hs, hrest⟩ := hp
   refine ⟨d, ?_, hrest⟩
   rw [lawLS_j3]
   try simp only [dx45]
   try simp only [hsp51]
   try simp only [hsp65]
   try simp only [hJ110]
   simp only [hs]
   all_goals (try rfl)
  ·rintro a w209 ⟨Ahr_250_5, chr_250_5, hr_250_5, hr_251_5, hr_252_5, hr_253_5, hr_254_5, Ahr_331_5, chr_331_5, hr_331_5, hr_332_5, hr_333_5, lohr_331_5, hihr_331_5, hJ210, ⟨Tf, rfl⟩, HM', hszw209, hl', hm', hr_25', hr_33', hO_hr_250_5', hR_hr_250_5', hO_hr_331_5', hR_hr_331_5', hr_251_5_r, hr_252_5_r, hr_253_5_r, hr_332_5_r, Ahr_250_5_n, Ahr_250_5_c, hrg_hr_331_5, Ahr_331_5_n, Ahr_331_5_c, hi0_5, hi1_5, -⟩
   clear HM hl hm hr_25 hr_33 hO_hr_250_2 hR_hr_250_2 hO_hr_331_2 hR_hr_331_2
   have HM := HM'; clear HM'
   have hl := hl'; clear hl'
   have hm := hm'; clear hm'
   have hr_25 := hr_25'; clear hr_25'
   have hr_33 := hr_33'; clear hr_33'
   have hO_hr_250_5 := hO_hr_250_5'; clear hO_hr_250_5'
   have hR_hr_250_5 := hR_hr_250_5'; clear hR_hr_250_5'
   have hO_hr_331_5 := hO_hr_331_5'; clear hO_hr_331_5'
   have hR_hr_331_5 := hR_hr_331_5'; clear hR_hr_331_5'
   have hl_l := hl.len
   have hm_l := hm.len
   have hO_hr_250_5_b := hO_hr_250_5.bounds
   have hR_hr_250_5_l := hR_hr_250_5.len
   have hO_hr_331_5_b := hO_hr_331_5.bounds
   have hR_hr_331_5_l := hR_hr_331_5.len
   refine wp_seq ?_
   refine c_region (L := [0, 1, 2, 3, 4, 5, 6, 7]) (by kernel_rfl) ?_
   refine st_pure (l := [0]) (rest := [1, 2, 3, 4, 5, 6, 7]) (L := [(150, .pointer (some ⟨r16, 0, none⟩))]) rfl (by kernel_rfl) ?_
   refine st_fn (d := 151) (f := 24) (xs := #[.pointer (some ⟨r16, 0, none⟩)]) (R := _) (by kernel_rfl) (First_ok (w := w209) (r := r16) (A := Ahr_250_5) (cA := chr_250_5) (ring := hr_250_5) (fr := hr_251_5) (ct := hr_252_5) (mk := hr_253_5) (en := hr_254_5) (lo := lo19) (hi := hi20) (hr := hr_25) (hq := hR_hr_250_5) (A_n := Ahr_250_5_n) (A_c := by first | exact Ahr_250_5_c | omega) (fr_r := by omega) (ct_r := by omega) (mk_r := by omega) (hq_hi := by omega) (hlen := by first | omega | (simp only [List.length_append, List.length_cons, List.length_nil, List.length_take, List.length_drop, List.length_set, List.length_replicate] at *; omega))) ?_
   rintro vw213 w213 ⟨m212, hsp214, rfl, m216⟩
   have hrm212_0 := i64_lo m212.kind
   have hrm212_1 := i64_lo m212.time
   have hrm212_2 := i64_lo m212.cls
   have hrm212_4 := i64_lo m212.bank
   have hrm212_5 := i64_lo m212.place
   have hsm212_0 := i64_hi m212.kind
   have hsm212_1 := i64_hi m212.time
   have hsm212_2 := i64_hi m212.cls
   have hsm212_3 := u8_hi m212.high
   have hsm212_4 := i64_hi m212.bank
   have hsm212_5 := i64_hi m212.place
   have hsm212_6 := u8_hi m212.value
   have hszw213 := m216.size
   refine st_pure (l := [2, 3, 4]) (rest := [5, 6, 7]) (L := [(149, .tuple #[.agg #[.int .i64 m212.kind.toInt, .int .i64 m212.time.toInt, .int .i64 m212.cls.toInt, .int .u8 (m212.high.toNat : Int), .int .i64 m212.bank.toInt, .int .i64 m212.place.toInt, .int .u8 (m212.value.toNat : Int)], .bool (decide (hr_252_5 ≠ 0))]), (152, .agg #[.int .i64 m212.kind.toInt, .int .i64 m212.time.toInt, .int .i64 m212.cls.toInt, .int .u8 (m212.high.toNat : Int), .int .i64 m212.bank.toInt, .int .i64 m212.place.toInt, .int .u8 (m212.value.toNat : Int)]), (153, .bool (decide (hr_252_5 ≠ 0)))]) rfl (by kernel_rfl) ?_
   refine st_new (d := 20) (e := 35) (C := [.int .i64 0, .int .i64 0, .int .i64 0, .int .u8 0, .int .i64 0, .int .i64 0, .int .u8 0]) (V := fun r => .pointer (some ⟨r, 0, none⟩)) (by kernel_rfl) ?_
   intro b217 w218 m219 lb217 ub217 hB220
   have hszw218 := m219.size
   refine st_store (t := 35) (v := .agg #[.int .i64 m212.kind.toInt, .int .i64 m212.time.toInt, .int .i64 m212.cls.toInt, .int .u8 (m212.high.toNat : Int), .int .i64 m212.bank.toInt, .int .i64 m212.place.toInt, .int .u8 (m212.value.toNat : Int)]) (o := 0) (C' := [.int .i64 m212.kind.toInt, .int .i64 m212.time.toInt, .int .i64 m212.cls.toInt, .int .u8 (m212.high.toNat : Int), .int .i64 m212.bank.toInt, .int .i64 m212.place.toInt, .int .u8 (m212.value.toNat : Int)]) (by kernel_rfl) hB220 (by kernel_rfl) ?_
   intro w221 m222 zm222 NhB220
   clear hB220; have hB220 := NhB220; clear NhB220
   have hszw221 := m222.size
   refine st_pure (l := [7]) (rest := []) (L := [(21, .bool (decide (hr_252_5 ≠ 0)))]) rfl (by kernel_rfl) ?_
   refine st_end ?_
   refine then_n ?_
   refine wp_seq ?_
   refine c_region (L := [0, 1, 2, 3, 4, 5, 6, 7]) (by kernel_rfl) ?_
   refine st_pure (l := [0]) (rest := [1, 2, 3, 4, 5, 6, 7]) (L := [(155, .pointer (some ⟨r29, 0, none⟩))]) rfl (by kernel_rfl) ?_
   replace hr_33 := (((hr_33.mod m216 (fun q => q)).mod m219 (fun q => q)).mod m222 (by intro h3; (try simp only [Iv] at h3); omega))
   replace hR_hr_331_5 := (((hR_hr_331_5.mod0 m216).mod0 m219).mod m222 (by intro k h1 h2 h3; (try simp only [Iv] at h3); omega))
   refine st_fn (d := 156) (f := 25) (xs := #[.pointer (some ⟨r29, 0, none⟩)]) (R := _) (by kernel_rfl) (rFirst_ok (w := w221) (r := r29) (A := Ahr_331_5) (cA := chr_331_5) (ml := hr_331_5) (mo := room) (mk := hr_332_5) (en := hr_333_5) (lo := lohr_331_5) (hi := hihr_331_5) (hr := hr_33) (hq := hR_hr_331_5) (mo_r := by omega) (A_n := Ahr_331_5_n) (A_c := by first | exact Ahr_331_5_c | omega) (mk_r := by omega) (hq_hi := by omega)) ?_
   rintro vw225 w225 ⟨m223, d224, hsp226, rfl, m228⟩
   have hrm223_0 := i64_lo m223.kind
   have hrm223_1 := i64_lo m223.time
   have hrm223_2 := i64_lo m223.cls
   have hrm223_4 := i64_lo m223.bank
   have hrm223_5 := i64_lo m223.place
   have hsm223_0 := i64_hi m223.kind
   have hsm223_1 := i64_hi m223.time
   have hsm223_2 := i64_hi m223.cls
   have hsm223_3 := u8_hi m223.high
   have hsm223_4 := i64_hi m223.bank
   have hsm223_5 := i64_hi m223.place
   have hsm223_6 := u8_hi m223.value
   have hszw225 := m228.size
   refine st_pure (l := [2, 3, 4]) (rest := [5, 6, 7]) (L := [(154, .tuple #[.agg #[.int .i64 m223.kind.toInt, .int .i64 m223.time.toInt, .int .i64 m223.cls.toInt, .int .u8 (m223.high.toNat : Int), .int .i64 m223.bank.toInt, .int .i64 m223.place.toInt, .int .u8 (m223.value.toNat : Int)], .bool d224]), (157, .agg #[.int .i64 m223.kind.toInt, .int .i64 m223.time.toInt, .int .i64 m223.cls.toInt, .int .u8 (m223.high.toNat : Int), .int .i64 m223.bank.toInt, .int .i64 m223.place.toInt, .int .u8 (m223.value.toNat : Int)]), (158, .bool d224)]) rfl (by kernel_rfl) ?_
   refine st_new (d := 22) (e := 35) (C := [.int .i64 0, .int .i64 0, .int .i64 0, .int .u8 0, .int .i64 0, .int .i64 0, .int .u8 0]) (V := fun r => .pointer (some ⟨r, 0, none⟩)) (by kernel_rfl) ?_
   intro b229 w230 m231 lb229 ub229 hB232
   have hszw230 := m231.size
   refine st_store (t := 35) (v := .agg #[.int .i64 m223.kind.toInt, .int .i64 m223.time.toInt, .int .i64 m223.cls.toInt, .int .u8 (m223.high.toNat : Int), .int .i64 m223.bank.toInt, .int .i64 m223.place.toInt, .int .u8 (m223.value.toNat : Int)]) (o := 0) (C' := [.int .i64 m223.kind.toInt, .int .i64 m223.time.toInt, .int .i64 m223.cls.toInt, .int .u8 (m223.high.toNat : Int), .int .i64 m223.bank.toInt, .int .i64 m223.place.toInt, .int .u8 (m223.value.toNat : Int)]) (by kernel_rfl) hB232 (by kernel_rfl) ?_
   intro w233 m234 zm234 NhB232
   clear hB232; have hB232 := NhB232; clear NhB232
   have hszw233 := m234.size
   refine st_pure (l := [7]) (rest := []) (L := [(23, .bool d224)]) rfl (by kernel_rfl) ?_
   refine st_end ?_
   refine then_n ?_
   refine wp_seq ?_
   refine c_drawS (Nil) (Nil) [0, 1, 2, 3, 4, 5, 6, 7, 8, 9, 11, 12, 13, 14, 15, 16, 17, 18, 19, 21, 23, 24, 25, 26, 28, 29, 30, 31, 32, 33, 34, 35, 37, 38, 39, 40, 41, 42] [] 0 (fun _ q => q) (by kernel_rfl) (n := 43) (by kernel_rfl) (by kernel_rfl) ?_
   intro w235 HGw235
   have HC236 : Mod (Nil) w233 w235 := Mod.weaken HGw235 fun _ _ q => q.elim
   have hszw235 := HGw235.size
   have hB220_b237 := (((hB220.mod m228 (fun q => q)).mod m231 (fun q => q)).mod m234 (by intro h3; (try simp only [Iv] at h3); omega))
   refine m_load (d := 159) (t := 35) (b := b217) (o := 0) (v := .agg #[.int .i64 m212.kind.toInt, .int .i64 m212.time.toInt, .int .i64 m212.cls.toInt, .int .u8 (m212.high.toNat : Int), .int .i64 m212.bank.toInt, .int .i64 m212.place.toInt, .int .u8 (m212.value.toNat : Int)]) (by kernel_rfl) (by kernel_rfl) (fun wQ (mQ : Mod (Nil) w233 wQ) => (hB220_b237.mod mQ (fun q => q)).sub 0) (by kernel_rfl) ?_
   have hB232_b238 := hB232
   refine m_load (d := 160) (t := 35) (b := b229) (o := 0) (v := .agg #[.int .i64 m223.kind.toInt, .int .i64 m223.time.toInt, .int .i64 m223.cls.toInt, .int .u8 (m223.high.toNat : Int), .int .i64 m223.bank.toInt, .int .i64 m223.place.toInt, .int .u8 (m223.value.toNat : Int)]) (by kernel_rfl) (by kernel_rfl) (fun wQ (mQ : Mod (Nil) w233 wQ) => (hB232_b238.mod mQ (fun q => q)).sub 0) (by kernel_rfl) ?_
   refine m_comes (d := 161) (v := .bool (((m212.kind.toInt == m223.kind.toInt) && ((m212.time.toInt == m223.time.toInt) && ((m212.cls.toInt == m223.cls.toInt) && (((m212.high.toNat : Int) == (m223.high.toNat : Int)) && ((m212.bank.toInt == m223.bank.toInt) && ((m212.place.toInt == m223.place.toInt) && (((m212.value.toNat : Int) == (m223.value.toNat : Int)) && true))))))) != true)) (by kernel_rfl) (fun wQ (mQ : Mod (Nil) w233 wQ) => (comes_eq (t := 35) (neg := true) (xs := #[.int .i64 m212.kind.toInt, .int .i64 m212.time.toInt, .int .i64 m212.cls.toInt, .int .u8 (m212.high.toNat : Int), .int .i64 m212.bank.toInt, .int .i64 m212.place.toInt, .int .u8 (m212.value.toNat : Int)]) (ys := #[.int .i64 m223.kind.toInt, .int .i64 m223.time.toInt, .int .i64 m223.cls.toInt, .int .u8 (m223.high.toNat : Int), .int .i64 m223.bank.toInt, .int .i64 m223.place.toInt, .int .u8 (m223.value.toNat : Int)]) (b := ((m212.kind.toInt == m223.kind.toInt) && ((m212.time.toInt == m223.time.toInt) && ((m212.cls.toInt == m223.cls.toInt) && (((m212.high.toNat : Int) == (m223.high.toNat : Int)) && ((m212.bank.toInt == m223.bank.toInt) && ((m212.place.toInt == m223.place.toInt) && (((m212.value.toNat : Int) == (m223.value.toNat : Int)) && true)))))))) (by kernel_rfl) (by kernel_rfl) (by kernel_rfl))) HC236 ?_
   by_cases h239 : ¬ (m212 = m223)
   ·skip
    have hb240 : (((m212.kind.toInt == m223.kind.toInt) && ((m212.time.toInt == m223.time.toInt) && ((m212.cls.toInt == m223.cls.toInt) && (((m212.high.toNat : Int) == (m223.high.toNat : Int)) && ((m212.bank.toInt == m223.bank.toInt) && ((m212.place.toInt == m223.place.toInt) && (((m212.value.toNat : Int) == (m223.value.toNat : Int)) && true))))))) != true) = true := by rw [show ((m212.kind.toInt == m223.kind.toInt) && ((m212.time.toInt == m223.time.toInt) && ((m212.cls.toInt == m223.cls.toInt) && (((m212.high.toNat : Int) == (m223.high.toNat : Int)) && ((m212.bank.toInt == m223.bank.toInt) && ((m212.place.toInt == m223.place.toInt) && (((m212.value.toNat : Int) == (m223.value.toNat : Int)) && true))))))) = false from Bool.eq_false_iff.2 fun hh => h239 ((Msg.eq_iff _ _).1 (by simpa only [Bool.and_eq_true, beq_iff_eq, Bool.and_true, true_and, and_true] using hh))]; rfl
    refine m_p (k := 3) (n := 1) (fuel := 39) (L := [(162, .bool true)]) (by kernel_rfl) (Eq.trans (b := some [(162, .bool (((m212.kind.toInt == m223.kind.toInt) && ((m212.time.toInt == m223.time.toInt) && ((m212.cls.toInt == m223.cls.toInt) && (((m212.high.toNat : Int) == (m223.high.toNat : Int)) && ((m212.bank.toInt == m223.bank.toInt) && ((m212.place.toInt == m223.place.toInt) && (((m212.value.toNat : Int) == (m223.value.toNat : Int)) && true))))))) != true))]) (by kernel_rfl) (by simp only [hb240])) rfl ?_
    refine m_p (k := 4) (n := 6) (fuel := 33) (L := [(163, undef), (164, undef), (165, undef), (166, .bool true), (167, .bool true), (168, undef)]) (by kernel_rfl) (by kernel_rfl) rfl ?_
    refine m_Q (by kernel_rfl) ?_
    refine st_unwanted (some 169) (by kernel_rfl) ?_
    refine st_end (m_after HC236 ?_)
    refine m_p (k := 11) (n := 9) (fuel := 23) (L := [(170, undef), (171, undef), (172, undef), (173, undef), (174, undef), (175, undef), (176, .bool true), (177, .bool true), (178, undef)]) (by kernel_rfl) (by kernel_rfl) rfl ?_
    refine m_Q (by kernel_rfl) ?_
    refine st_unwanted (some 179) (by kernel_rfl) ?_
    refine st_end (m_after HC236 ?_)
    refine m_p (k := 21) (n := 1) (fuel := 21) (L := [(180, undef)]) (by kernel_rfl) (by kernel_rfl) rfl ?_
    refine m_Q (by kernel_rfl) ?_
    refine st_unwanted (some 181) (by kernel_rfl) ?_
    refine st_end (m_after HC236 ?_)
    refine m_p (k := 23) (n := 4) (fuel := 16) (L := [(182, undef), (183, .bool true), (184, .bool true), (185, undef)]) (by kernel_rfl) (by kernel_rfl) rfl ?_
    refine m_Q (by kernel_rfl) ?_
    refine st_unwanted (some 186) (by kernel_rfl) ?_
    refine st_end (m_after HC236 ?_)
    refine m_p (k := 28) (n := 8) (fuel := 7) (L := [(187, undef), (188, undef), (189, undef), (190, undef), (191, undef), (192, .bool true), (193, .bool true), (194, undef)]) (by kernel_rfl) (by kernel_rfl) rfl ?_
    refine m_Q (by kernel_rfl) ?_
    refine st_unwanted (some 195) (by kernel_rfl) ?_
    refine st_end (m_after HC236 ?_)
    refine m_p (k := 37) (n := 6) (fuel := 0) (L := [(196, undef), (197, undef), (198, undef), (199, undef), (200, undef), (201, .bool true)]) (by kernel_rfl) (by kernel_rfl) rfl ?_
    refine m_end ?_
    refine cut_fr 269 [(1, .slice A l.length cA), (2, .slice B raw.length cB), (7, .pointer (some ⟨r16, 0, none⟩)), (9, .pointer (some ⟨r29, 0, none⟩)), (11, .int .i64 s11_2), (201, .bool true)] (by kernel_rfl) (by kernel_rfl) ?_
    intro Tf
    refine c_true (by kernel_rfl) ?_
    refine wp_seq ?_
    refine c_region (L := [0]) (by kernel_rfl) ?_
    refine st_pure (l := [0]) (rest := []) (L := [(6, .bool false)]) rfl (by kernel_rfl) ?_
    refine st_end ?_
    refine then_n ?_
    refine wp_ret ?_
    refine blk_r ?_
    refine then_r ?_
    refine hQ _ (.bool false) _ (pureRun_run _ (by kernel_rfl) _) ?_
    replace HM := (((((((HM.tr0 m216).tr0 m219).trans m222 (by intro k h1 h3; (try simp only [Iv] at h3 ⊢); omega)).tr0 m228).tr0 m231).trans m234 (by intro k h1 h3; (try simp only [Iv] at h3 ⊢); omega)).tr0 HGw235)
    refine ⟨false, ?_, rfl, HM⟩
    ·rw [lawLS_j3]
     try simp only [dx45]
     try simp only [hsp51]
     try simp only [hsp65]
     try simp only [hJ110]
     try simp only [hJ210]
     try simp only [hsp214]
     try simp only [hsp226]
     rw [if_pos h239]
     all_goals (try rfl)
   ·skip
    have hb241 : (((m212.kind.toInt == m223.kind.toInt) && ((m212.time.toInt == m223.time.toInt) && ((m212.cls.toInt == m223.cls.toInt) && (((m212.high.toNat : Int) == (m223.high.toNat : Int)) && ((m212.bank.toInt == m223.bank.toInt) && ((m212.place.toInt == m223.place.toInt) && (((m212.value.toNat : Int) == (m223.value.toNat : Int)) && true))))))) != true) = false := by rw [show ((m212.kind.toInt == m223.kind.toInt) && ((m212.time.toInt == m223.time.toInt) && ((m212.cls.toInt == m223.cls.toInt) && (((m212.high.toNat : Int) == (m223.high.toNat : Int)) && ((m212.bank.toInt == m223.bank.toInt) && ((m212.place.toInt == m223.place.toInt) && (((m212.value.toNat : Int) == (m223.value.toNat : Int)) && true))))))) = true from by rw [(Decidable.not_not.1 h239)]; simp only [beq_self_eq_true, Bool.and_true, Bool.and_self]]; rfl
    refine m_p (k := 3) (n := 1) (fuel := 39) (L := [(162, .bool false)]) (by kernel_rfl) (Eq.trans (b := some [(162, .bool (((m212.kind.toInt == m223.kind.toInt) && ((m212.time.toInt == m223.time.toInt) && ((m212.cls.toInt == m223.cls.toInt) && (((m212.high.toNat : Int) == (m223.high.toNat : Int)) && ((m212.bank.toInt == m223.bank.toInt) && ((m212.place.toInt == m223.place.toInt) && (((m212.value.toNat : Int) == (m223.value.toNat : Int)) && true))))))) != true))]) (by kernel_rfl) (by simp only [hb241])) rfl ?_
    by_cases h242 : hr_252_5 ≠ 0
    ·skip
     have hb243 : (decide (hr_252_5 ≠ 0)) = true := decide_eq_true h242
     refine m_p (k := 4) (n := 1) (fuel := 38) (L := [(163, .bool true)]) (by kernel_rfl) (Eq.trans (b := some [(163, .bool (decide (hr_252_5 ≠ 0)))]) (by kernel_rfl) (by simp only [hb243])) rfl ?_
     by_cases h244 : d224 = true
     ·skip
      have hb245 : (d224) = true := by simpa using h244
      refine m_p (k := 5) (n := 1) (fuel := 37) (L := [(164, .bool true)]) (by kernel_rfl) (Eq.trans (b := some [(164, .bool d224)]) (by kernel_rfl) (by simp only [hb245])) rfl ?_
      refine m_p (k := 6) (n := 4) (fuel := 33) (L := [(165, .bool false), (166, .bool false), (167, .bool false), (168, .pointer (some ⟨r16, 0, none⟩))]) (by kernel_rfl) (by kernel_rfl) rfl ?_
      refine m_Q (by kernel_rfl) ?_
      have hr_25_b246 := ((((((hr_25.mod m216 (fun q => q)).mod m219 (fun q => q)).mod m222 (by intro h3; (try simp only [Iv] at h3); omega)).mod m228 (fun q => q)).mod m231 (fun q => q)).mod m234 (by intro h3; (try simp only [Iv] at h3); omega))
      replace hr_25 := (((((((hr_25.mod m216 (fun q => q)).mod m219 (fun q => q)).mod m222 (by intro h3; (try simp only [Iv] at h3); omega)).mod m228 (fun q => q)).mod m231 (fun q => q)).mod m234 (by intro h3; (try simp only [Iv] at h3); omega)).mod HGw235 (fun q => q))
      refine st_fn (d := 169) (f := 26) (xs := #[.pointer (some ⟨r16, 0, none⟩)]) (R := _) (by kernel_rfl) (Len_ok (w := w235) (r := r16) (A := Ahr_250_5) (cA := chr_250_5) (ring := hr_250_5) (fr := hr_251_5) (ct := hr_252_5) (mk := hr_253_5) (en := hr_254_5) (hr := hr_25) (A_n := Ahr_250_5_n) (A_c := by first | exact Ahr_250_5_c | omega) (fr_r := by omega) (ct_r := by omega) (mk_r := by omega) (hlen := by first | omega | (simp only [List.length_append, List.length_cons, List.length_nil, List.length_take, List.length_drop, List.length_set, List.length_replicate] at *; omega))) ?_
      rintro vw247 w247 ⟨rfl, m249⟩
      have hszw247 := m249.size
      have HC250 := HC236.tr0 m249
      refine st_end (m_after HC250 ?_)
      refine m_p (k := 11) (n := 3) (fuel := 29) (L := [(170, .pointer (some ⟨r29, 0, none⟩)), (171, .pointer (some ⟨r29, 0, none⟩)), (172, .pointer (some ⟨r29, 1, none⟩))]) (by kernel_rfl) (by kernel_rfl) rfl ?_
      have hr_33_b251 := (((hr_33.mod m228 (fun q => q)).mod m231 (fun q => q)).mod m234 (by intro h3; (try simp only [Iv] at h3); omega))
      refine m_load (d := 173) (t := 45) (b := r29) (o := 1) (v := .slice Ahr_331_5 hr_331_5.length chr_331_5) (by kernel_rfl) (by kernel_rfl) (fun wQ (mQ : Mod (Nil) w233 wQ) => (hr_33_b251.mod mQ (fun q => q)).sub 1) (by kernel_rfl) ?_
      by_cases h252 : hr_252_5 ≠ (hr_331_5.length : Int)
      ·skip
       have hb253 : (hr_252_5 != (hr_331_5.length : Int)) = true := by first | (rw [bne_iff_ne]; exact h252) | (rw [bne_eq_false_iff_eq]; omega)
       refine m_p (k := 15) (n := 4) (fuel := 24) (L := [(174, .int .i64 (hr_331_5.length : Int)), (175, .bool (hr_252_5 != (hr_331_5.length : Int))), (176, .bool (hr_252_5 != (hr_331_5.length : Int))), (177, .bool true)]) (by kernel_rfl) (Eq.trans (b := some [(174, .int .i64 (hr_331_5.length : Int)), (175, .bool (hr_252_5 != (hr_331_5.length : Int))), (176, .bool (hr_252_5 != (hr_331_5.length : Int))), (177, .bool (hr_252_5 != (hr_331_5.length : Int)))]) (by kernel_rfl) (by simp only [hb253])) rfl ?_
       refine m_p (k := 19) (n := 1) (fuel := 23) (L := [(178, undef)]) (by kernel_rfl) (by kernel_rfl) rfl ?_
       refine m_Q (by kernel_rfl) ?_
       refine st_unwanted (some 179) (by kernel_rfl) ?_
       refine st_end (m_after HC250 ?_)
       refine m_p (k := 21) (n := 1) (fuel := 21) (L := [(180, undef)]) (by kernel_rfl) (by kernel_rfl) rfl ?_
       refine m_Q (by kernel_rfl) ?_
       refine st_unwanted (some 181) (by kernel_rfl) ?_
       refine st_end (m_after HC250 ?_)
       refine m_p (k := 23) (n := 4) (fuel := 16) (L := [(182, undef), (183, .bool true), (184, .bool true), (185, undef)]) (by kernel_rfl) (by kernel_rfl) rfl ?_
       refine m_Q (by kernel_rfl) ?_
       refine st_unwanted (some 186) (by kernel_rfl) ?_
       refine st_end (m_after HC250 ?_)
       refine m_p (k := 28) (n := 8) (fuel := 7) (L := [(187, undef), (188, undef), (189, undef), (190, undef), (191, undef), (192, .bool true), (193, .bool true), (194, undef)]) (by kernel_rfl) (by kernel_rfl) rfl ?_
       refine m_Q (by kernel_rfl) ?_
       refine st_unwanted (some 195) (by kernel_rfl) ?_
       refine st_end (m_after HC250 ?_)
       refine m_p (k := 37) (n := 6) (fuel := 0) (L := [(196, undef), (197, undef), (198, undef), (199, undef), (200, undef), (201, .bool true)]) (by kernel_rfl) (by kernel_rfl) rfl ?_
       refine m_end ?_
       refine cut_fr 269 [(1, .slice A l.length cA), (2, .slice B raw.length cB), (7, .pointer (some ⟨r16, 0, none⟩)), (9, .pointer (some ⟨r29, 0, none⟩)), (11, .int .i64 s11_2), (201, .bool true)] (by kernel_rfl) (by kernel_rfl) ?_
       intro Tf
       refine c_true (by kernel_rfl) ?_
       refine wp_seq ?_
       refine c_region (L := [0]) (by kernel_rfl) ?_
       refine st_pure (l := [0]) (rest := []) (L := [(6, .bool false)]) rfl (by kernel_rfl) ?_
       refine st_end ?_
       refine then_n ?_
       refine wp_ret ?_
       refine blk_r ?_
       refine then_r ?_
       refine hQ _ (.bool false) _ (pureRun_run _ (by kernel_rfl) _) ?_
       replace HM := ((((((((HM.tr0 m216).tr0 m219).trans m222 (by intro k h1 h3; (try simp only [Iv] at h3 ⊢); omega)).tr0 m228).tr0 m231).trans m234 (by intro k h1 h3; (try simp only [Iv] at h3 ⊢); omega)).tr0 HGw235).tr0 m249)
       refine ⟨false, ?_, rfl, HM⟩
       ·rw [lawLS_j3]
        try simp only [dx45]
        try simp only [hsp51]
        try simp only [hsp65]
        try simp only [hJ110]
        try simp only [hJ210]
        try simp only [hsp214]
        try simp only [hsp226]
        rw [if_neg h239, if_pos h242, if_pos h244, if_pos h252]
        all_goals (try rfl)
      ·skip
       have hb254 : (hr_252_5 != (hr_331_5.length : Int)) = false := by rw [bne_eq_false_iff_eq]; exact Decidable.not_not.1 h252
       refine m_p (k := 15) (n := 4) (fuel := 24) (L := [(174, .int .i64 (hr_331_5.length : Int)), (175, .bool (hr_252_5 != (hr_331_5.length : Int))), (176, .bool (hr_252_5 != (hr_331_5.length : Int))), (177, .bool false)]) (by kernel_rfl) (Eq.trans (b := some [(174, .int .i64 (hr_331_5.length : Int)), (175, .bool (hr_252_5 != (hr_331_5.length : Int))), (176, .bool (hr_252_5 != (hr_331_5.length : Int))), (177, .bool (hr_252_5 != (hr_331_5.length : Int)))]) (by kernel_rfl) (by simp only [hb254])) rfl ?_
       refine m_p (k := 19) (n := 1) (fuel := 23) (L := [(178, .pointer (some ⟨r16, 0, none⟩))]) (by kernel_rfl) (by kernel_rfl) rfl ?_
       refine m_Q (by kernel_rfl) ?_
       replace hr_25 := (hr_25.mod m249 (fun q => q))
       refine st_fn (d := 179) (f := 27) (xs := #[.pointer (some ⟨r16, 0, none⟩)]) (R := _) (by kernel_rfl) (Room_ok (w := w247) (r := r16) (A := Ahr_250_5) (cA := chr_250_5) (ring := hr_250_5) (fr := hr_251_5) (ct := hr_252_5) (mk := hr_253_5) (en := hr_254_5) (hr := hr_25) (A_n := Ahr_250_5_n) (A_c := by first | exact Ahr_250_5_c | omega) (fr_r := by omega) (ct_r := by omega) (mk_r := by omega) (hlen := by first | omega | (simp only [List.length_append, List.length_cons, List.length_nil, List.length_take, List.length_drop, List.length_set, List.length_replicate] at *; omega))) ?_
       rintro vw255 w255 ⟨rfl, m257⟩
       have hszw255 := m257.size
       have HC258 := HC250.tr0 m257
       refine st_end (m_after HC258 ?_)
       refine m_p (k := 21) (n := 1) (fuel := 21) (L := [(180, .pointer (some ⟨r29, 0, none⟩))]) (by kernel_rfl) (by kernel_rfl) rfl ?_
       refine m_Q (by kernel_rfl) ?_
       replace hr_33 := ((((((hr_33.mod m228 (fun q => q)).mod m231 (fun q => q)).mod m234 (by intro h3; (try simp only [Iv] at h3); omega)).mod HGw235 (fun q => q)).mod m249 (fun q => q)).mod m257 (fun q => q))
       refine st_fn (d := 181) (f := 28) (xs := #[.pointer (some ⟨r29, 0, none⟩)]) (R := _) (by kernel_rfl) (rRoom_ok (w := w255) (r := r29) (A := Ahr_331_5) (cA := chr_331_5) (ml := hr_331_5) (mo := room) (mk := hr_332_5) (en := hr_333_5) (hr := hr_33) (mo_r := by omega) (A_n := Ahr_331_5_n) (A_c := by first | exact Ahr_331_5_c | omega) (mk_r := by omega) (hlen := by first | omega | (simp only [List.length_append, List.length_cons, List.length_nil, List.length_take, List.length_drop, List.length_set, List.length_replicate] at *; omega))) ?_
       rintro vw259 w259 ⟨rfl, m261⟩
       have hszw259 := m261.size
       have HC262 := HC258.tr0 m261
       refine st_end (m_after HC262 ?_)
       by_cases h263 : ((hr_250_5.length : Int) - hr_252_5) ≠ (room - (hr_331_5.length : Int))
       ·skip
        have hb264 : (((hr_250_5.length : Int) - hr_252_5) != (room - (hr_331_5.length : Int))) = true := by first | (rw [bne_iff_ne]; exact h263) | (rw [bne_eq_false_iff_eq]; omega)
        refine m_p (k := 23) (n := 3) (fuel := 17) (L := [(182, .bool (((hr_250_5.length : Int) - hr_252_5) != (room - (hr_331_5.length : Int)))), (183, .bool (((hr_250_5.length : Int) - hr_252_5) != (room - (hr_331_5.length : Int)))), (184, .bool true)]) (by kernel_rfl) (Eq.trans (b := some [(182, .bool (((hr_250_5.length : Int) - hr_252_5) != (room - (hr_331_5.length : Int)))), (183, .bool (((hr_250_5.length : Int) - hr_252_5) != (room - (hr_331_5.length : Int)))), (184, .bool (((hr_250_5.length : Int) - hr_252_5) != (room - (hr_331_5.length : Int))))]) (by kernel_rfl) (by simp only [hb264])) rfl ?_
        refine m_p (k := 26) (n := 1) (fuel := 16) (L := [(185, undef)]) (by kernel_rfl) (by kernel_rfl) rfl ?_
        refine m_Q (by kernel_rfl) ?_
        refine st_unwanted (some 186) (by kernel_rfl) ?_
        refine st_end (m_after HC262 ?_)
        refine m_p (k := 28) (n := 8) (fuel := 7) (L := [(187, undef), (188, undef), (189, undef), (190, undef), (191, undef), (192, .bool true), (193, .bool true), (194, undef)]) (by kernel_rfl) (by kernel_rfl) rfl ?_
        refine m_Q (by kernel_rfl) ?_
        refine st_unwanted (some 195) (by kernel_rfl) ?_
        refine st_end (m_after HC262 ?_)
        refine m_p (k := 37) (n := 6) (fuel := 0) (L := [(196, undef), (197, undef), (198, undef), (199, undef), (200, undef), (201, .bool true)]) (by kernel_rfl) (by kernel_rfl) rfl ?_
        refine m_end ?_
        refine cut_fr 269 [(1, .slice A l.length cA), (2, .slice B raw.length cB), (7, .pointer (some ⟨r16, 0, none⟩)), (9, .pointer (some ⟨r29, 0, none⟩)), (11, .int .i64 s11_2), (201, .bool true)] (by kernel_rfl) (by kernel_rfl) ?_
        intro Tf
        refine c_true (by kernel_rfl) ?_
        refine wp_seq ?_
        refine c_region (L := [0]) (by kernel_rfl) ?_
        refine st_pure (l := [0]) (rest := []) (L := [(6, .bool false)]) rfl (by kernel_rfl) ?_
        refine st_end ?_
        refine then_n ?_
        refine wp_ret ?_
        refine blk_r ?_
        refine then_r ?_
        refine hQ _ (.bool false) _ (pureRun_run _ (by kernel_rfl) _) ?_
        replace HM := ((((((((((HM.tr0 m216).tr0 m219).trans m222 (by intro k h1 h3; (try simp only [Iv] at h3 ⊢); omega)).tr0 m228).tr0 m231).trans m234 (by intro k h1 h3; (try simp only [Iv] at h3 ⊢); omega)).tr0 HGw235).tr0 m249).tr0 m257).tr0 m261)
        refine ⟨false, ?_, rfl, HM⟩
        ·rw [lawLS_j3]
         try simp only [dx45]
         try simp only [hsp51]
         try simp only [hsp65]
         try simp only [hJ110]
         try simp only [hJ210]
         try simp only [hsp214]
         try simp only [hsp226]
         rw [if_neg h239, if_pos h242, if_pos h244, if_neg h252, if_pos h263]
         all_goals (try rfl)
       ·skip
        have hb265 : (((hr_250_5.length : Int) - hr_252_5) != (room - (hr_331_5.length : Int))) = false := by rw [bne_eq_false_iff_eq]; exact Decidable.not_not.1 h263
        refine m_p (k := 23) (n := 3) (fuel := 17) (L := [(182, .bool (((hr_250_5.length : Int) - hr_252_5) != (room - (hr_331_5.length : Int)))), (183, .bool (((hr_250_5.length : Int) - hr_252_5) != (room - (hr_331_5.length : Int)))), (184, .bool false)]) (by kernel_rfl) (Eq.trans (b := some [(182, .bool (((hr_250_5.length : Int) - hr_252_5) != (room - (hr_331_5.length : Int)))), (183, .bool (((hr_250_5.length : Int) - hr_252_5) != (room - (hr_331_5.length : Int)))), (184, .bool (((hr_250_5.length : Int) - hr_252_5) != (room - (hr_331_5.length : Int))))]) (by kernel_rfl) (by simp only [hb265])) rfl ?_
        refine m_p (k := 26) (n := 1) (fuel := 16) (L := [(185, .pointer (some ⟨r16, 0, none⟩))]) (by kernel_rfl) (by kernel_rfl) rfl ?_
        refine m_Q (by kernel_rfl) ?_
        replace hr_25 := ((hr_25.mod m257 (fun q => q)).mod m261 (fun q => q))
        refine st_fn (d := 186) (f := 29) (xs := #[.pointer (some ⟨r16, 0, none⟩)]) (R := _) (by kernel_rfl) (Mark_ok (w := w259) (r := r16) (A := Ahr_250_5) (cA := chr_250_5) (ring := hr_250_5) (fr := hr_251_5) (ct := hr_252_5) (mk := hr_253_5) (en := hr_254_5) (hr := hr_25) (A_n := Ahr_250_5_n) (A_c := by first | exact Ahr_250_5_c | omega) (fr_r := by omega) (ct_r := by omega) (mk_r := by omega) (hlen := by first | omega | (simp only [List.length_append, List.length_cons, List.length_nil, List.length_take, List.length_drop, List.length_set, List.length_replicate] at *; omega))) ?_
        rintro vw266 w266 ⟨rfl, m268⟩
        have hszw266 := m268.size
        have HC269 := HC262.tr0 m268
        refine st_end (m_after HC269 ?_)
        refine m_p (k := 28) (n := 3) (fuel := 12) (L := [(187, .pointer (some ⟨r29, 0, none⟩)), (188, .pointer (some ⟨r29, 0, none⟩)), (189, .pointer (some ⟨r29, 2, none⟩))]) (by kernel_rfl) (by kernel_rfl) rfl ?_
        refine m_load (d := 190) (t := 2) (b := r29) (o := 2) (v := .int .i64 hr_332_5) (by kernel_rfl) (by kernel_rfl) (fun wQ (mQ : Mod (Nil) w233 wQ) => (hr_33_b251.mod mQ (fun q => q)).sub 2) (by kernel_rfl) ?_
        by_cases h270 : hr_253_5 ≠ hr_332_5
        ·skip
         have hb271 : (hr_253_5 != hr_332_5) = true := by first | (rw [bne_iff_ne]; exact h270) | (rw [bne_eq_false_iff_eq]; omega)
         refine m_p (k := 32) (n := 3) (fuel := 8) (L := [(191, .bool (hr_253_5 != hr_332_5)), (192, .bool (hr_253_5 != hr_332_5)), (193, .bool true)]) (by kernel_rfl) (Eq.trans (b := some [(191, .bool (hr_253_5 != hr_332_5)), (192, .bool (hr_253_5 != hr_332_5)), (193, .bool (hr_253_5 != hr_332_5))]) (by kernel_rfl) (by simp only [hb271])) rfl ?_
         refine m_p (k := 35) (n := 1) (fuel := 7) (L := [(194, undef)]) (by kernel_rfl) (by kernel_rfl) rfl ?_
         refine m_Q (by kernel_rfl) ?_
         refine st_unwanted (some 195) (by kernel_rfl) ?_
         refine st_end (m_after HC269 ?_)
         refine m_p (k := 37) (n := 6) (fuel := 0) (L := [(196, undef), (197, undef), (198, undef), (199, undef), (200, undef), (201, .bool true)]) (by kernel_rfl) (by kernel_rfl) rfl ?_
         refine m_end ?_
         refine cut_fr 269 [(1, .slice A l.length cA), (2, .slice B raw.length cB), (7, .pointer (some ⟨r16, 0, none⟩)), (9, .pointer (some ⟨r29, 0, none⟩)), (11, .int .i64 s11_2), (201, .bool true)] (by kernel_rfl) (by kernel_rfl) ?_
         intro Tf
         refine c_true (by kernel_rfl) ?_
         refine wp_seq ?_
         refine c_region (L := [0]) (by kernel_rfl) ?_
         refine st_pure (l := [0]) (rest := []) (L := [(6, .bool false)]) rfl (by kernel_rfl) ?_
         refine st_end ?_
         refine then_n ?_
         refine wp_ret ?_
         refine blk_r ?_
         refine then_r ?_
         refine hQ _ (.bool false) _ (pureRun_run _ (by kernel_rfl) _) ?_
         replace HM := (((((((((((HM.tr0 m216).tr0 m219).trans m222 (by intro k h1 h3; (try simp only [Iv] at h3 ⊢); omega)).tr0 m228).tr0 m231).trans m234 (by intro k h1 h3; (try simp only [Iv] at h3 ⊢); omega)).tr0 HGw235).tr0 m249).tr0 m257).tr0 m261).tr0 m268)
         refine ⟨false, ?_, rfl, HM⟩
         ·rw [lawLS_j3]
          try simp only [dx45]
          try simp only [hsp51]
          try simp only [hsp65]
          try simp only [hJ110]
          try simp only [hJ210]
          try simp only [hsp214]
          try simp only [hsp226]
          rw [if_neg h239, if_pos h242, if_pos h244, if_neg h252, if_neg h263, if_pos h270]
          all_goals (try rfl)
        ·skip
         have hb272 : (hr_253_5 != hr_332_5) = false := by rw [bne_eq_false_iff_eq]; exact Decidable.not_not.1 h270
         refine m_p (k := 32) (n := 3) (fuel := 8) (L := [(191, .bool (hr_253_5 != hr_332_5)), (192, .bool (hr_253_5 != hr_332_5)), (193, .bool false)]) (by kernel_rfl) (Eq.trans (b := some [(191, .bool (hr_253_5 != hr_332_5)), (192, .bool (hr_253_5 != hr_332_5)), (193, .bool (hr_253_5 != hr_332_5))]) (by kernel_rfl) (by simp only [hb272])) rfl ?_
         refine m_p (k := 35) (n := 1) (fuel := 7) (L := [(194, .pointer (some ⟨r16, 0, none⟩))]) (by kernel_rfl) (by kernel_rfl) rfl ?_
         refine m_Q (by kernel_rfl) ?_
         replace hr_25 := (hr_25.mod m268 (fun q => q))
         refine st_fn (d := 195) (f := 30) (xs := #[.pointer (some ⟨r16, 0, none⟩)]) (R := _) (by kernel_rfl) (Ended_ok (w := w266) (r := r16) (A := Ahr_250_5) (cA := chr_250_5) (ring := hr_250_5) (fr := hr_251_5) (ct := hr_252_5) (mk := hr_253_5) (en := hr_254_5) (hr := hr_25) (A_n := Ahr_250_5_n) (A_c := by first | exact Ahr_250_5_c | omega) (fr_r := by omega) (ct_r := by omega) (mk_r := by omega) (hlen := by first | omega | (simp only [List.length_append, List.length_cons, List.length_nil, List.length_take, List.length_drop, List.length_set, List.length_replicate] at *; omega))) ?_
         rintro vw273 w273 ⟨hv274, m275⟩
         have hszw273 := m275.size
         have HC276 := HC269.tr0 m275
         refine st_end (m_after HC276 ?_)
         by_cases h277 : hr_254_5 = true
         ·skip
          have hb278 : (hr_254_5) = true := by simpa using h277
          rw [hb278] at hv274; subst hv274
          refine m_p (k := 37) (n := 3) (fuel := 3) (L := [(196, .pointer (some ⟨r29, 0, none⟩)), (197, .pointer (some ⟨r29, 0, none⟩)), (198, .pointer (some ⟨r29, 3, none⟩))]) (by kernel_rfl) (by kernel_rfl) rfl ?_
          by_cases h279 : hr_333_5 = true
          ·skip
           have hb280 : (hr_333_5) = true := by simpa using h279
           refine m_load (d := 199) (t := 4) (b := r29) (o := 3) (v := .bool true) (by kernel_rfl) (by kernel_rfl) (fun wQ (mQ : Mod (Nil) w233 wQ) => (hr_33_b251.mod mQ (fun q => q)).sub 3) (Eq.trans (b := some (.bool hr_333_5)) (by kernel_rfl) (by rw [hb280])) ?_
           refine m_p (k := 41) (n := 2) (fuel := 0) (L := [(200, .bool false), (201, .bool false)]) (by kernel_rfl) (by kernel_rfl) rfl ?_
           refine m_end ?_
           refine cut_fr 269 [(1, .slice A l.length cA), (2, .slice B raw.length cB), (7, .pointer (some ⟨r16, 0, none⟩)), (9, .pointer (some ⟨r29, 0, none⟩)), (11, .int .i64 s11_2), (201, .bool false)] (by kernel_rfl) (by kernel_rfl) ?_
           intro Tf
           refine c_false (by kernel_rfl) ?_
           refine wp_skip ?_
           refine blk_n ?_
           refine then_n ?_
           replace HM := ((((((((((((HM.tr0 m216).tr0 m219).trans m222 (by intro k h1 h3; (try simp only [Iv] at h3 ⊢); omega)).tr0 m228).tr0 m231).trans m234 (by intro k h1 h3; (try simp only [Iv] at h3 ⊢); omega)).tr0 HGw235).tr0 m249).tr0 m257).tr0 m261).tr0 m268).tr0 m275)
           replace hl := ((((((((((((hl.mod0 m216).mod0 m219).mod m222 (by intro k h1 h2 h3; (try simp only [Iv] at h3); omega)).mod0 m228).mod0 m231).mod m234 (by intro k h1 h2 h3; (try simp only [Iv] at h3); omega)).mod0 HGw235).mod0 m249).mod0 m257).mod0 m261).mod0 m268).mod0 m275)
           replace hm := ((((((((((((hm.mod0 m216).mod0 m219).mod m222 (by intro k h1 h2 h3; (try simp only [Iv] at h3); omega)).mod0 m228).mod0 m231).mod m234 (by intro k h1 h2 h3; (try simp only [Iv] at h3); omega)).mod0 HGw235).mod0 m249).mod0 m257).mod0 m261).mod0 m268).mod0 m275)
           replace hr_25 := (hr_25.mod m275 (fun q => q))
           replace hr_33 := (((hr_33.mod m261 (fun q => q)).mod m268 (fun q => q)).mod m275 (fun q => q))
           replace hO_hr_250_5 := ((((((((((((hO_hr_250_5.mod0 m216).mod0 m219).mod m222 (by intro k h1 h2 h3; (try simp only [Iv] at h3); omega)).mod0 m228).mod0 m231).mod m234 (by intro k h1 h2 h3; (try simp only [Iv] at h3); omega)).mod0 HGw235).mod0 m249).mod0 m257).mod0 m261).mod0 m268).mod0 m275)
           replace hR_hr_250_5 := ((((((((((((hR_hr_250_5.mod0 m216).mod0 m219).mod m222 (by intro k h1 h2 h3; (try simp only [Iv] at h3); omega)).mod0 m228).mod0 m231).mod m234 (by intro k h1 h2 h3; (try simp only [Iv] at h3); omega)).mod0 HGw235).mod0 m249).mod0 m257).mod0 m261).mod0 m268).mod0 m275)
           replace hO_hr_331_5 := ((((((((((((hO_hr_331_5.mod0 m216).mod0 m219).mod m222 (by intro k h1 h2 h3; (try simp only [Iv] at h3); omega)).mod0 m228).mod0 m231).mod m234 (by intro k h1 h2 h3; (try simp only [Iv] at h3); omega)).mod0 HGw235).mod0 m249).mod0 m257).mod0 m261).mod0 m268).mod0 m275)
           replace hR_hr_331_5 := (((((((((hR_hr_331_5.mod0 m228).mod0 m231).mod m234 (by intro k h1 h2 h3; (try simp only [Iv] at h3); omega)).mod0 HGw235).mod0 m249).mod0 m257).mod0 m261).mod0 m268).mod0 m275)
           refine ⟨Ahr_250_5, chr_250_5, hr_250_5, hr_251_5, hr_252_5, hr_253_5, hr_254_5, Ahr_331_5, chr_331_5, hr_331_5, hr_332_5, hr_333_5, lohr_331_5, hihr_331_5, ?_, Fr.mk (by kernel_rfl) (by kernel_rfl), HM, by omega, hl, hm, hr_25, hr_33, hO_hr_250_5, hR_hr_250_5, hO_hr_331_5, hR_hr_331_5, ?_, ?_, ?_, ?_, ?_, ?_, ?_, ?_, ?_, ?_, ?_, trivial⟩
           ·rw [lawLS_j3]
            try simp only [dx45]
            try simp only [hsp51]
            try simp only [hsp65]
            try simp only [hJ110]
            try simp only [hJ210]
            try simp only [hsp214]
            try simp only [hsp226]
            rw [if_neg h239, if_pos h242, if_pos h244, if_neg h252, if_neg h263, if_neg h270, if_pos h277, if_pos h279]
            all_goals (try rfl)
           ·omega
           ·omega
           ·omega
           ·omega
           ·exact Ahr_250_5_n
           ·first | exact Ahr_250_5_c | omega
           ·omega
           ·exact Ahr_331_5_n
           ·first | exact Ahr_331_5_c | omega
           ·first | omega | (simp only [List.length_append, List.length_cons, List.length_nil, List.length_take, List.length_drop, List.length_set, List.length_replicate] at *; omega)
           ·first | omega | (simp only [List.length_append, List.length_cons, List.length_nil, List.length_take, List.length_drop, List.length_set, List.length_replicate] at *; omega)
          ·skip
           have hb281 : (hr_333_5) = false := by simpa using h279
           refine m_load (d := 199) (t := 4) (b := r29) (o := 3) (v := .bool false) (by kernel_rfl) (by kernel_rfl) (fun wQ (mQ : Mod (Nil) w233 wQ) => (hr_33_b251.mod mQ (fun q => q)).sub 3) (Eq.trans (b := some (.bool hr_333_5)) (by kernel_rfl) (by rw [hb281])) ?_
           refine m_p (k := 41) (n := 2) (fuel := 0) (L := [(200, .bool true), (201, .bool true)]) (by kernel_rfl) (by kernel_rfl) rfl ?_
           refine m_end ?_
           refine cut_fr 269 [(1, .slice A l.length cA), (2, .slice B raw.length cB), (7, .pointer (some ⟨r16, 0, none⟩)), (9, .pointer (some ⟨r29, 0, none⟩)), (11, .int .i64 s11_2), (201, .bool true)] (by kernel_rfl) (by kernel_rfl) ?_
           intro Tf
           refine c_true (by kernel_rfl) ?_
           refine wp_seq ?_
           refine c_region (L := [0]) (by kernel_rfl) ?_
           refine st_pure (l := [0]) (rest := []) (L := [(6, .bool false)]) rfl (by kernel_rfl) ?_
           refine st_end ?_
           refine then_n ?_
           refine wp_ret ?_
           refine blk_r ?_
           refine then_r ?_
           refine hQ _ (.bool false) _ (pureRun_run _ (by kernel_rfl) _) ?_
           replace HM := ((((((((((((HM.tr0 m216).tr0 m219).trans m222 (by intro k h1 h3; (try simp only [Iv] at h3 ⊢); omega)).tr0 m228).tr0 m231).trans m234 (by intro k h1 h3; (try simp only [Iv] at h3 ⊢); omega)).tr0 HGw235).tr0 m249).tr0 m257).tr0 m261).tr0 m268).tr0 m275)
           refine ⟨false, ?_, rfl, HM⟩
           ·rw [lawLS_j3]
            try simp only [dx45]
            try simp only [hsp51]
            try simp only [hsp65]
            try simp only [hJ110]
            try simp only [hJ210]
            try simp only [hsp214]
            try simp only [hsp226]
            rw [if_neg h239, if_pos h242, if_pos h244, if_neg h252, if_neg h263, if_neg h270, if_pos h277, if_neg h279]
            all_goals (try rfl)
         ·skip
          have hb282 : (hr_254_5) = false := by simpa using h277
          rw [hb282] at hv274; subst hv274
          refine m_p (k := 37) (n := 3) (fuel := 3) (L := [(196, .pointer (some ⟨r29, 0, none⟩)), (197, .pointer (some ⟨r29, 0, none⟩)), (198, .pointer (some ⟨r29, 3, none⟩))]) (by kernel_rfl) (by kernel_rfl) rfl ?_
          by_cases h283 : hr_333_5 = true
          ·skip
           have hb284 : (hr_333_5) = true := by simpa using h283
           refine m_load (d := 199) (t := 4) (b := r29) (o := 3) (v := .bool true) (by kernel_rfl) (by kernel_rfl) (fun wQ (mQ : Mod (Nil) w233 wQ) => (hr_33_b251.mod mQ (fun q => q)).sub 3) (Eq.trans (b := some (.bool hr_333_5)) (by kernel_rfl) (by rw [hb284])) ?_
           refine m_p (k := 41) (n := 2) (fuel := 0) (L := [(200, .bool true), (201, .bool true)]) (by kernel_rfl) (by kernel_rfl) rfl ?_
           refine m_end ?_
           refine cut_fr 269 [(1, .slice A l.length cA), (2, .slice B raw.length cB), (7, .pointer (some ⟨r16, 0, none⟩)), (9, .pointer (some ⟨r29, 0, none⟩)), (11, .int .i64 s11_2), (201, .bool true)] (by kernel_rfl) (by kernel_rfl) ?_
           intro Tf
           refine c_true (by kernel_rfl) ?_
           refine wp_seq ?_
           refine c_region (L := [0]) (by kernel_rfl) ?_
           refine st_pure (l := [0]) (rest := []) (L := [(6, .bool false)]) rfl (by kernel_rfl) ?_
           refine st_end ?_
           refine then_n ?_
           refine wp_ret ?_
           refine blk_r ?_
           refine then_r ?_
           refine hQ _ (.bool false) _ (pureRun_run _ (by kernel_rfl) _) ?_
           replace HM := ((((((((((((HM.tr0 m216).tr0 m219).trans m222 (by intro k h1 h3; (try simp only [Iv] at h3 ⊢); omega)).tr0 m228).tr0 m231).trans m234 (by intro k h1 h3; (try simp only [Iv] at h3 ⊢); omega)).tr0 HGw235).tr0 m249).tr0 m257).tr0 m261).tr0 m268).tr0 m275)
           refine ⟨false, ?_, rfl, HM⟩
           ·rw [lawLS_j3]
            try simp only [dx45]
            try simp only [hsp51]
            try simp only [hsp65]
            try simp only [hJ110]
            try simp only [hJ210]
            try simp only [hsp214]
            try simp only [hsp226]
            rw [if_neg h239, if_pos h242, if_pos h244, if_neg h252, if_neg h263, if_neg h270, if_neg h277, if_pos h283]
            all_goals (try rfl)
          ·skip
           have hb285 : (hr_333_5) = false := by simpa using h283
           refine m_load (d := 199) (t := 4) (b := r29) (o := 3) (v := .bool false) (by kernel_rfl) (by kernel_rfl) (fun wQ (mQ : Mod (Nil) w233 wQ) => (hr_33_b251.mod mQ (fun q => q)).sub 3) (Eq.trans (b := some (.bool hr_333_5)) (by kernel_rfl) (by rw [hb285])) ?_
           refine m_p (k := 41) (n := 2) (fuel := 0) (L := [(200, .bool false), (201, .bool false)]) (by kernel_rfl) (by kernel_rfl) rfl ?_
           refine m_end ?_
           refine cut_fr 269 [(1, .slice A l.length cA), (2, .slice B raw.length cB), (7, .pointer (some ⟨r16, 0, none⟩)), (9, .pointer (some ⟨r29, 0, none⟩)), (11, .int .i64 s11_2), (201, .bool false)] (by kernel_rfl) (by kernel_rfl) ?_
           intro Tf
           refine c_false (by kernel_rfl) ?_
           refine wp_skip ?_
           refine blk_n ?_
           refine then_n ?_
           replace HM := ((((((((((((HM.tr0 m216).tr0 m219).trans m222 (by intro k h1 h3; (try simp only [Iv] at h3 ⊢); omega)).tr0 m228).tr0 m231).trans m234 (by intro k h1 h3; (try simp only [Iv] at h3 ⊢); omega)).tr0 HGw235).tr0 m249).tr0 m257).tr0 m261).tr0 m268).tr0 m275)
           replace hl := ((((((((((((hl.mod0 m216).mod0 m219).mod m222 (by intro k h1 h2 h3; (try simp only [Iv] at h3); omega)).mod0 m228).mod0 m231).mod m234 (by intro k h1 h2 h3; (try simp only [Iv] at h3); omega)).mod0 HGw235).mod0 m249).mod0 m257).mod0 m261).mod0 m268).mod0 m275)
           replace hm := ((((((((((((hm.mod0 m216).mod0 m219).mod m222 (by intro k h1 h2 h3; (try simp only [Iv] at h3); omega)).mod0 m228).mod0 m231).mod m234 (by intro k h1 h2 h3; (try simp only [Iv] at h3); omega)).mod0 HGw235).mod0 m249).mod0 m257).mod0 m261).mod0 m268).mod0 m275)
           replace hr_25 := (hr_25.mod m275 (fun q => q))
           replace hr_33 := (((hr_33.mod m261 (fun q => q)).mod m268 (fun q => q)).mod m275 (fun q => q))
           replace hO_hr_250_5 := ((((((((((((hO_hr_250_5.mod0 m216).mod0 m219).mod m222 (by intro k h1 h2 h3; (try simp only [Iv] at h3); omega)).mod0 m228).mod0 m231).mod m234 (by intro k h1 h2 h3; (try simp only [Iv] at h3); omega)).mod0 HGw235).mod0 m249).mod0 m257).mod0 m261).mod0 m268).mod0 m275)
           replace hR_hr_250_5 := ((((((((((((hR_hr_250_5.mod0 m216).mod0 m219).mod m222 (by intro k h1 h2 h3; (try simp only [Iv] at h3); omega)).mod0 m228).mod0 m231).mod m234 (by intro k h1 h2 h3; (try simp only [Iv] at h3); omega)).mod0 HGw235).mod0 m249).mod0 m257).mod0 m261).mod0 m268).mod0 m275)
           replace hO_hr_331_5 := ((((((((((((hO_hr_331_5.mod0 m216).mod0 m219).mod m222 (by intro k h1 h2 h3; (try simp only [Iv] at h3); omega)).mod0 m228).mod0 m231).mod m234 (by intro k h1 h2 h3; (try simp only [Iv] at h3); omega)).mod0 HGw235).mod0 m249).mod0 m257).mod0 m261).mod0 m268).mod0 m275)
           replace hR_hr_331_5 := (((((((((hR_hr_331_5.mod0 m228).mod0 m231).mod m234 (by intro k h1 h2 h3; (try simp only [Iv] at h3); omega)).mod0 HGw235).mod0 m249).mod0 m257).mod0 m261).mod0 m268).mod0 m275)
           refine ⟨Ahr_250_5, chr_250_5, hr_250_5, hr_251_5, hr_252_5, hr_253_5, hr_254_5, Ahr_331_5, chr_331_5, hr_331_5, hr_332_5, hr_333_5, lohr_331_5, hihr_331_5, ?_, Fr.mk (by kernel_rfl) (by kernel_rfl), HM, by omega, hl, hm, hr_25, hr_33, hO_hr_250_5, hR_hr_250_5, hO_hr_331_5, hR_hr_331_5, ?_, ?_, ?_, ?_, ?_, ?_, ?_, ?_, ?_, ?_, ?_, trivial⟩
           ·rw [lawLS_j3]
            try simp only [dx45]
            try simp only [hsp51]
            try simp only [hsp65]
            try simp only [hJ110]
            try simp only [hJ210]
            try simp only [hsp214]
            try simp only [hsp226]
            rw [if_neg h239, if_pos h242, if_pos h244, if_neg h252, if_neg h263, if_neg h270, if_neg h277, if_neg h283]
            all_goals (try rfl)
           ·omega
           ·omega
           ·omega
           ·omega
           ·exact Ahr_250_5_n
           ·first | exact Ahr_250_5_c | omega
           ·omega
           ·exact Ahr_331_5_n
           ·first | exact Ahr_331_5_c | omega
           ·first | omega | (simp only [List.length_append, List.length_cons, List.length_nil, List.length_take, List.length_drop, List.length_set, List.length_replicate] at *; omega)
           ·first | omega | (simp only [List.length_append, List.length_cons, List.length_nil, List.length_take, List.length_drop, List.length_set, List.length_replicate] at *; omega)
     ·skip
      have hb286 : (d224) = false := by simpa using h244
      refine m_p (k := 5) (n := 1) (fuel := 37) (L := [(164, .bool false)]) (by kernel_rfl) (Eq.trans (b := some [(164, .bool d224)]) (by kernel_rfl) (by simp only [hb286])) rfl ?_
      refine m_p (k := 6) (n := 4) (fuel := 33) (L := [(165, .bool true), (166, .bool true), (167, .bool true), (168, undef)]) (by kernel_rfl) (by kernel_rfl) rfl ?_
      refine m_Q (by kernel_rfl) ?_
      refine st_unwanted (some 169) (by kernel_rfl) ?_
      refine st_end (m_after HC236 ?_)
      refine m_p (k := 11) (n := 9) (fuel := 23) (L := [(170, undef), (171, undef), (172, undef), (173, undef), (174, undef), (175, undef), (176, .bool true), (177, .bool true), (178, undef)]) (by kernel_rfl) (by kernel_rfl) rfl ?_
      refine m_Q (by kernel_rfl) ?_
      refine st_unwanted (some 179) (by kernel_rfl) ?_
      refine st_end (m_after HC236 ?_)
      refine m_p (k := 21) (n := 1) (fuel := 21) (L := [(180, undef)]) (by kernel_rfl) (by kernel_rfl) rfl ?_
      refine m_Q (by kernel_rfl) ?_
      refine st_unwanted (some 181) (by kernel_rfl) ?_
      refine st_end (m_after HC236 ?_)
      refine m_p (k := 23) (n := 4) (fuel := 16) (L := [(182, undef), (183, .bool true), (184, .bool true), (185, undef)]) (by kernel_rfl) (by kernel_rfl) rfl ?_
      refine m_Q (by kernel_rfl) ?_
      refine st_unwanted (some 186) (by kernel_rfl) ?_
      refine st_end (m_after HC236 ?_)
      refine m_p (k := 28) (n := 8) (fuel := 7) (L := [(187, undef), (188, undef), (189, undef), (190, undef), (191, undef), (192, .bool true), (193, .bool true), (194, undef)]) (by kernel_rfl) (by kernel_rfl) rfl ?_
      refine m_Q (by kernel_rfl) ?_
      refine st_unwanted (some 195) (by kernel_rfl) ?_
      refine st_end (m_after HC236 ?_)
      refine m_p (k := 37) (n := 6) (fuel := 0) (L := [(196, undef), (197, undef), (198, undef), (199, undef), (200, undef), (201, .bool true)]) (by kernel_rfl) (by kernel_rfl) rfl ?_
      refine m_end ?_
      refine cut_fr 269 [(1, .slice A l.length cA), (2, .slice B raw.length cB), (7, .pointer (some ⟨r16, 0, none⟩)), (9, .pointer (some ⟨r29, 0, none⟩)), (11, .int .i64 s11_2), (201, .bool true)] (by kernel_rfl) (by kernel_rfl) ?_
      intro Tf
      refine c_true (by kernel_rfl) ?_
      refine wp_seq ?_
      refine c_region (L := [0]) (by kernel_rfl) ?_
      refine st_pure (l := [0]) (rest := []) (L := [(6, .bool false)]) rfl (by kernel_rfl) ?_
      refine st_end ?_
      refine then_n ?_
      refine wp_ret ?_
      refine blk_r ?_
      refine then_r ?_
      refine hQ _ (.bool false) _ (pureRun_run _ (by kernel_rfl) _) ?_
      replace HM := (((((((HM.tr0 m216).tr0 m219).trans m222 (by intro k h1 h3; (try simp only [Iv] at h3 ⊢); omega)).tr0 m228).tr0 m231).trans m234 (by intro k h1 h3; (try simp only [Iv] at h3 ⊢); omega)).tr0 HGw235)
      refine ⟨false, ?_, rfl, HM⟩
      ·rw [lawLS_j3]
       try simp only [dx45]
       try simp only [hsp51]
       try simp only [hsp65]
       try simp only [hJ110]
       try simp only [hJ210]
       try simp only [hsp214]
       try simp only [hsp226]
       rw [if_neg h239, if_pos h242, if_neg h244]
       all_goals (try rfl)
    ·skip
     have hb287 : (decide (hr_252_5 ≠ 0)) = false := decide_eq_false h242
     refine m_p (k := 4) (n := 1) (fuel := 38) (L := [(163, .bool false)]) (by kernel_rfl) (Eq.trans (b := some [(163, .bool (decide (hr_252_5 ≠ 0)))]) (by kernel_rfl) (by simp only [hb287])) rfl ?_
     by_cases h288 : d224 = true
     ·skip
      have hb289 : (d224) = true := by simpa using h288
      refine m_p (k := 5) (n := 1) (fuel := 37) (L := [(164, .bool true)]) (by kernel_rfl) (Eq.trans (b := some [(164, .bool d224)]) (by kernel_rfl) (by simp only [hb289])) rfl ?_
      refine m_p (k := 6) (n := 4) (fuel := 33) (L := [(165, .bool true), (166, .bool true), (167, .bool true), (168, undef)]) (by kernel_rfl) (by kernel_rfl) rfl ?_
      refine m_Q (by kernel_rfl) ?_
      refine st_unwanted (some 169) (by kernel_rfl) ?_
      refine st_end (m_after HC236 ?_)
      refine m_p (k := 11) (n := 9) (fuel := 23) (L := [(170, undef), (171, undef), (172, undef), (173, undef), (174, undef), (175, undef), (176, .bool true), (177, .bool true), (178, undef)]) (by kernel_rfl) (by kernel_rfl) rfl ?_
      refine m_Q (by kernel_rfl) ?_
      refine st_unwanted (some 179) (by kernel_rfl) ?_
      refine st_end (m_after HC236 ?_)
      refine m_p (k := 21) (n := 1) (fuel := 21) (L := [(180, undef)]) (by kernel_rfl) (by kernel_rfl) rfl ?_
      refine m_Q (by kernel_rfl) ?_
      refine st_unwanted (some 181) (by kernel_rfl) ?_
      refine st_end (m_after HC236 ?_)
      refine m_p (k := 23) (n := 4) (fuel := 16) (L := [(182, undef), (183, .bool true), (184, .bool true), (185, undef)]) (by kernel_rfl) (by kernel_rfl) rfl ?_
      refine m_Q (by kernel_rfl) ?_
      refine st_unwanted (some 186) (by kernel_rfl) ?_
      refine st_end (m_after HC236 ?_)
      refine m_p (k := 28) (n := 8) (fuel := 7) (L := [(187, undef), (188, undef), (189, undef), (190, undef), (191, undef), (192, .bool true), (193, .bool true), (194, undef)]) (by kernel_rfl) (by kernel_rfl) rfl ?_
      refine m_Q (by kernel_rfl) ?_
      refine st_unwanted (some 195) (by kernel_rfl) ?_
      refine st_end (m_after HC236 ?_)
      refine m_p (k := 37) (n := 6) (fuel := 0) (L := [(196, undef), (197, undef), (198, undef), (199, undef), (200, undef), (201, .bool true)]) (by kernel_rfl) (by kernel_rfl) rfl ?_
      refine m_end ?_
      refine cut_fr 269 [(1, .slice A l.length cA), (2, .slice B raw.length cB), (7, .pointer (some ⟨r16, 0, none⟩)), (9, .pointer (some ⟨r29, 0, none⟩)), (11, .int .i64 s11_2), (201, .bool true)] (by kernel_rfl) (by kernel_rfl) ?_
      intro Tf
      refine c_true (by kernel_rfl) ?_
      refine wp_seq ?_
      refine c_region (L := [0]) (by kernel_rfl) ?_
      refine st_pure (l := [0]) (rest := []) (L := [(6, .bool false)]) rfl (by kernel_rfl) ?_
      refine st_end ?_
      refine then_n ?_
      refine wp_ret ?_
      refine blk_r ?_
      refine then_r ?_
      refine hQ _ (.bool false) _ (pureRun_run _ (by kernel_rfl) _) ?_
      replace HM := (((((((HM.tr0 m216).tr0 m219).trans m222 (by intro k h1 h3; (try simp only [Iv] at h3 ⊢); omega)).tr0 m228).tr0 m231).trans m234 (by intro k h1 h3; (try simp only [Iv] at h3 ⊢); omega)).tr0 HGw235)
      refine ⟨false, ?_, rfl, HM⟩
      ·rw [lawLS_j3]
       try simp only [dx45]
       try simp only [hsp51]
       try simp only [hsp65]
       try simp only [hJ110]
       try simp only [hJ210]
       try simp only [hsp214]
       try simp only [hsp226]
       rw [if_neg h239, if_neg h242, if_pos h288]
       all_goals (try rfl)
     ·skip
      have hb290 : (d224) = false := by simpa using h288
      refine m_p (k := 5) (n := 1) (fuel := 37) (L := [(164, .bool false)]) (by kernel_rfl) (Eq.trans (b := some [(164, .bool d224)]) (by kernel_rfl) (by simp only [hb290])) rfl ?_
      refine m_p (k := 6) (n := 4) (fuel := 33) (L := [(165, .bool false), (166, .bool false), (167, .bool false), (168, .pointer (some ⟨r16, 0, none⟩))]) (by kernel_rfl) (by kernel_rfl) rfl ?_
      refine m_Q (by kernel_rfl) ?_
      have hr_25_b291 := ((((((hr_25.mod m216 (fun q => q)).mod m219 (fun q => q)).mod m222 (by intro h3; (try simp only [Iv] at h3); omega)).mod m228 (fun q => q)).mod m231 (fun q => q)).mod m234 (by intro h3; (try simp only [Iv] at h3); omega))
      replace hr_25 := (((((((hr_25.mod m216 (fun q => q)).mod m219 (fun q => q)).mod m222 (by intro h3; (try simp only [Iv] at h3); omega)).mod m228 (fun q => q)).mod m231 (fun q => q)).mod m234 (by intro h3; (try simp only [Iv] at h3); omega)).mod HGw235 (fun q => q))
      refine st_fn (d := 169) (f := 26) (xs := #[.pointer (some ⟨r16, 0, none⟩)]) (R := _) (by kernel_rfl) (Len_ok (w := w235) (r := r16) (A := Ahr_250_5) (cA := chr_250_5) (ring := hr_250_5) (fr := hr_251_5) (ct := hr_252_5) (mk := hr_253_5) (en := hr_254_5) (hr := hr_25) (A_n := Ahr_250_5_n) (A_c := by first | exact Ahr_250_5_c | omega) (fr_r := by omega) (ct_r := by omega) (mk_r := by omega) (hlen := by first | omega | (simp only [List.length_append, List.length_cons, List.length_nil, List.length_take, List.length_drop, List.length_set, List.length_replicate] at *; omega))) ?_
      rintro vw292 w292 ⟨rfl, m294⟩
      have hszw292 := m294.size
      have HC295 := HC236.tr0 m294
      refine st_end (m_after HC295 ?_)
      refine m_p (k := 11) (n := 3) (fuel := 29) (L := [(170, .pointer (some ⟨r29, 0, none⟩)), (171, .pointer (some ⟨r29, 0, none⟩)), (172, .pointer (some ⟨r29, 1, none⟩))]) (by kernel_rfl) (by kernel_rfl) rfl ?_
      have hr_33_b296 := (((hr_33.mod m228 (fun q => q)).mod m231 (fun q => q)).mod m234 (by intro h3; (try simp only [Iv] at h3); omega))
      refine m_load (d := 173) (t := 45) (b := r29) (o := 1) (v := .slice Ahr_331_5 hr_331_5.length chr_331_5) (by kernel_rfl) (by kernel_rfl) (fun wQ (mQ : Mod (Nil) w233 wQ) => (hr_33_b296.mod mQ (fun q => q)).sub 1) (by kernel_rfl) ?_
      by_cases h297 : hr_252_5 ≠ (hr_331_5.length : Int)
      ·skip
       have hb298 : (hr_252_5 != (hr_331_5.length : Int)) = true := by first | (rw [bne_iff_ne]; exact h297) | (rw [bne_eq_false_iff_eq]; omega)
       refine m_p (k := 15) (n := 4) (fuel := 24) (L := [(174, .int .i64 (hr_331_5.length : Int)), (175, .bool (hr_252_5 != (hr_331_5.length : Int))), (176, .bool (hr_252_5 != (hr_331_5.length : Int))), (177, .bool true)]) (by kernel_rfl) (Eq.trans (b := some [(174, .int .i64 (hr_331_5.length : Int)), (175, .bool (hr_252_5 != (hr_331_5.length : Int))), (176, .bool (hr_252_5 != (hr_331_5.length : Int))), (177, .bool (hr_252_5 != (hr_331_5.length : Int)))]) (by kernel_rfl) (by simp only [hb298])) rfl ?_
       refine m_p (k := 19) (n := 1) (fuel := 23) (L := [(178, undef)]) (by kernel_rfl) (by kernel_rfl) rfl ?_
       refine m_Q (by kernel_rfl) ?_
       refine st_unwanted (some 179) (by kernel_rfl) ?_
       refine st_end (m_after HC295 ?_)
       refine m_p (k := 21) (n := 1) (fuel := 21) (L := [(180, undef)]) (by kernel_rfl) (by kernel_rfl) rfl ?_
       refine m_Q (by kernel_rfl) ?_
       refine st_unwanted (some 181) (by kernel_rfl) ?_
       refine st_end (m_after HC295 ?_)
       refine m_p (k := 23) (n := 4) (fuel := 16) (L := [(182, undef), (183, .bool true), (184, .bool true), (185, undef)]) (by kernel_rfl) (by kernel_rfl) rfl ?_
       refine m_Q (by kernel_rfl) ?_
       refine st_unwanted (some 186) (by kernel_rfl) ?_
       refine st_end (m_after HC295 ?_)
       refine m_p (k := 28) (n := 8) (fuel := 7) (L := [(187, undef), (188, undef), (189, undef), (190, undef), (191, undef), (192, .bool true), (193, .bool true), (194, undef)]) (by kernel_rfl) (by kernel_rfl) rfl ?_
       refine m_Q (by kernel_rfl) ?_
       refine st_unwanted (some 195) (by kernel_rfl) ?_
       refine st_end (m_after HC295 ?_)
       refine m_p (k := 37) (n := 6) (fuel := 0) (L := [(196, undef), (197, undef), (198, undef), (199, undef), (200, undef), (201, .bool true)]) (by kernel_rfl) (by kernel_rfl) rfl ?_
       refine m_end ?_
       refine cut_fr 269 [(1, .slice A l.length cA), (2, .slice B raw.length cB), (7, .pointer (some ⟨r16, 0, none⟩)), (9, .pointer (some ⟨r29, 0, none⟩)), (11, .int .i64 s11_2), (201, .bool true)] (by kernel_rfl) (by kernel_rfl) ?_
       intro Tf
       refine c_true (by kernel_rfl) ?_
       refine wp_seq ?_
       refine c_region (L := [0]) (by kernel_rfl) ?_
       refine st_pure (l := [0]) (rest := []) (L := [(6, .bool false)]) rfl (by kernel_rfl) ?_
       refine st_end ?_
       refine then_n ?_
       refine wp_ret ?_
       refine blk_r ?_
       refine then_r ?_
       refine hQ _ (.bool false) _ (pureRun_run _ (by kernel_rfl) _) ?_
       replace HM := ((((((((HM.tr0 m216).tr0 m219).trans m222 (by intro k h1 h3; (try simp only [Iv] at h3 ⊢); omega)).tr0 m228).tr0 m231).trans m234 (by intro k h1 h3; (try simp only [Iv] at h3 ⊢); omega)).tr0 HGw235).tr0 m294)
       refine ⟨false, ?_, rfl, HM⟩
       ·rw [lawLS_j3]
        try simp only [dx45]
        try simp only [hsp51]
        try simp only [hsp65]
        try simp only [hJ110]
        try simp only [hJ210]
        try simp only [hsp214]
        try simp only [hsp226]
        rw [if_neg h239, if_neg h242, if_neg h288, if_pos h297]
        all_goals (try rfl)
      ·skip
       have hb299 : (hr_252_5 != (hr_331_5.length : Int)) = false := by rw [bne_eq_false_iff_eq]; exact Decidable.not_not.1 h297
       refine m_p (k := 15) (n := 4) (fuel := 24) (L := [(174, .int .i64 (hr_331_5.length : Int)), (175, .bool (hr_252_5 != (hr_331_5.length : Int))), (176, .bool (hr_252_5 != (hr_331_5.length : Int))), (177, .bool false)]) (by kernel_rfl) (Eq.trans (b := some [(174, .int .i64 (hr_331_5.length : Int)), (175, .bool (hr_252_5 != (hr_331_5.length : Int))), (176, .bool (hr_252_5 != (hr_331_5.length : Int))), (177, .bool (hr_252_5 != (hr_331_5.length : Int)))]) (by kernel_rfl) (by simp only [hb299])) rfl ?_
       refine m_p (k := 19) (n := 1) (fuel := 23) (L := [(178, .pointer (some ⟨r16, 0, none⟩))]) (by kernel_rfl) (by kernel_rfl) rfl ?_
       refine m_Q (by kernel_rfl) ?_
       replace hr_25 := (hr_25.mod m294 (fun q => q))
       refine st_fn (d := 179) (f := 27) (xs := #[.pointer (some ⟨r16, 0, none⟩)]) (R := _) (by kernel_rfl) (Room_ok (w := w292) (r := r16) (A := Ahr_250_5) (cA := chr_250_5) (ring := hr_250_5) (fr := hr_251_5) (ct := hr_252_5) (mk := hr_253_5) (en := hr_254_5) (hr := hr_25) (A_n := Ahr_250_5_n) (A_c := by first | exact Ahr_250_5_c | omega) (fr_r := by omega) (ct_r := by omega) (mk_r := by omega) (hlen := by first | omega | (simp only [List.length_append, List.length_cons, List.length_nil, List.length_take, List.length_drop, List.length_set, List.length_replicate] at *; omega))) ?_
       rintro vw300 w300 ⟨rfl, m302⟩
       have hszw300 := m302.size
       have HC303 := HC295.tr0 m302
       refine st_end (m_after HC303 ?_)
       refine m_p (k := 21) (n := 1) (fuel := 21) (L := [(180, .pointer (some ⟨r29, 0, none⟩))]) (by kernel_rfl) (by kernel_rfl) rfl ?_
       refine m_Q (by kernel_rfl) ?_
       replace hr_33 := ((((((hr_33.mod m228 (fun q => q)).mod m231 (fun q => q)).mod m234 (by intro h3; (try simp only [Iv] at h3); omega)).mod HGw235 (fun q => q)).mod m294 (fun q => q)).mod m302 (fun q => q))
       refine st_fn (d := 181) (f := 28) (xs := #[.pointer (some ⟨r29, 0, none⟩)]) (R := _) (by kernel_rfl) (rRoom_ok (w := w300) (r := r29) (A := Ahr_331_5) (cA := chr_331_5) (ml := hr_331_5) (mo := room) (mk := hr_332_5) (en := hr_333_5) (hr := hr_33) (mo_r := by omega) (A_n := Ahr_331_5_n) (A_c := by first | exact Ahr_331_5_c | omega) (mk_r := by omega) (hlen := by first | omega | (simp only [List.length_append, List.length_cons, List.length_nil, List.length_take, List.length_drop, List.length_set, List.length_replicate] at *; omega))) ?_
       rintro vw304 w304 ⟨rfl, m306⟩
       have hszw304 := m306.size
       have HC307 := HC303.tr0 m306
       refine st_end (m_after HC307 ?_)
       by_cases h308 : ((hr_250_5.length : Int) - hr_252_5) ≠ (room - (hr_331_5.length : Int))
       ·skip
        have hb309 : (((hr_250_5.length : Int) - hr_252_5) != (room - (hr_331_5.length : Int))) = true := by first | (rw [bne_iff_ne]; exact h308) | (rw [bne_eq_false_iff_eq]; omega)
        refine m_p (k := 23) (n := 3) (fuel := 17) (L := [(182, .bool (((hr_250_5.length : Int) - hr_252_5) != (room - (hr_331_5.length : Int)))), (183, .bool (((hr_250_5.length : Int) - hr_252_5) != (room - (hr_331_5.length : Int)))), (184, .bool true)]) (by kernel_rfl) (Eq.trans (b := some [(182, .bool (((hr_250_5.length : Int) - hr_252_5) != (room - (hr_331_5.length : Int)))), (183, .bool (((hr_250_5.length : Int) - hr_252_5) != (room - (hr_331_5.length : Int)))), (184, .bool (((hr_250_5.length : Int) - hr_252_5) != (room - (hr_331_5.length : Int))))]) (by kernel_rfl) (by simp only [hb309])) rfl ?_
        refine m_p (k := 26) (n := 1) (fuel := 16) (L := [(185, undef)]) (by kernel_rfl) (by kernel_rfl) rfl ?_
        refine m_Q (by kernel_rfl) ?_
        refine st_unwanted (some 186) (by kernel_rfl) ?_
        refine st_end (m_after HC307 ?_)
        refine m_p (k := 28) (n := 8) (fuel := 7) (L := [(187, undef), (188, undef), (189, undef), (190, undef), (191, undef), (192, .bool true), (193, .bool true), (194, undef)]) (by kernel_rfl) (by kernel_rfl) rfl ?_
        refine m_Q (by kernel_rfl) ?_
        refine st_unwanted (some 195) (by kernel_rfl) ?_
        refine st_end (m_after HC307 ?_)
        refine m_p (k := 37) (n := 6) (fuel := 0) (L := [(196, undef), (197, undef), (198, undef), (199, undef), (200, undef), (201, .bool true)]) (by kernel_rfl) (by kernel_rfl) rfl ?_
        refine m_end ?_
        refine cut_fr 269 [(1, .slice A l.length cA), (2, .slice B raw.length cB), (7, .pointer (some ⟨r16, 0, none⟩)), (9, .pointer (some ⟨r29, 0, none⟩)), (11, .int .i64 s11_2), (201, .bool true)] (by kernel_rfl) (by kernel_rfl) ?_
        intro Tf
        refine c_true (by kernel_rfl) ?_
        refine wp_seq ?_
        refine c_region (L := [0]) (by kernel_rfl) ?_
        refine st_pure (l := [0]) (rest := []) (L := [(6, .bool false)]) rfl (by kernel_rfl) ?_
        refine st_end ?_
        refine then_n ?_
        refine wp_ret ?_
        refine blk_r ?_
        refine then_r ?_
        refine hQ _ (.bool false) _ (pureRun_run _ (by kernel_rfl) _) ?_
        replace HM := ((((((((((HM.tr0 m216).tr0 m219).trans m222 (by intro k h1 h3; (try simp only [Iv] at h3 ⊢); omega)).tr0 m228).tr0 m231).trans m234 (by intro k h1 h3; (try simp only [Iv] at h3 ⊢); omega)).tr0 HGw235).tr0 m294).tr0 m302).tr0 m306)
        refine ⟨false, ?_, rfl, HM⟩
        ·rw [lawLS_j3]
         try simp only [dx45]
         try simp only [hsp51]
         try simp only [hsp65]
         try simp only [hJ110]
         try simp only [hJ210]
         try simp only [hsp214]
         try simp only [hsp226]
         rw [if_neg h239, if_neg h242, if_neg h288, if_neg h297, if_pos h308]
         all_goals (try rfl)
       ·skip
        have hb310 : (((hr_250_5.length : Int) - hr_252_5) != (room - (hr_331_5.length : Int))) = false := by rw [bne_eq_false_iff_eq]; exact Decidable.not_not.1 h308
        refine m_p (k := 23) (n := 3) (fuel := 17) (L := [(182, .bool (((hr_250_5.length : Int) - hr_252_5) != (room - (hr_331_5.length : Int)))), (183, .bool (((hr_250_5.length : Int) - hr_252_5) != (room - (hr_331_5.length : Int)))), (184, .bool false)]) (by kernel_rfl) (Eq.trans (b := some [(182, .bool (((hr_250_5.length : Int) - hr_252_5) != (room - (hr_331_5.length : Int)))), (183, .bool (((hr_250_5.length : Int) - hr_252_5) != (room - (hr_331_5.length : Int)))), (184, .bool (((hr_250_5.length : Int) - hr_252_5) != (room - (hr_331_5.length : Int))))]) (by kernel_rfl) (by simp only [hb310])) rfl ?_
        refine m_p (k := 26) (n := 1) (fuel := 16) (L := [(185, .pointer (some ⟨r16, 0, none⟩))]) (by kernel_rfl) (by kernel_rfl) rfl ?_
        refine m_Q (by kernel_rfl) ?_
        replace hr_25 := ((hr_25.mod m302 (fun q => q)).mod m306 (fun q => q))
        refine st_fn (d := 186) (f := 29) (xs := #[.pointer (some ⟨r16, 0, none⟩)]) (R := _) (by kernel_rfl) (Mark_ok (w := w304) (r := r16) (A := Ahr_250_5) (cA := chr_250_5) (ring := hr_250_5) (fr := hr_251_5) (ct := hr_252_5) (mk := hr_253_5) (en := hr_254_5) (hr := hr_25) (A_n := Ahr_250_5_n) (A_c := by first | exact Ahr_250_5_c | omega) (fr_r := by omega) (ct_r := by omega) (mk_r := by omega) (hlen := by first | omega | (simp only [List.length_append, List.length_cons, List.length_nil, List.length_take, List.length_drop, List.length_set, List.length_replicate] at *; omega))) ?_
        rintro vw311 w311 ⟨rfl, m313⟩
        have hszw311 := m313.size
        have HC314 := HC307.tr0 m313
        refine st_end (m_after HC314 ?_)
        refine m_p (k := 28) (n := 3) (fuel := 12) (L := [(187, .pointer (some ⟨r29, 0, none⟩)), (188, .pointer (some ⟨r29, 0, none⟩)), (189, .pointer (some ⟨r29, 2, none⟩))]) (by kernel_rfl) (by kernel_rfl) rfl ?_
        refine m_load (d := 190) (t := 2) (b := r29) (o := 2) (v := .int .i64 hr_332_5) (by kernel_rfl) (by kernel_rfl) (fun wQ (mQ : Mod (Nil) w233 wQ) => (hr_33_b296.mod mQ (fun q => q)).sub 2) (by kernel_rfl) ?_
        by_cases h315 : hr_253_5 ≠ hr_332_5
        ·skip
         have hb316 : (hr_253_5 != hr_332_5) = true := by first | (rw [bne_iff_ne]; exact h315) | (rw [bne_eq_false_iff_eq]; omega)
         refine m_p (k := 32) (n := 3) (fuel := 8) (L := [(191, .bool (hr_253_5 != hr_332_5)), (192, .bool (hr_253_5 != hr_332_5)), (193, .bool true)]) (by kernel_rfl) (Eq.trans (b := some [(191, .bool (hr_253_5 != hr_332_5)), (192, .bool (hr_253_5 != hr_332_5)), (193, .bool (hr_253_5 != hr_332_5))]) (by kernel_rfl) (by simp only [hb316])) rfl ?_
         refine m_p (k := 35) (n := 1) (fuel := 7) (L := [(194, undef)]) (by kernel_rfl) (by kernel_rfl) rfl ?_
         refine m_Q (by kernel_rfl) ?_
         refine st_unwanted (some 195) (by kernel_rfl) ?_
         refine st_end (m_after HC314 ?_)
         refine m_p (k := 37) (n := 6) (fuel := 0) (L := [(196, undef), (197, undef), (198, undef), (199, undef), (200, undef), (201, .bool true)]) (by kernel_rfl) (by kernel_rfl) rfl ?_
         refine m_end ?_
         refine cut_fr 269 [(1, .slice A l.length cA), (2, .slice B raw.length cB), (7, .pointer (some ⟨r16, 0, none⟩)), (9, .pointer (some ⟨r29, 0, none⟩)), (11, .int .i64 s11_2), (201, .bool true)] (by kernel_rfl) (by kernel_rfl) ?_
         intro Tf
         refine c_true (by kernel_rfl) ?_
         refine wp_seq ?_
         refine c_region (L := [0]) (by kernel_rfl) ?_
         refine st_pure (l := [0]) (rest := []) (L := [(6, .bool false)]) rfl (by kernel_rfl) ?_
         refine st_end ?_
         refine then_n ?_
         refine wp_ret ?_
         refine blk_r ?_
         refine then_r ?_
         refine hQ _ (.bool false) _ (pureRun_run _ (by kernel_rfl) _) ?_
         replace HM := (((((((((((HM.tr0 m216).tr0 m219).trans m222 (by intro k h1 h3; (try simp only [Iv] at h3 ⊢); omega)).tr0 m228).tr0 m231).trans m234 (by intro k h1 h3; (try simp only [Iv] at h3 ⊢); omega)).tr0 HGw235).tr0 m294).tr0 m302).tr0 m306).tr0 m313)
         refine ⟨false, ?_, rfl, HM⟩
         ·rw [lawLS_j3]
          try simp only [dx45]
          try simp only [hsp51]
          try simp only [hsp65]
          try simp only [hJ110]
          try simp only [hJ210]
          try simp only [hsp214]
          try simp only [hsp226]
          rw [if_neg h239, if_neg h242, if_neg h288, if_neg h297, if_neg h308, if_pos h315]
          all_goals (try rfl)
        ·skip
         have hb317 : (hr_253_5 != hr_332_5) = false := by rw [bne_eq_false_iff_eq]; exact Decidable.not_not.1 h315
         refine m_p (k := 32) (n := 3) (fuel := 8) (L := [(191, .bool (hr_253_5 != hr_332_5)), (192, .bool (hr_253_5 != hr_332_5)), (193, .bool false)]) (by kernel_rfl) (Eq.trans (b := some [(191, .bool (hr_253_5 != hr_332_5)), (192, .bool (hr_253_5 != hr_332_5)), (193, .bool (hr_253_5 != hr_332_5))]) (by kernel_rfl) (by simp only [hb317])) rfl ?_
         refine m_p (k := 35) (n := 1) (fuel := 7) (L := [(194, .pointer (some ⟨r16, 0, none⟩))]) (by kernel_rfl) (by kernel_rfl) rfl ?_
         refine m_Q (by kernel_rfl) ?_
         replace hr_25 := (hr_25.mod m313 (fun q => q))
         refine st_fn (d := 195) (f := 30) (xs := #[.pointer (some ⟨r16, 0, none⟩)]) (R := _) (by kernel_rfl) (Ended_ok (w := w311) (r := r16) (A := Ahr_250_5) (cA := chr_250_5) (ring := hr_250_5) (fr := hr_251_5) (ct := hr_252_5) (mk := hr_253_5) (en := hr_254_5) (hr := hr_25) (A_n := Ahr_250_5_n) (A_c := by first | exact Ahr_250_5_c | omega) (fr_r := by omega) (ct_r := by omega) (mk_r := by omega) (hlen := by first | omega | (simp only [List.length_append, List.length_cons, List.length_nil, List.length_take, List.length_drop, List.length_set, List.length_replicate] at *; omega))) ?_
         rintro vw318 w318 ⟨hv319, m320⟩
         have hszw318 := m320.size
         have HC321 := HC314.tr0 m320
         refine st_end (m_after HC321 ?_)
         by_cases h322 : hr_254_5 = true
         ·skip
          have hb323 : (hr_254_5) = true := by simpa using h322
          rw [hb323] at hv319; subst hv319
          refine m_p (k := 37) (n := 3) (fuel := 3) (L := [(196, .pointer (some ⟨r29, 0, none⟩)), (197, .pointer (some ⟨r29, 0, none⟩)), (198, .pointer (some ⟨r29, 3, none⟩))]) (by kernel_rfl) (by kernel_rfl) rfl ?_
          by_cases h324 : hr_333_5 = true
          ·skip
           have hb325 : (hr_333_5) = true := by simpa using h324
           refine m_load (d := 199) (t := 4) (b := r29) (o := 3) (v := .bool true) (by kernel_rfl) (by kernel_rfl) (fun wQ (mQ : Mod (Nil) w233 wQ) => (hr_33_b296.mod mQ (fun q => q)).sub 3) (Eq.trans (b := some (.bool hr_333_5)) (by kernel_rfl) (by rw [hb325])) ?_
           refine m_p (k := 41) (n := 2) (fuel := 0) (L := [(200, .bool false), (201, .bool false)]) (by kernel_rfl) (by kernel_rfl) rfl ?_
           refine m_end ?_
           refine cut_fr 269 [(1, .slice A l.length cA), (2, .slice B raw.length cB), (7, .pointer (some ⟨r16, 0, none⟩)), (9, .pointer (some ⟨r29, 0, none⟩)), (11, .int .i64 s11_2), (201, .bool false)] (by kernel_rfl) (by kernel_rfl) ?_
           intro Tf
           refine c_false (by kernel_rfl) ?_
           refine wp_skip ?_
           refine blk_n ?_
           refine then_n ?_
           replace HM := ((((((((((((HM.tr0 m216).tr0 m219).trans m222 (by intro k h1 h3; (try simp only [Iv] at h3 ⊢); omega)).tr0 m228).tr0 m231).trans m234 (by intro k h1 h3; (try simp only [Iv] at h3 ⊢); omega)).tr0 HGw235).tr0 m294).tr0 m302).tr0 m306).tr0 m313).tr0 m320)
           replace hl := ((((((((((((hl.mod0 m216).mod0 m219).mod m222 (by intro k h1 h2 h3; (try simp only [Iv] at h3); omega)).mod0 m228).mod0 m231).mod m234 (by intro k h1 h2 h3; (try simp only [Iv] at h3); omega)).mod0 HGw235).mod0 m294).mod0 m302).mod0 m306).mod0 m313).mod0 m320)
           replace hm := ((((((((((((hm.mod0 m216).mod0 m219).mod m222 (by intro k h1 h2 h3; (try simp only [Iv] at h3); omega)).mod0 m228).mod0 m231).mod m234 (by intro k h1 h2 h3; (try simp only [Iv] at h3); omega)).mod0 HGw235).mod0 m294).mod0 m302).mod0 m306).mod0 m313).mod0 m320)
           replace hr_25 := (hr_25.mod m320 (fun q => q))
           replace hr_33 := (((hr_33.mod m306 (fun q => q)).mod m313 (fun q => q)).mod m320 (fun q => q))
           replace hO_hr_250_5 := ((((((((((((hO_hr_250_5.mod0 m216).mod0 m219).mod m222 (by intro k h1 h2 h3; (try simp only [Iv] at h3); omega)).mod0 m228).mod0 m231).mod m234 (by intro k h1 h2 h3; (try simp only [Iv] at h3); omega)).mod0 HGw235).mod0 m294).mod0 m302).mod0 m306).mod0 m313).mod0 m320)
           replace hR_hr_250_5 := ((((((((((((hR_hr_250_5.mod0 m216).mod0 m219).mod m222 (by intro k h1 h2 h3; (try simp only [Iv] at h3); omega)).mod0 m228).mod0 m231).mod m234 (by intro k h1 h2 h3; (try simp only [Iv] at h3); omega)).mod0 HGw235).mod0 m294).mod0 m302).mod0 m306).mod0 m313).mod0 m320)
           replace hO_hr_331_5 := ((((((((((((hO_hr_331_5.mod0 m216).mod0 m219).mod m222 (by intro k h1 h2 h3; (try simp only [Iv] at h3); omega)).mod0 m228).mod0 m231).mod m234 (by intro k h1 h2 h3; (try simp only [Iv] at h3); omega)).mod0 HGw235).mod0 m294).mod0 m302).mod0 m306).mod0 m313).mod0 m320)
           replace hR_hr_331_5 := (((((((((hR_hr_331_5.mod0 m228).mod0 m231).mod m234 (by intro k h1 h2 h3; (try simp only [Iv] at h3); omega)).mod0 HGw235).mod0 m294).mod0 m302).mod0 m306).mod0 m313).mod0 m320)
           refine ⟨Ahr_250_5, chr_250_5, hr_250_5, hr_251_5, hr_252_5, hr_253_5, hr_254_5, Ahr_331_5, chr_331_5, hr_331_5, hr_332_5, hr_333_5, lohr_331_5, hihr_331_5, ?_, Fr.mk (by kernel_rfl) (by kernel_rfl), HM, by omega, hl, hm, hr_25, hr_33, hO_hr_250_5, hR_hr_250_5, hO_hr_331_5, hR_hr_331_5, ?_, ?_, ?_, ?_, ?_, ?_, ?_, ?_, ?_, ?_, ?_, trivial⟩
           ·rw [lawLS_j3]
            try simp only [dx45]
            try simp only [hsp51]
            try simp only [hsp65]
            try simp only [hJ110]
            try simp only [hJ210]
            try simp only [hsp214]
            try simp only [hsp226]
            rw [if_neg h239, if_neg h242, if_neg h288, if_neg h297, if_neg h308, if_neg h315, if_pos h322, if_pos h324]
            all_goals (try rfl)
           ·omega
           ·omega
           ·omega
           ·omega
           ·exact Ahr_250_5_n
           ·first | exact Ahr_250_5_c | omega
           ·omega
           ·exact Ahr_331_5_n
           ·first | exact Ahr_331_5_c | omega
           ·first | omega | (simp only [List.length_append, List.length_cons, List.length_nil, List.length_take, List.length_drop, List.length_set, List.length_replicate] at *; omega)
           ·first | omega | (simp only [List.length_append, List.length_cons, List.length_nil, List.length_take, List.length_drop, List.length_set, List.length_replicate] at *; omega)
          ·skip
           have hb326 : (hr_333_5) = false := by simpa using h324
           refine m_load (d := 199) (t := 4) (b := r29) (o := 3) (v := .bool false) (by kernel_rfl) (by kernel_rfl) (fun wQ (mQ : Mod (Nil) w233 wQ) => (hr_33_b296.mod mQ (fun q => q)).sub 3) (Eq.trans (b := some (.bool hr_333_5)) (by kernel_rfl) (by rw [hb326])) ?_
           refine m_p (k := 41) (n := 2) (fuel := 0) (L := [(200, .bool true), (201, .bool true)]) (by kernel_rfl) (by kernel_rfl) rfl ?_
           refine m_end ?_
           refine cut_fr 269 [(1, .slice A l.length cA), (2, .slice B raw.length cB), (7, .pointer (some ⟨r16, 0, none⟩)), (9, .pointer (some ⟨r29, 0, none⟩)), (11, .int .i64 s11_2), (201, .bool true)] (by kernel_rfl) (by kernel_rfl) ?_
           intro Tf
           refine c_true (by kernel_rfl) ?_
           refine wp_seq ?_
           refine c_region (L := [0]) (by kernel_rfl) ?_
           refine st_pure (l := [0]) (rest := []) (L := [(6, .bool false)]) rfl (by kernel_rfl) ?_
           refine st_end ?_
           refine then_n ?_
           refine wp_ret ?_
           refine blk_r ?_
           refine then_r ?_
           refine hQ _ (.bool false) _ (pureRun_run _ (by kernel_rfl) _) ?_
           replace HM := ((((((((((((HM.tr0 m216).tr0 m219).trans m222 (by intro k h1 h3; (try simp only [Iv] at h3 ⊢); omega)).tr0 m228).tr0 m231).trans m234 (by intro k h1 h3; (try simp only [Iv] at h3 ⊢); omega)).tr0 HGw235).tr0 m294).tr0 m302).tr0 m306).tr0 m313).tr0 m320)
           refine ⟨false, ?_, rfl, HM⟩
           ·rw [lawLS_j3]
            try simp only [dx45]
            try simp only [hsp51]
            try simp only [hsp65]
            try simp only [hJ110]
            try simp only [hJ210]
            try simp only [hsp214]
            try simp only [hsp226]
            rw [if_neg h239, if_neg h242, if_neg h288, if_neg h297, if_neg h308, if_neg h315, if_pos h322, if_neg h324]
            all_goals (try rfl)
         ·skip
          have hb327 : (hr_254_5) = false := by simpa using h322
          rw [hb327] at hv319; subst hv319
          refine m_p (k := 37) (n := 3) (fuel := 3) (L := [(196, .pointer (some ⟨r29, 0, none⟩)), (197, .pointer (some ⟨r29, 0, none⟩)), (198, .pointer (some ⟨r29, 3, none⟩))]) (by kernel_rfl) (by kernel_rfl) rfl ?_
          by_cases h328 : hr_333_5 = true
          ·skip
           have hb329 : (hr_333_5) = true := by simpa using h328
           refine m_load (d := 199) (t := 4) (b := r29) (o := 3) (v := .bool true) (by kernel_rfl) (by kernel_rfl) (fun wQ (mQ : Mod (Nil) w233 wQ) => (hr_33_b296.mod mQ (fun q => q)).sub 3) (Eq.trans (b := some (.bool hr_333_5)) (by kernel_rfl) (by rw [hb329])) ?_
           refine m_p (k := 41) (n := 2) (fuel := 0) (L := [(200, .bool true), (201, .bool true)]) (by kernel_rfl) (by kernel_rfl) rfl ?_
           refine m_end ?_
           refine cut_fr 269 [(1, .slice A l.length cA), (2, .slice B raw.length cB), (7, .pointer (some ⟨r16, 0, none⟩)), (9, .pointer (some ⟨r29, 0, none⟩)), (11, .int .i64 s11_2), (201, .bool true)] (by kernel_rfl) (by kernel_rfl) ?_
           intro Tf
           refine c_true (by kernel_rfl) ?_
           refine wp_seq ?_
           refine c_region (L := [0]) (by kernel_rfl) ?_
           refine st_pure (l := [0]) (rest := []) (L := [(6, .bool false)]) rfl (by kernel_rfl) ?_
           refine st_end ?_
           refine then_n ?_
           refine wp_ret ?_
           refine blk_r ?_
           refine then_r ?_
           refine hQ _ (.bool false) _ (pureRun_run _ (by kernel_rfl) _) ?_
           replace HM := ((((((((((((HM.tr0 m216).tr0 m219).trans m222 (by intro k h1 h3; (try simp only [Iv] at h3 ⊢); omega)).tr0 m228).tr0 m231).trans m234 (by intro k h1 h3; (try simp only [Iv] at h3 ⊢); omega)).tr0 HGw235).tr0 m294).tr0 m302).tr0 m306).tr0 m313).tr0 m320)
           refine ⟨false, ?_, rfl, HM⟩
           ·rw [lawLS_j3]
            try simp only [dx45]
            try simp only [hsp51]
            try simp only [hsp65]
            try simp only [hJ110]
            try simp only [hJ210]
            try simp only [hsp214]
            try simp only [hsp226]
            rw [if_neg h239, if_neg h242, if_neg h288, if_neg h297, if_neg h308, if_neg h315, if_neg h322, if_pos h328]
            all_goals (try rfl)
          ·skip
           have hb330 : (hr_333_5) = false := by simpa using h328
           refine m_load (d := 199) (t := 4) (b := r29) (o := 3) (v := .bool false) (by kernel_rfl) (by kernel_rfl) (fun wQ (mQ : Mod (Nil) w233 wQ) => (hr_33_b296.mod mQ (fun q => q)).sub 3) (Eq.trans (b := some (.bool hr_333_5)) (by kernel_rfl) (by rw [hb330])) ?_
           refine m_p (k := 41) (n := 2) (fuel := 0) (L := [(200, .bool false), (201, .bool false)]) (by kernel_rfl) (by kernel_rfl) rfl ?_
           refine m_end ?_
           refine cut_fr 269 [(1, .slice A l.length cA), (2, .slice B raw.length cB), (7, .pointer (some ⟨r16, 0, none⟩)), (9, .pointer (some ⟨r29, 0, none⟩)), (11, .int .i64 s11_2), (201, .bool false)] (by kernel_rfl) (by kernel_rfl) ?_
           intro Tf
           refine c_false (by kernel_rfl) ?_
           refine wp_skip ?_
           refine blk_n ?_
           refine then_n ?_
           replace HM := ((((((((((((HM.tr0 m216).tr0 m219).trans m222 (by intro k h1 h3; (try simp only [Iv] at h3 ⊢); omega)).tr0 m228).tr0 m231).trans m234 (by intro k h1 h3; (try simp only [Iv] at h3 ⊢); omega)).tr0 HGw235).tr0 m294).tr0 m302).tr0 m306).tr0 m313).tr0 m320)
           replace hl := ((((((((((((hl.mod0 m216).mod0 m219).mod m222 (by intro k h1 h2 h3; (try simp only [Iv] at h3); omega)).mod0 m228).mod0 m231).mod m234 (by intro k h1 h2 h3; (try simp only [Iv] at h3); omega)).mod0 HGw235).mod0 m294).mod0 m302).mod0 m306).mod0 m313).mod0 m320)
           replace hm := ((((((((((((hm.mod0 m216).mod0 m219).mod m222 (by intro k h1 h2 h3; (try simp only [Iv] at h3); omega)).mod0 m228).mod0 m231).mod m234 (by intro k h1 h2 h3; (try simp only [Iv] at h3); omega)).mod0 HGw235).mod0 m294).mod0 m302).mod0 m306).mod0 m313).mod0 m320)
           replace hr_25 := (hr_25.mod m320 (fun q => q))
           replace hr_33 := (((hr_33.mod m306 (fun q => q)).mod m313 (fun q => q)).mod m320 (fun q => q))
           replace hO_hr_250_5 := ((((((((((((hO_hr_250_5.mod0 m216).mod0 m219).mod m222 (by intro k h1 h2 h3; (try simp only [Iv] at h3); omega)).mod0 m228).mod0 m231).mod m234 (by intro k h1 h2 h3; (try simp only [Iv] at h3); omega)).mod0 HGw235).mod0 m294).mod0 m302).mod0 m306).mod0 m313).mod0 m320)
           replace hR_hr_250_5 := ((((((((((((hR_hr_250_5.mod0 m216).mod0 m219).mod m222 (by intro k h1 h2 h3; (try simp only [Iv] at h3); omega)).mod0 m228).mod0 m231).mod m234 (by intro k h1 h2 h3; (try simp only [Iv] at h3); omega)).mod0 HGw235).mod0 m294).mod0 m302).mod0 m306).mod0 m313).mod0 m320)
           replace hO_hr_331_5 := ((((((((((((hO_hr_331_5.mod0 m216).mod0 m219).mod m222 (by intro k h1 h2 h3; (try simp only [Iv] at h3); omega)).mod0 m228).mod0 m231).mod m234 (by intro k h1 h2 h3; (try simp only [Iv] at h3); omega)).mod0 HGw235).mod0 m294).mod0 m302).mod0 m306).mod0 m313).mod0 m320)
           replace hR_hr_331_5 := (((((((((hR_hr_331_5.mod0 m228).mod0 m231).mod m234 (by intro k h1 h2 h3; (try simp only [Iv] at h3); omega)).mod0 HGw235).mod0 m294).mod0 m302).mod0 m306).mod0 m313).mod0 m320)
           refine ⟨Ahr_250_5, chr_250_5, hr_250_5, hr_251_5, hr_252_5, hr_253_5, hr_254_5, Ahr_331_5, chr_331_5, hr_331_5, hr_332_5, hr_333_5, lohr_331_5, hihr_331_5, ?_, Fr.mk (by kernel_rfl) (by kernel_rfl), HM, by omega, hl, hm, hr_25, hr_33, hO_hr_250_5, hR_hr_250_5, hO_hr_331_5, hR_hr_331_5, ?_, ?_, ?_, ?_, ?_, ?_, ?_, ?_, ?_, ?_, ?_, trivial⟩
           ·rw [lawLS_j3]
            try simp only [dx45]
            try simp only [hsp51]
            try simp only [hsp65]
            try simp only [hJ110]
            try simp only [hJ210]
            try simp only [hsp214]
            try simp only [hsp226]
            rw [if_neg h239, if_neg h242, if_neg h288, if_neg h297, if_neg h308, if_neg h315, if_neg h322, if_neg h328]
            all_goals (try rfl)
           ·omega
           ·omega
           ·omega
           ·omega
           ·exact Ahr_250_5_n
           ·first | exact Ahr_250_5_c | omega
           ·omega
           ·exact Ahr_331_5_n
           ·first | exact Ahr_331_5_c | omega
           ·first | omega | (simp only [List.length_append, List.length_cons, List.length_nil, List.length_take, List.length_drop, List.length_set, List.length_replicate] at *; omega)
           ·first | omega | (simp only [List.length_append, List.length_cons, List.length_nil, List.length_take, List.length_drop, List.length_set, List.length_replicate] at *; omega)

theorem LinkScript_ok_b1 {w : World} {w30 : World} {room : Int} {A : Option Addr} {cA : Nat} {l : List LAct} {lo : Nat} {hi : Nat} {B : Option Addr} {cB : Nat} {raw : List UInt8} {lo' : Nat} {hi' : Nat} {r16 : Nat} {A17 : Option Addr} {c18 : Nat} {lo19 : Nat} {hi20 : Nat} {r29 : Nat} {Q : Exit → Act → World → Prop} (hl : RdA tyLAct w30 lo hi A l) (hm : RdA tyU8 w30 lo' hi' B raw) (hr_25 : Blk w30 r16 147 [.slice A17 ((List.replicate room.toNat Msg.zero).length) c18, .int .i64 0, .int .i64 0, .int .i64 0, .bool false]) (hO_26 : Own tyMsg 35 w30 lo19 hi20 (.slice A17 (List.replicate room.toNat Msg.zero).length c18) (List.replicate room.toNat Msg.zero)) (hr_33 : Blk w30 r29 47 [.int .i64 room, .slice none 0 0, .int .i64 0, .bool false]) (HM : Mod (Nil) w w30) (A_n : A = none → cA = 0) (A_c : l.length ≤ cA) (B_n : B = none → cB = 0) (B_c : raw.length ≤ cB) (A17_n : A17 = none → c18 = 0) (A17_c : (List.replicate room.toNat Msg.zero).length ≤ c18) (hI6 : 0 ≤ room ∧ room ≤ 4096) (hu_hl : hi ≤ w30.heap.size) (hu_hm : hi' ≤ w30.heap.size) (lt_hr_25 : r16 < w30.heap.size) (hu_hO_26 : hi20 ≤ w30.heap.size) (hv_hO_26 : lo19 ≤ w30.heap.size) (lt_hr_33 : r29 < w30.heap.size) (hW0 : w.heap.size ≤ w30.heap.size) (ho_14 : hi ≤ w.heap.size) (ho_15 : hi' ≤ w.heap.size) (ho_16 : w.heap.size ≤ r16) (ho_17 : w.heap.size ≤ lo19) (ho_18 : w.heap.size ≤ r29) (hs_19 : hi20 ≤ r16 ∨ r16 < lo19) (hs_20 : r29 ≠ r16) (hs_21 : hi20 ≤ r29 ∨ r29 < lo19) (hv_22 : (List.replicate room.toNat Msg.zero).length ≤ 4096 ∧ 0 < (List.replicate room.toNat Msg.zero).length ∧ 0 < (List.replicate room.toNat Msg.zero).length ∧ 0 ≤ (List.replicate room.toNat Msg.zero).length) (hv_23 : ([] : List Nat).length ≤ 4096) (h8 : ¬ ((l.length : Int) > 100)) (h11 : ¬ ((raw.length : Int) > 600)) (h14 : 1 ≤ room ∧ room ≤ 4096) (hQ : ∀ T v w', (results Try.f3 T).run Try.prog w' = .ok v w' → (∃ d : Bool, lawLS_j1 room l = .inl d ∧ v = .bool d ∧ Mod (Nil) w w') → Q .ret ⟨T, []⟩ w') (Tf : Nat → Value) :
  (bodyC Try.f3 [1, 1, 1, 1, 1, 1, 0]).wp Try.prog (Exit.then (fun a w' => ∃ Ahr_250_1 : Option Addr, ∃ chr_250_1 : Nat, ∃ hr_250_1 : List Msg, ∃ hr_251_1 : Int, ∃ hr_252_1 : Int, ∃ hr_253_1 : Int, ∃ hr_254_1 : Bool, ∃ Ahr_331_1 : Option Addr, ∃ chr_331_1 : Nat, ∃ hr_331_1 : List Msg, ∃ hr_332_1 : Int, ∃ hr_333_1 : Bool, ∃ lohr_331_1 : Nat, ∃ hihr_331_1 : Nat, lawLS_j1 room l = .inr (hr_250_1, hr_251_1, hr_252_1, hr_253_1, hr_254_1, hr_331_1, hr_332_1, hr_333_1) ∧ Fr 269 [(2, .slice B raw.length cB), (7, .pointer (some ⟨r16, 0, none⟩)), (9, .pointer (some ⟨r29, 0, none⟩))] a ∧ Mod (Nil) w w' ∧ w30.heap.size ≤ w'.heap.size ∧ RdA tyLAct w' lo hi A l ∧ RdA tyU8 w' lo' hi' B raw ∧ Blk w' r16 147 [.slice Ahr_250_1 hr_250_1.length chr_250_1, .int .i64 hr_251_1, .int .i64 hr_252_1, .int .i64 hr_253_1, .bool hr_254_1] ∧ Blk w' r29 47 [.int .i64 room, .slice Ahr_331_1 hr_331_1.length chr_331_1, .int .i64 hr_332_1, .bool hr_333_1] ∧ Own tyMsg 35 w' lo19 hi20 (.slice Ahr_250_1 hr_250_1.length chr_250_1) hr_250_1 ∧ RdA tyMsg w' lo19 hi20 Ahr_250_1 hr_250_1 ∧ Own tyMsg 35 w' lohr_331_1 hihr_331_1 (.slice Ahr_331_1 hr_331_1.length chr_331_1) hr_331_1 ∧ RdA tyMsg w' lohr_331_1 hihr_331_1 Ahr_331_1 hr_331_1 ∧ (0 ≤ hr_251_1 ∧ hr_251_1 ≤ 4096) ∧ (0 ≤ hr_252_1 ∧ hr_252_1 ≤ 4096) ∧ (-9223372036854775808 ≤ hr_253_1 ∧ hr_253_1 ≤ 9223372036854775807) ∧ (-9223372036854775808 ≤ hr_332_1 ∧ hr_332_1 ≤ 9223372036854775807) ∧ (Ahr_250_1 = none → chr_250_1 = 0) ∧ (hr_250_1.length ≤ chr_250_1) ∧ (w30.heap.size ≤ lohr_331_1 ∧ lohr_331_1 ≤ hihr_331_1 ∧ hihr_331_1 ≤ w'.heap.size) ∧ (Ahr_331_1 = none → chr_331_1 = 0) ∧ (hr_331_1.length ≤ chr_331_1) ∧ (hr_250_1.length ≤ 4096 ∧ 0 < hr_250_1.length ∧ hr_251_1 < hr_250_1.length ∧ hr_252_1 ≤ hr_250_1.length) ∧ (hr_331_1.length ≤ 4096) ∧ True) Q) ⟨puts (mkT 269 Tf) [(1, .slice A l.length cA), (2, .slice B raw.length cB), (7, .pointer (some ⟨r16, 0, none⟩)), (9, .pointer (some ⟨r29, 0, none⟩))], []⟩ w30 := by
 have hl_l := hl.len
 have hm_l := hm.len
 have hO_26_b := hO_26.bounds
 refine wp_seq ?_
 refine c_region (L := [0]) (by kernel_rfl) ?_
 refine st_pure (l := [0]) (rest := []) (L := [(11, .int .i64 0)]) rfl (by kernel_rfl) ?_
 refine st_end ?_
 refine then_n ?_
 refine wp_block ?_
 refine c_loop (σ := Nat × Int × Option Addr × Nat × List Msg × Int × Int × Int × Bool × Option Addr × Nat × List Msg × Int × Bool × Nat × Nat) (fun s a w' => match s with | ⟨k_2, s11_2, Ahr_250_2, chr_250_2, hr_250_2, hr_251_2, hr_252_2, hr_253_2, hr_254_2, Ahr_331_2, chr_331_2, hr_331_2, hr_332_2, hr_333_2, lohr_331_2, hihr_331_2⟩ => lawLS_l2 room l k_2 s11_2 hr_250_2 hr_251_2 hr_252_2 hr_253_2 hr_254_2 hr_331_2 hr_332_2 hr_333_2 = lawLS_l2 room l (((l.length : Int) - 0).toNat + 1) 0 (List.replicate room.toNat Msg.zero) 0 0 0 false ([]) 0 false ∧ ((l.length : Int) - s11_2).toNat < k_2 ∧ Fr 269 [(1, .slice A l.length cA), (2, .slice B raw.length cB), (7, .pointer (some ⟨r16, 0, none⟩)), (9, .pointer (some ⟨r29, 0, none⟩)), (11, .int .i64 s11_2)] a ∧ Mod (Nil) w w' ∧ w30.heap.size ≤ w'.heap.size ∧ RdA tyLAct w' lo hi A l ∧ RdA tyU8 w' lo' hi' B raw ∧ Blk w' r16 147 [.slice Ahr_250_2 hr_250_2.length chr_250_2, .int .i64 hr_251_2, .int .i64 hr_252_2, .int .i64 hr_253_2, .bool hr_254_2] ∧ Blk w' r29 47 [.int .i64 room, .slice Ahr_331_2 hr_331_2.length chr_331_2, .int .i64 hr_332_2, .bool hr_333_2] ∧ Own tyMsg 35 w' lo19 hi20 (.slice Ahr_250_2 hr_250_2.length chr_250_2) hr_250_2 ∧ RdA tyMsg w' lo19 hi20 Ahr_250_2 hr_250_2 ∧ Own tyMsg 35 w' lohr_331_2 hihr_331_2 (.slice Ahr_331_2 hr_331_2.length chr_331_2) hr_331_2 ∧ RdA tyMsg w' lohr_331_2 hihr_331_2 Ahr_331_2 hr_331_2 ∧ (0 ≤ s11_2 ∧ s11_2 ≤ (l.length : Int)) ∧ (0 ≤ hr_251_2 ∧ hr_251_2 ≤ 4096) ∧ (0 ≤ hr_252_2 ∧ hr_252_2 ≤ 4096) ∧ (-9223372036854775808 ≤ hr_253_2 ∧ hr_253_2 ≤ 9223372036854775807) ∧ (-9223372036854775808 ≤ hr_332_2 ∧ hr_332_2 ≤ 9223372036854775807) ∧ (Ahr_250_2 = none → chr_250_2 = 0) ∧ (hr_250_2.length ≤ chr_250_2) ∧ (w30.heap.size ≤ lohr_331_2 ∧ lohr_331_2 ≤ hihr_331_2 ∧ hihr_331_2 ≤ w'.heap.size) ∧ (Ahr_331_2 = none → chr_331_2 = 0) ∧ (hr_331_2.length ≤ chr_331_2) ∧ (hr_250_2.length ≤ 4096 ∧ 0 < hr_250_2.length ∧ hr_251_2 < hr_250_2.length ∧ hr_252_2 ≤ hr_250_2.length) ∧ (hr_331_2.length ≤ 4096) ∧ (hr_250_2.length ≤ 4096 ∧ 0 < hr_250_2.length ∧ hr_251_2 < hr_250_2.length ∧ hr_252_2 ≤ hr_250_2.length) ∧ (hr_331_2.length ≤ 4096) ∧ True) (fun s => s.1) (((l.length : Int) - 0).toNat + 1, 0, A17, c18, List.replicate room.toNat Msg.zero, 0, 0, 0, false, none, 0, [], 0, false, w30.heap.size, w30.heap.size) ?_ ?_
 ·refine ⟨rfl, by omega, Fr.mk (by kernel_rfl) (by kernel_rfl), HM, by omega, hl, hm, hr_25, hr_33, hO_26, (hO_26.rdSelf.2.2.2), Own.nil, RdA.nil, ?_, ?_, ?_, ?_, ?_, ?_, ?_, ?_, ?_, ?_, ?_, ?_, ?_, ?_, trivial⟩
  ·omega
  ·omega
  ·omega
  ·omega
  ·omega
  ·exact A17_n
  ·first | exact A17_c | omega
  ·omega
  ·exact fun _ => rfl
  ·exact Nat.zero_le _
  ·first | omega | (simp only [List.length_append, List.length_cons, List.length_nil, List.length_take, List.length_drop, List.length_set, List.length_replicate] at *; omega)
  ·first | omega | (simp only [List.length_append, List.length_cons, List.length_nil, List.length_take, List.length_drop, List.length_set, List.length_replicate] at *; omega)
  ·first | omega | (simp only [List.length_append, List.length_cons, List.length_nil, List.length_take, List.length_drop, List.length_set, List.length_replicate] at *; omega)
  ·first | omega | (simp only [List.length_append, List.length_cons, List.length_nil, List.length_take, List.length_drop, List.length_set, List.length_replicate] at *; omega)
 ·rintro ⟨k_2, s11_2, Ahr_250_2, chr_250_2, hr_250_2, hr_251_2, hr_252_2, hr_253_2, hr_254_2, Ahr_331_2, chr_331_2, hr_331_2, hr_332_2, hr_333_2, lohr_331_2, hihr_331_2⟩ a w35 ⟨hL36, hk37, ⟨Tf, rfl⟩, HM', hszw35, hl', hm', hr_25', hr_33', hO_hr_250_2', hR_hr_250_2', hO_hr_331_2', hR_hr_331_2', s11_2_r, hr_251_2_r, hr_252_2_r, hr_253_2_r, hr_332_2_r, Ahr_250_2_n, Ahr_250_2_c, hrg_hr_331_2, Ahr_331_2_n, Ahr_331_2_c, hi0_2, hi1_2, hi2_2, hi3_2, -⟩
  clear HM hl hm hr_25 hO_26 hr_33
  have HM := HM'; clear HM'
  have hl := hl'; clear hl'
  have hm := hm'; clear hm'
  have hr_25 := hr_25'; clear hr_25'
  have hr_33 := hr_33'; clear hr_33'
  have hO_hr_250_2 := hO_hr_250_2'; clear hO_hr_250_2'
  have hR_hr_250_2 := hR_hr_250_2'; clear hR_hr_250_2'
  have hO_hr_331_2 := hO_hr_331_2'; clear hO_hr_331_2'
  have hR_hr_331_2 := hR_hr_331_2'; clear hR_hr_331_2'
  have hl_l := hl.len
  have hm_l := hm.len
  have hO_hr_250_2_b := hO_hr_250_2.bounds
  have hR_hr_250_2_l := hR_hr_250_2.len
  have hO_hr_331_2_b := hO_hr_331_2.bounds
  have hR_hr_331_2_l := hR_hr_331_2.len
  obtain ⟨k_2, rfl⟩ : ∃ k, k_2 = k + 1 := ⟨k_2 - 1, by omega⟩
  refine wp_seq ?_
  refine wp_seq ?_
  refine c_region (L := [0, 1, 2, 3, 4, 5, 6, 7]) (by kernel_rfl) ?_
  by_cases h39 : s11_2 < (l.length : Int)
  ·skip
   have hb40 : (decide (s11_2 < (l.length : Int))) = true := decide_eq_true h39
   refine st_pure (l := [0, 1, 2, 3, 4]) (rest := [5, 6, 7]) (L := [(59, .int .i64 s11_2), (60, .slice A l.length cA), (61, .int .i64 (l.length : Int)), (62, .bool (decide (s11_2 < (l.length : Int)))), (63, .bool true)]) rfl (Eq.trans (b := some [(59, .int .i64 s11_2), (60, .slice A l.length cA), (61, .int .i64 (l.length : Int)), (62, .bool (decide (s11_2 < (l.length : Int)))), (63, .bool (decide (s11_2 < (l.length : Int))))]) (by kernel_rfl) (by simp only [hb40])) ?_
   refine st_pure (l := [5, 6, 7]) (rest := []) (L := [(64, .pointer (some ⟨r29, 0, none⟩)), (65, .bool true), (66, .bool true)]) rfl (by kernel_rfl) ?_
   refine st_end ?_
   refine then_n ?_
   refine c_true (by kernel_rfl) ?_
   refine wp_skip ?_
   refine then_n ?_
   refine wp_seq ?_
   refine c_cut (J := fun a w' => ∃ Ahr_250_3 : Option Addr, ∃ chr_250_3 : Nat, ∃ hr_250_3 : List Msg, ∃ hr_251_3 : Int, ∃ hr_252_3 : Int, ∃ hr_253_3 : Int, ∃ hr_254_3 : Bool, ∃ Ahr_331_3 : Option Addr, ∃ chr_331_3 : Nat, ∃ hr_331_3 : List Msg, ∃ hr_332_3 : Int, ∃ hr_333_3 : Bool, ∃ lohr_331_3 : Nat, ∃ hihr_331_3 : Nat, lawLS_j3 room l hr_250_2 hr_251_2 hr_252_2 hr_253_2 hr_254_2 hr_331_2 hr_332_2 hr_333_2 s11_2 = .inr (hr_250_3, hr_251_3, hr_252_3, hr_253_3, hr_254_3, hr_331_3, hr_332_3, hr_333_3) ∧ Fr 269 [(1, .slice A l.length cA), (2, .slice B raw.length cB), (7, .pointer (some ⟨r16, 0, none⟩)), (9, .pointer (some ⟨r29, 0, none⟩)), (11, .int .i64 s11_2)] a ∧ Mod (Nil) w w' ∧ w35.heap.size ≤ w'.heap.size ∧ RdA tyLAct w' lo hi A l ∧ RdA tyU8 w' lo' hi' B raw ∧ Blk w' r16 147 [.slice Ahr_250_3 hr_250_3.length chr_250_3, .int .i64 hr_251_3, .int .i64 hr_252_3, .int .i64 hr_253_3, .bool hr_254_3] ∧ Blk w' r29 47 [.int .i64 room, .slice Ahr_331_3 hr_331_3.length chr_331_3, .int .i64 hr_332_3, .bool hr_333_3] ∧ Own tyMsg 35 w' lo19 hi20 (.slice Ahr_250_3 hr_250_3.length chr_250_3) hr_250_3 ∧ RdA tyMsg w' lo19 hi20 Ahr_250_3 hr_250_3 ∧ Own tyMsg 35 w' lohr_331_3 hihr_331_3 (.slice Ahr_331_3 hr_331_3.length chr_331_3) hr_331_3 ∧ RdA tyMsg w' lohr_331_3 hihr_331_3 Ahr_331_3 hr_331_3 ∧ (0 ≤ hr_251_3 ∧ hr_251_3 ≤ 4096) ∧ (0 ≤ hr_252_3 ∧ hr_252_3 ≤ 4096) ∧ (-9223372036854775808 ≤ hr_253_3 ∧ hr_253_3 ≤ 9223372036854775807) ∧ (-9223372036854775808 ≤ hr_332_3 ∧ hr_332_3 ≤ 9223372036854775807) ∧ (Ahr_250_3 = none → chr_250_3 = 0) ∧ (hr_250_3.length ≤ chr_250_3) ∧ ((lohr_331_3 = lohr_331_2 ∧ hihr_331_3 = hihr_331_2) ∨ (w35.heap.size ≤ lohr_331_3 ∧ lohr_331_3 ≤ hihr_331_3 ∧ hihr_331_3 ≤ w'.heap.size)) ∧ (Ahr_331_3 = none → chr_331_3 = 0) ∧ (hr_331_3.length ≤ chr_331_3) ∧ (hr_250_3.length ≤ 4096 ∧ 0 < hr_250_3.length ∧ hr_251_3 < hr_250_3.length ∧ hr_252_3 ≤ hr_250_3.length) ∧ (hr_331_3.length ≤ 4096) ∧ True) (c_blk (bodyC Try.f3 [1, 1, 1, 1, 1, 1, 0, 1, 0, 0, 1, 0]) (by kernel_rfl) (wp_fr 269 [(1, .slice A l.length cA), (2, .slice B raw.length cB), (7, .pointer (some ⟨r16, 0, none⟩)), (9, .pointer (some ⟨r29, 0, none⟩)), (11, .int .i64 s11_2)] (by kernel_rfl) (by kernel_rfl) fun Tf => LinkScript_ok_b3 (w := w) (w35 := w35) (room := room) (A := A) (cA := cA) (l := l) (lo := lo) (hi := hi) (B := B) (cB := cB) (raw := raw) (lo' := lo') (hi' := hi') (r16 := r16) (lo19 := lo19) (hi20 := hi20) (r29 := r29) (Ahr_250_2 := Ahr_250_2) (chr_250_2 := chr_250_2) (hr_250_2 := hr_250_2) (hr_251_2 := hr_251_2) (hr_252_2 := hr_252_2) (hr_253_2 := hr_253_2) (hr_254_2 := hr_254_2) (Ahr_331_2 := Ahr_331_2) (chr_331_2 := chr_331_2) (hr_331_2 := hr_331_2) (hr_332_2 := hr_332_2) (hr_333_2 := hr_333_2) (lohr_331_2 := lohr_331_2) (hihr_331_2 := hihr_331_2) (s11_2 := s11_2) (hl := hl) (hm := hm) (hr_25 := hr_25) (hr_33 := hr_33) (hO_hr_250_2 := hO_hr_250_2) (hR_hr_250_2 := hR_hr_250_2) (hO_hr_331_2 := hO_hr_331_2) (hR_hr_331_2 := hR_hr_331_2) (HM := HM) (A_n := by exact A_n) (A_c := by first | exact A_c | omega) (B_n := by exact B_n) (B_c := by first | exact B_c | omega) (hI4 := by omega) (Ahr_250_2_n := by exact Ahr_250_2_n) (Ahr_250_2_c := by first | exact Ahr_250_2_c | omega) (hI7 := by omega) (hI8 := by omega) (hI9 := by omega) (hI10 := by omega) (Ahr_331_2_n := by exact Ahr_331_2_n) (Ahr_331_2_c := by first | exact Ahr_331_2_c | omega) (hI13 := by omega) (hu_hl := by omega) (hu_hm := by omega) (lt_hr_25 := by omega) (lt_hr_33 := by omega) (hu_hO_hr_250_2 := by omega) (hv_hO_hr_250_2 := by omega) (hu_hR_hr_250_2 := by omega) (hu_hO_hr_331_2 := by omega) (hv_hO_hr_331_2 := by omega) (hu_hR_hr_331_2 := by omega) (hW0 := by omega) (ho_25 := by omega) (ho_26 := by omega) (ho_27 := by omega) (ho_28 := by omega) (ho_29 := by omega) (ho_30 := by omega) (hs_31 := by omega) (hs_32 := by omega) (hs_33 := by omega) (hs_34 := by omega) (hs_35 := by omega) (hs_36 := by omega) (hv_37 := by first | omega | (simp only [List.length_append, List.length_cons, List.length_nil, List.length_take, List.length_drop, List.length_set, List.length_replicate] at *; omega)) (hv_38 := by first | omega | (simp only [List.length_append, List.length_cons, List.length_nil, List.length_take, List.length_drop, List.length_set, List.length_replicate] at *; omega)) (h8 := by exact h8) (h11 := by exact h11) (h14 := by exact h14) (h39 := by exact h39) (hQ := ?_) (Tf := Tf))) ?_
   ·intro T v w' hr hp
    refine then_r ?_
    refine blk_r ?_
    refine then_r ?_
    refine hQ _ _ _ hr ?_
    obtain ⟨d, hs, hrest⟩ := hp
    refine ⟨d, ?_, hrest⟩
    rw [lawLS_j1]
    rw [← hL36]
    rw [lawLS_l2, if_pos h39]
    simp only [hs]
    all_goals (try rfl)
   ·rintro a w331 ⟨Ahr_250_3, chr_250_3, hr_250_3, hr_251_3, hr_252_3, hr_253_3, hr_254_3, Ahr_331_3, chr_331_3, hr_331_3, hr_332_3, hr_333_3, lohr_331_3, hihr_331_3, hJ332, ⟨Tf, rfl⟩, HM', hszw331, hl', hm', hr_25', hr_33', hO_hr_250_3', hR_hr_250_3', hO_hr_331_3', hR_hr_331_3', hr_251_3_r, hr_252_3_r, hr_253_3_r, hr_332_3_r, Ahr_250_3_n, Ahr_250_3_c, hrg_hr_331_3, Ahr_331_3_n, Ahr_331_3_c, hi0_3, hi1_3, -⟩
    clear HM hl hm hr_25 hr_33 hO_hr_250_2 hR_hr_250_2 hO_hr_331_2 hR_hr_331_2
    have HM := HM'; clear HM'
    have hl := hl'; clear hl'
    have hm := hm'; clear hm'
    have hr_25 := hr_25'; clear hr_25'
    have hr_33 := hr_33'; clear hr_33'
    have hO_hr_250_3 := hO_hr_250_3'; clear hO_hr_250_3'
    have hR_hr_250_3 := hR_hr_250_3'; clear hR_hr_250_3'
    have hO_hr_331_3 := hO_hr_331_3'; clear hO_hr_331_3'
    have hR_hr_331_3 := hR_hr_331_3'; clear hR_hr_331_3'
    have hl_l := hl.len
    have hm_l := hm.len
    have hO_hr_250_3_b := hO_hr_250_3.bounds
    have hR_hr_250_3_l := hR_hr_250_3.len
    have hO_hr_331_3_b := hO_hr_331_3.bounds
    have hR_hr_331_3_l := hR_hr_331_3.len
    refine c_region (L := [0, 1, 2]) (by kernel_rfl) ?_
    have hw334 : IntKind.wrap .i64 (s11_2 + 1) = s11_2 + 1 := wi64 (by omega) (by omega)
    refine st_pure (l := [0, 1]) (rest := [2]) (L := [(67, .int .i64 s11_2), (68, .int .i64 (s11_2 + 1))]) rfl (Eq.trans (b := some [(67, .int .i64 s11_2), (68, .int .i64 (IntKind.wrap .i64 (s11_2 + 1)))]) (by kernel_rfl) (by simp only [hw334])) ?_
    refine st_pure (l := [2]) (rest := []) (L := [(11, .int .i64 (s11_2 + 1))]) rfl (by kernel_rfl) ?_
    refine st_end ?_
    refine then_n ?_
    refine ⟨(k_2, s11_2 + 1, Ahr_250_3, chr_250_3, hr_250_3, hr_251_3, hr_252_3, hr_253_3, hr_254_3, Ahr_331_3, chr_331_3, hr_331_3, hr_332_3, hr_333_3, lohr_331_3, hihr_331_3), ⟨?_, by omega, Fr.mk (by kernel_rfl) (by kernel_rfl), HM, by omega, hl, hm, hr_25, hr_33, hO_hr_250_3, hR_hr_250_3, hO_hr_331_3, hR_hr_331_3, ?_, ?_, ?_, ?_, ?_, ?_, ?_, ?_, ?_, ?_, ?_, ?_, ?_, ?_, trivial⟩, by dsimp only; omega⟩
    ·rw [← hL36]
     symm
     rw [lawLS_l2, if_pos h39]
     try simp only [hJ332]
     all_goals (try rfl)
    ·omega
    ·omega
    ·omega
    ·omega
    ·omega
    ·exact Ahr_250_3_n
    ·first | exact Ahr_250_3_c | omega
    ·omega
    ·exact Ahr_331_3_n
    ·first | exact Ahr_331_3_c | omega
    ·first | omega | (simp only [List.length_append, List.length_cons, List.length_nil, List.length_take, List.length_drop, List.length_set, List.length_replicate] at *; omega)
    ·first | omega | (simp only [List.length_append, List.length_cons, List.length_nil, List.length_take, List.length_drop, List.length_set, List.length_replicate] at *; omega)
    ·first | omega | (simp only [List.length_append, List.length_cons, List.length_nil, List.length_take, List.length_drop, List.length_set, List.length_replicate] at *; omega)
    ·first | omega | (simp only [List.length_append, List.length_cons, List.length_nil, List.length_take, List.length_drop, List.length_set, List.length_replicate] at *; omega)
  ·skip
   have hb335 : (decide (s11_2 < (l.length : Int))) = false := decide_eq_false h39
   refine st_pure (l := [0, 1, 2, 3, 4]) (rest := [5, 6, 7]) (L := [(59, .int .i64 s11_2), (60, .slice A l.length cA), (61, .int .i64 (l.length : Int)), (62, .bool (decide (s11_2 < (l.length : Int)))), (63, .bool false)]) rfl (Eq.trans (b := some [(59, .int .i64 s11_2), (60, .slice A l.length cA), (61, .int .i64 (l.length : Int)), (62, .bool (decide (s11_2 < (l.length : Int)))), (63, .bool (decide (s11_2 < (l.length : Int))))]) (by kernel_rfl) (by simp only [hb335])) ?_
   refine st_pure (l := [5, 6, 7]) (rest := []) (L := [(64, undef), (65, undef), (66, .bool false)]) rfl (by kernel_rfl) ?_
   refine st_end ?_
   refine then_n ?_
   refine c_false (by kernel_rfl) ?_
   refine wp_exit ?_
   refine then_x ?_
   refine then_x ?_
   refine blk_hit ?_
   refine then_n ?_
   refine ⟨Ahr_250_2, chr_250_2, hr_250_2, hr_251_2, hr_252_2, hr_253_2, hr_254_2, Ahr_331_2, chr_331_2, hr_331_2, hr_332_2, hr_333_2, lohr_331_2, hihr_331_2, ?_, Fr.mk (by kernel_rfl) (by kernel_rfl), HM, by omega, hl, hm, hr_25, hr_33, hO_hr_250_2, hR_hr_250_2, hO_hr_331_2, hR_hr_331_2, ?_, ?_, ?_, ?_, ?_, ?_, ?_, ?_, ?_, ?_, ?_, trivial⟩
   ·rw [lawLS_j1]
    rw [← hL36]
    rw [lawLS_l2, if_neg h39]
    all_goals (try rfl)
   ·omega
   ·omega
   ·omega
   ·omega
   ·exact Ahr_250_2_n
   ·first | exact Ahr_250_2_c | omega
   ·omega
   ·exact Ahr_331_2_n
   ·first | exact Ahr_331_2_c | omega
   ·first | omega | (simp only [List.length_append, List.length_cons, List.length_nil, List.length_take, List.length_drop, List.length_set, List.length_replicate] at *; omega)
   ·first | omega | (simp only [List.length_append, List.length_cons, List.length_nil, List.length_take, List.length_drop, List.length_set, List.length_replicate] at *; omega)

theorem LinkScript_ok_b6 {w : World} {w336 : World} {room : Int} {A : Option Addr} {l : List LAct} {lo : Nat} {hi : Nat} {B : Option Addr} {cB : Nat} {raw : List UInt8} {lo' : Nat} {hi' : Nat} {r16 : Nat} {lo19 : Nat} {hi20 : Nat} {r29 : Nat} {Ahr_250_1 : Option Addr} {chr_250_1 : Nat} {hr_250_1 : List Msg} {hr_251_1 : Int} {hr_252_1 : Int} {hr_253_1 : Int} {hr_254_1 : Bool} {Ahr_331_1 : Option Addr} {chr_331_1 : Nat} {hr_331_1 : List Msg} {hr_332_1 : Int} {hr_333_1 : Bool} {lohr_331_1 : Nat} {hihr_331_1 : Nat} {Q : Exit → Act → World → Prop} (hl : RdA tyLAct w336 lo hi A l) (hm : RdA tyU8 w336 lo' hi' B raw) (hr_25 : Blk w336 r16 147 [.slice Ahr_250_1 hr_250_1.length chr_250_1, .int .i64 hr_251_1, .int .i64 hr_252_1, .int .i64 hr_253_1, .bool hr_254_1]) (hr_33 : Blk w336 r29 47 [.int .i64 room, .slice Ahr_331_1 hr_331_1.length chr_331_1, .int .i64 hr_332_1, .bool hr_333_1]) (hO_hr_250_1 : Own tyMsg 35 w336 lo19 hi20 (.slice Ahr_250_1 hr_250_1.length chr_250_1) hr_250_1) (hR_hr_250_1 : RdA tyMsg w336 lo19 hi20 Ahr_250_1 hr_250_1) (hO_hr_331_1 : Own tyMsg 35 w336 lohr_331_1 hihr_331_1 (.slice Ahr_331_1 hr_331_1.length chr_331_1) hr_331_1) (hR_hr_331_1 : RdA tyMsg w336 lohr_331_1 hihr_331_1 Ahr_331_1 hr_331_1) (HM : Mod (Nil) w w336) (B_n : B = none → cB = 0) (B_c : raw.length ≤ cB) (Ahr_250_1_n : Ahr_250_1 = none → chr_250_1 = 0) (Ahr_250_1_c : hr_250_1.length ≤ chr_250_1) (hI4 : 0 ≤ hr_251_1 ∧ hr_251_1 ≤ 4096) (hI5 : 0 ≤ hr_252_1 ∧ hr_252_1 ≤ 4096) (hI6 : -9223372036854775808 ≤ hr_253_1 ∧ hr_253_1 ≤ 9223372036854775807) (hI7 : 0 ≤ room ∧ room ≤ 4096) (Ahr_331_1_n : Ahr_331_1 = none → chr_331_1 = 0) (Ahr_331_1_c : hr_331_1.length ≤ chr_331_1) (hI10 : -9223372036854775808 ≤ hr_332_1 ∧ hr_332_1 ≤ 9223372036854775807) (hu_hl : hi ≤ w336.heap.size) (hu_hm : hi' ≤ w336.heap.size) (lt_hr_25 : r16 < w336.heap.size) (lt_hr_33 : r29 < w336.heap.size) (hu_hO_hr_250_1 : hi20 ≤ w336.heap.size) (hv_hO_hr_250_1 : lo19 ≤ w336.heap.size) (hu_hR_hr_250_1 : hi20 ≤ w336.heap.size) (hu_hO_hr_331_1 : hihr_331_1 ≤ w336.heap.size) (hv_hO_hr_331_1 : lohr_331_1 ≤ w336.heap.size) (hu_hR_hr_331_1 : hihr_331_1 ≤ w336.heap.size) (hW0 : w.heap.size ≤ w336.heap.size) (ho_22 : hi ≤ w.heap.size) (ho_23 : hi' ≤ w.heap.size) (ho_24 : w.heap.size ≤ r16) (ho_25 : w.heap.size ≤ r29) (ho_26 : w.heap.size ≤ lo19) (ho_27 : w.heap.size ≤ lohr_331_1) (hs_28 : r29 ≠ r16) (hs_29 : hi20 ≤ r16 ∨ r16 < lo19) (hs_30 : hi20 ≤ r29 ∨ r29 < lo19) (hs_31 : hihr_331_1 ≤ r16 ∨ r16 < lohr_331_1) (hs_32 : hihr_331_1 ≤ r29 ∨ r29 < lohr_331_1) (hs_33 : hihr_331_1 ≤ lo19 ∨ hi20 ≤ lohr_331_1) (hv_34 : hr_250_1.length ≤ 4096 ∧ 0 < hr_250_1.length ∧ hr_251_1 < hr_250_1.length ∧ hr_252_1 ≤ hr_250_1.length) (hv_35 : hr_331_1.length ≤ 4096) (h8 : ¬ ((l.length : Int) > 100)) (h11 : ¬ ((raw.length : Int) > 600)) (h14 : 1 ≤ room ∧ room ≤ 4096) (hQ : ∀ T v w', (results Try.f3 T).run Try.prog w' = .ok v w' → (∃ d : Bool, lawLS_j6 room hr_250_1 hr_251_1 hr_252_1 hr_253_1 hr_254_1 hr_331_1 hr_332_1 hr_333_1 = .inl d ∧ v = .bool d ∧ Mod (Nil) w w') → Q .ret ⟨T, []⟩ w') (Tf : Nat → Value) :
  (bodyC Try.f3 [1, 1, 1, 1, 1, 1, 1, 0]).wp Try.prog (Exit.then (fun a w' => lawLS_j6 room hr_250_1 hr_251_1 hr_252_1 hr_253_1 hr_254_1 hr_331_1 hr_332_1 hr_333_1 = .inr () ∧ Fr 269 [(2, .slice B raw.length cB)] a ∧ Mod (Nil) w w' ∧ w336.heap.size ≤ w'.heap.size ∧ RdA tyLAct w' lo hi A l ∧ RdA tyU8 w' lo' hi' B raw ∧ (hr_250_1.length ≤ 4096 ∧ 0 < hr_250_1.length ∧ hr_251_1 < hr_250_1.length ∧ hr_252_1 ≤ hr_250_1.length) ∧ (hr_331_1.length ≤ 4096) ∧ True) Q) ⟨puts (mkT 269 Tf) [(2, .slice B raw.length cB), (7, .pointer (some ⟨r16, 0, none⟩)), (9, .pointer (some ⟨r29, 0, none⟩))], []⟩ w336 := by
 have hl_l := hl.len
 have hm_l := hm.len
 have hO_hr_250_1_b := hO_hr_250_1.bounds
 have hR_hr_250_1_l := hR_hr_250_1.len
 have hO_hr_331_1_b := hO_hr_331_1.bounds
 have hR_hr_331_1_l := hR_hr_331_1.len
 refine wp_seq ?_
 refine c_region (L := [0, 1]) (by kernel_rfl) ?_
 refine st_pure (l := [0, 1]) (rest := []) (L := [(202, .pointer (some ⟨r29, 0, none⟩)), (203, .bool true)]) rfl (by kernel_rfl) ?_
 refine st_end ?_
 refine then_n ?_
 refine c_true (by kernel_rfl) ?_
 refine wp_seq ?_
 refine c_region (L := [0, 1, 2]) (by kernel_rfl) ?_
 refine st_pure (l := [0]) (rest := [1, 2]) (L := [(204, .pointer (some ⟨r29, 0, none⟩))]) rfl (by kernel_rfl) ?_
 refine st_fn (d := 205) (f := 31) (xs := #[.pointer (some ⟨r29, 0, none⟩)]) (R := _) (by kernel_rfl) (rLBytes_ok (w := w336) (r := r29) (A := Ahr_331_1) (cA := chr_331_1) (ml := hr_331_1) (mo := room) (mk := hr_332_1) (en := hr_333_1) (lo := lohr_331_1) (hi := hihr_331_1) (hr := hr_33) (hq := hR_hr_331_1) (mo_r := by omega) (A_n := Ahr_331_1_n) (A_c := by first | exact Ahr_331_1_c | omega) (mk_r := by omega) (hq_hi := by omega) (hlen := by first | omega | (simp only [List.length_append, List.length_cons, List.length_nil, List.length_take, List.length_drop, List.length_set, List.length_replicate] at *; omega))) ?_
 rintro vw342 w342 ⟨l339, A340, c341, hsp343, rfl, A340_n, A340_c, l2_b345, hO_346, hR_347, m348⟩
 have hszw342 := m348.size
 have hO_346_b := hO_346.bounds
 have hR_347_l := hR_347.len
 refine st_pure (l := [2]) (rest := []) (L := [(24, .slice A340 l339.length c341)]) rfl (by kernel_rfl) ?_
 refine st_end ?_
 refine then_n ?_
 refine wp_seq ?_
 refine c_region (L := [0, 1, 2, 3, 4, 5, 6, 7]) (by kernel_rfl) ?_
 refine st_pure (l := [0]) (rest := [1, 2, 3, 4, 5, 6, 7]) (L := [(207, .slice A340 l339.length c341)]) rfl (by kernel_rfl) ?_
 refine st_fn (d := 208) (f := 33) (xs := #[.slice A340 l339.length c341]) (R := _) (by kernel_rfl) (kit_Own (w := w342) (A := A340) (cA := c341) (l := l339) (lo := w336.heap.size) (hi := w342.heap.size) (hl := hR_347) (A_n := A340_n) (A_c := by first | exact A340_c | omega) (hl_hi := by omega)) ?_
 rintro vw351 w351 ⟨A349, c350, rfl, A349_n, A349_c, hO_353, hR_354, m355⟩
 have hszw351 := m355.size
 have hO_353_b := hO_353.bounds
 have hR_354_l := hR_354.len
 refine st_fn (d := 209) (f := 32) (xs := #[.slice A349 l339.length c350]) (R := _) (by kernel_rfl) (Read_ok (w := w351) (A := A349) (cA := c350) (l := l339) (lo := w342.heap.size) (hi := w351.heap.size) (hl := hR_354) (A_n := A349_n) (A_c := by first | exact A349_c | omega) (hl_hi := by omega)) ?_
 rintro vw366 w366 (⟨r356, A357, c358, ring359, fr360, ct361, mk362, en363, lo364, hi365, hsp367, rfl, A357_n, A357_c, fr360_r, ct361_r, mk362_r, hlen369, hlr370, hr_371, ho_372, m373⟩ | ⟨hsp374, rfl, m376⟩)
 ·skip
  have hszw366 := m373.size
  have lt_hr_371 := hr_371.lt
  have ho_372_b := ho_372.bounds
  refine st_pure (l := [3, 4, 5, 6, 7]) (rest := []) (L := [(206, .tuple #[.pointer (some ⟨r356, 0, none⟩), .int .i64 0]), (210, .pointer (some ⟨r356, 0, none⟩)), (211, .int .i64 0), (25, .pointer (some ⟨r356, 0, none⟩)), (26, .int .i64 0)]) rfl (by kernel_rfl) ?_
  refine st_end ?_
  refine then_n ?_
  refine wp_seq ?_
  refine c_drawS (Nil) (Nil) [0, 2, 4, 5, 6, 7, 8, 9, 10, 12, 14, 15, 16, 17, 19, 20, 21, 22, 24, 25] [] 0 (fun _ q => q) (by kernel_rfl) (n := 26) (by kernel_rfl) (by kernel_rfl) ?_
  intro w377 HGw377
  have HC378 : Mod (Nil) w366 w377 := Mod.weaken HGw377 fun _ _ q => q.elim
  have hszw377 := HGw377.size
  refine m_p (k := 0) (n := 1) (fuel := 25) (L := [(212, .pointer (some ⟨r16, 0, none⟩))]) (by kernel_rfl) (by kernel_rfl) rfl ?_
  refine m_Q (by kernel_rfl) ?_
  have hr_25_b379 := (((hr_25.mod m348 (fun q => q)).mod m355 (fun q => q)).mod m373 (fun q => q))
  replace hr_25 := ((((hr_25.mod m348 (fun q => q)).mod m355 (fun q => q)).mod m373 (fun q => q)).mod HGw377 (fun q => q))
  have hR_hr_250_1_b380 := (((hR_hr_250_1.mod0 m348).mod0 m355).mod0 m373)
  replace hR_hr_250_1 := ((((hR_hr_250_1.mod0 m348).mod0 m355).mod0 m373).mod0 HGw377)
  refine st_fn (d := 213) (f := 34) (xs := #[.pointer (some ⟨r16, 0, none⟩)]) (R := _) (by kernel_rfl) (LBytes_ok (w := w377) (r := r16) (A := Ahr_250_1) (cA := chr_250_1) (ring := hr_250_1) (fr := hr_251_1) (ct := hr_252_1) (mk := hr_253_1) (en := hr_254_1) (lo := lo19) (hi := hi20) (hr := hr_25) (hq := hR_hr_250_1) (A_n := Ahr_250_1_n) (A_c := by first | exact Ahr_250_1_c | omega) (fr_r := by omega) (ct_r := by omega) (mk_r := by omega) (hq_hi := by omega) (hlen := by first | omega | (simp only [List.length_append, List.length_cons, List.length_nil, List.length_take, List.length_drop, List.length_set, List.length_replicate] at *; omega))) ?_
  rintro vw384 w384 ⟨l381, A382, c383, rfl, A382_n, A382_c, rfl, l2_b386, hO_387, hR_388, m389⟩
  have hszw384 := m389.size
  have HC390 := HC378.tr0 m389
  have hO_387_b := hO_387.bounds
  have hR_388_l := hR_388.len
  refine st_end (m_after HC390 ?_)
  refine m_p (k := 2) (n := 1) (fuel := 23) (L := [(214, .slice A340 l339.length c341)]) (by kernel_rfl) (by kernel_rfl) rfl ?_
  refine m_Q (by kernel_rfl) ?_
  have hR_347_b391 := ((hR_347.mod0 m355).mod0 m373)
  replace hR_347 := ((((hR_347.mod0 m355).mod0 m373).mod0 HGw377).mod0 m389)
  refine st_fn (d := 215) (f := 17) (xs := #[.slice A382 ((lbytes hr_250_1 hr_251_1 hr_252_1 hr_253_1 hr_254_1).length) c383, .slice A340 l339.length c341]) (R := _) (by kernel_rfl) (kit_Bytes (w := w384) (A := A382) (cA := c383) (l := lbytes hr_250_1 hr_251_1 hr_252_1 hr_253_1 hr_254_1) (lo := w377.heap.size) (hi := w384.heap.size) (B := A340) (cB := c341) (m := l339) (lo' := w336.heap.size) (hi' := w342.heap.size) (hl := hR_388) (hm := hR_347) (A_n := A382_n) (A_c := by first | exact A382_c | omega) (B_n := A340_n) (B_c := by first | exact A340_c | omega) (hl_hi := by omega) (hm_hi := by omega)) ?_
  rintro vw392 w392 ⟨hv393, m394⟩
  have hszw392 := m394.size
  have HC395 := HC390.tr0 m394
  refine st_end (m_after HC395 ?_)
  by_cases h396 : (lbytes hr_250_1 hr_251_1 hr_252_1 hr_253_1 hr_254_1) = l339
  ·skip
   have hb397 : (decide ((lbytes hr_250_1 hr_251_1 hr_252_1 hr_253_1 hr_254_1) = l339)) = true := decide_eq_true h396
   rw [hb397] at hv393; subst hv393
   refine m_p (k := 4) (n := 7) (fuel := 15) (L := [(216, .bool false), (217, .bool false), (218, .int .i64 0), (219, .bool false), (220, .bool false), (221, .bool false), (222, .pointer (some ⟨r356, 0, none⟩))]) (by kernel_rfl) (by kernel_rfl) rfl ?_
   refine m_Q (by kernel_rfl) ?_
   have hr_371_b398 := hr_371
   replace hr_371 := (((hr_371.mod HGw377 (fun q => q)).mod m389 (fun q => q)).mod m394 (fun q => q))
   have ho_372_b399 := ho_372
   replace ho_372 := (((ho_372.mod0 HGw377).mod0 m389).mod0 m394)
   refine st_fn (d := 223) (f := 34) (xs := #[.pointer (some ⟨r356, 0, none⟩)]) (R := _) (by kernel_rfl) (LBytes_ok (w := w392) (r := r356) (A := A357) (cA := c358) (ring := ring359) (fr := fr360) (ct := ct361) (mk := mk362) (en := en363) (lo := lo364) (hi := hi365) (hr := hr_371) (hq := (ho_372.rdSelf.2.2.2)) (A_n := A357_n) (A_c := by first | exact A357_c | omega) (fr_r := by omega) (ct_r := by omega) (mk_r := by omega) (hq_hi := by omega) (hlen := by first | omega | (simp only [List.length_append, List.length_cons, List.length_nil, List.length_take, List.length_drop, List.length_set, List.length_replicate] at *; omega))) ?_
   rintro vw403 w403 ⟨l400, A401, c402, rfl, A401_n, A401_c, rfl, l2_b405, hO_406, hR_407, m408⟩
   have hszw403 := m408.size
   have HC409 := HC395.tr0 m408
   have hO_406_b := hO_406.bounds
   have hR_407_l := hR_407.len
   refine st_end (m_after HC409 ?_)
   refine m_p (k := 12) (n := 1) (fuel := 13) (L := [(224, .slice A340 l339.length c341)]) (by kernel_rfl) (by kernel_rfl) rfl ?_
   refine m_Q (by kernel_rfl) ?_
   replace hR_347 := ((hR_347.mod0 m394).mod0 m408)
   refine st_fn (d := 225) (f := 17) (xs := #[.slice A401 ((lbytes ring359 fr360 ct361 mk362 en363).length) c402, .slice A340 l339.length c341]) (R := _) (by kernel_rfl) (kit_Bytes (w := w403) (A := A401) (cA := c402) (l := lbytes ring359 fr360 ct361 mk362 en363) (lo := w392.heap.size) (hi := w403.heap.size) (B := A340) (cB := c341) (m := l339) (lo' := w336.heap.size) (hi' := w342.heap.size) (hl := hR_407) (hm := hR_347) (A_n := A401_n) (A_c := by first | exact A401_c | omega) (B_n := A340_n) (B_c := by first | exact A340_c | omega) (hl_hi := by omega) (hm_hi := by omega)) ?_
   rintro vw410 w410 ⟨hv411, m412⟩
   have hszw410 := m412.size
   have HC413 := HC409.tr0 m412
   refine st_end (m_after HC413 ?_)
   by_cases h414 : (lbytes ring359 fr360 ct361 mk362 en363) = l339
   ·skip
    have hb415 : (decide ((lbytes ring359 fr360 ct361 mk362 en363) = l339)) = true := decide_eq_true h414
    rw [hb415] at hv411; subst hv411
    refine m_p (k := 14) (n := 4) (fuel := 8) (L := [(226, .bool false), (227, .bool false), (228, .bool false), (229, .pointer (some ⟨r16, 0, none⟩))]) (by kernel_rfl) (by kernel_rfl) rfl ?_
    refine m_Q (by kernel_rfl) ?_
    replace hr_25 := ((((hr_25.mod m389 (fun q => q)).mod m394 (fun q => q)).mod m408 (fun q => q)).mod m412 (fun q => q))
    replace hR_hr_250_1 := ((((hR_hr_250_1.mod0 m389).mod0 m394).mod0 m408).mod0 m412)
    refine st_fn (d := 230) (f := 36) (xs := #[.pointer (some ⟨r16, 0, none⟩)]) (R := _) (by kernel_rfl) (All_ok (w := w410) (r := r16) (A := Ahr_250_1) (cA := chr_250_1) (ring := hr_250_1) (fr := hr_251_1) (ct := hr_252_1) (mk := hr_253_1) (en := hr_254_1) (lo := lo19) (hi := hi20) (hr := hr_25) (hq := hR_hr_250_1) (A_n := Ahr_250_1_n) (A_c := by first | exact Ahr_250_1_c | omega) (fr_r := by omega) (ct_r := by omega) (mk_r := by omega) (hq_hi := by omega) (hlen := by first | omega | (simp only [List.length_append, List.length_cons, List.length_nil, List.length_take, List.length_drop, List.length_set, List.length_replicate] at *; omega))) ?_
    rintro vw419 w419 ⟨l416, A417, c418, rfl, A417_n, A417_c, rfl, hO_421, hR_422, m423⟩
    have ha424 := allOf_len hr_250_1 hr_251_1 hr_252_1.toNat
    have hszw419 := m423.size
    have HC425 := HC413.tr0 m423
    have hO_421_b := hO_421.bounds
    have hR_422_l := hR_422.len
    refine st_end (m_after HC425 ?_)
    refine m_p (k := 19) (n := 3) (fuel := 4) (L := [(231, .pointer (some ⟨r29, 0, none⟩)), (232, .pointer (some ⟨r29, 0, none⟩)), (233, .pointer (some ⟨r29, 1, none⟩))]) (by kernel_rfl) (by kernel_rfl) rfl ?_
    have hr_33_b426 := (((hr_33.mod m348 (fun q => q)).mod m355 (fun q => q)).mod m373 (fun q => q))
    refine m_load (d := 234) (t := 45) (b := r29) (o := 1) (v := .slice Ahr_331_1 hr_331_1.length chr_331_1) (by kernel_rfl) (by kernel_rfl) (fun wQ (mQ : Mod (Nil) w366 wQ) => (hr_33_b426.mod mQ (fun q => q)).sub 1) (by kernel_rfl) ?_
    refine m_Q (by kernel_rfl) ?_
    have hR_hr_331_1_b427 := (((hR_hr_331_1.mod0 m348).mod0 m355).mod0 m373)
    replace hR_hr_331_1 := (((((((((hR_hr_331_1.mod0 m348).mod0 m355).mod0 m373).mod0 HGw377).mod0 m389).mod0 m394).mod0 m408).mod0 m412).mod0 m423)
    refine st_fn (d := 235) (f := 35) (xs := #[.slice A417 ((allOf hr_250_1 hr_251_1 hr_252_1.toNat).length) c418, .slice Ahr_331_1 hr_331_1.length chr_331_1]) (R := _) (by kernel_rfl) (kMsgs_ok (w := w419) (A := A417) (cA := c418) (l := allOf hr_250_1 hr_251_1 hr_252_1.toNat) (lo := w410.heap.size) (hi := w419.heap.size) (B := Ahr_331_1) (cB := chr_331_1) (m := hr_331_1) (lo' := lohr_331_1) (hi' := hihr_331_1) (hl := hR_422) (hm := hR_hr_331_1) (A_n := A417_n) (A_c := by first | exact A417_c | omega) (B_n := Ahr_331_1_n) (B_c := by first | exact Ahr_331_1_c | omega) (hl_hi := by omega) (hm_hi := by omega)) ?_
    rintro vw429 w429 ⟨d428, hsp430, hv431, m432⟩
    have hszw429 := m432.size
    have HC433 := HC425.tr0 m432
    refine st_end (m_after HC433 ?_)
    by_cases h434 : d428 = true
    ·skip
     have hb435 : (d428) = true := by simpa using h434
     rw [hb435] at hv431; subst hv431
     refine m_p (k := 24) (n := 2) (fuel := 0) (L := [(236, .bool false), (237, .bool false)]) (by kernel_rfl) (by kernel_rfl) rfl ?_
     refine m_end ?_
     refine cut_fr 269 [(2, .slice B raw.length cB), (237, .bool false)] (by kernel_rfl) (by kernel_rfl) ?_
     intro Tf
     refine c_false (by kernel_rfl) ?_
     refine wp_skip ?_
     refine then_n ?_
     replace HM := ((((((((((HM.tr0 m348).tr0 m355).tr0 m373).tr0 HGw377).tr0 m389).tr0 m394).tr0 m408).tr0 m412).tr0 m423).tr0 m432)
     replace hl := ((((((((((hl.mod0 m348).mod0 m355).mod0 m373).mod0 HGw377).mod0 m389).mod0 m394).mod0 m408).mod0 m412).mod0 m423).mod0 m432)
     replace hm := ((((((((((hm.mod0 m348).mod0 m355).mod0 m373).mod0 HGw377).mod0 m389).mod0 m394).mod0 m408).mod0 m412).mod0 m423).mod0 m432)
     refine ⟨?_, Fr.mk (by kernel_rfl) (by kernel_rfl), HM, by omega, hl, hm, ?_, ?_, trivial⟩
     ·rw [lawLS_j6]
      try simp only [hsp343]
      try simp only [hsp367]
      rw [if_pos h396, if_pos h414]
      try simp only [hsp430]
      rw [if_pos h434]
      all_goals (try rfl)
     ·first | omega | (simp only [List.length_append, List.length_cons, List.length_nil, List.length_take, List.length_drop, List.length_set, List.length_replicate] at *; omega)
     ·first | omega | (simp only [List.length_append, List.length_cons, List.length_nil, List.length_take, List.length_drop, List.length_set, List.length_replicate] at *; omega)
    ·skip
     have hb436 : (d428) = false := by simpa using h434
     rw [hb436] at hv431; subst hv431
     refine m_p (k := 24) (n := 2) (fuel := 0) (L := [(236, .bool true), (237, .bool true)]) (by kernel_rfl) (by kernel_rfl) rfl ?_
     refine m_end ?_
     refine cut_fr 269 [(2, .slice B raw.length cB), (237, .bool true)] (by kernel_rfl) (by kernel_rfl) ?_
     intro Tf
     refine c_true (by kernel_rfl) ?_
     refine wp_seq ?_
     refine c_region (L := [0]) (by kernel_rfl) ?_
     refine st_pure (l := [0]) (rest := []) (L := [(6, .bool false)]) rfl (by kernel_rfl) ?_
     refine st_end ?_
     refine then_n ?_
     refine wp_ret ?_
     refine then_r ?_
     refine hQ _ (.bool false) _ (pureRun_run _ (by kernel_rfl) _) ?_
     replace HM := ((((((((((HM.tr0 m348).tr0 m355).tr0 m373).tr0 HGw377).tr0 m389).tr0 m394).tr0 m408).tr0 m412).tr0 m423).tr0 m432)
     refine ⟨false, ?_, rfl, HM⟩
     ·rw [lawLS_j6]
      try simp only [hsp343]
      try simp only [hsp367]
      rw [if_pos h396, if_pos h414]
      try simp only [hsp430]
      rw [if_neg h434]
      all_goals (try rfl)
   ·skip
    have hb437 : (decide ((lbytes ring359 fr360 ct361 mk362 en363) = l339)) = false := decide_eq_false h414
    rw [hb437] at hv411; subst hv411
    refine m_p (k := 14) (n := 4) (fuel := 8) (L := [(226, .bool true), (227, .bool true), (228, .bool true), (229, undef)]) (by kernel_rfl) (by kernel_rfl) rfl ?_
    refine m_Q (by kernel_rfl) ?_
    refine st_unwanted (some 230) (by kernel_rfl) ?_
    refine st_end (m_after HC413 ?_)
    refine m_p (k := 19) (n := 4) (fuel := 3) (L := [(231, undef), (232, undef), (233, undef), (234, undef)]) (by kernel_rfl) (by kernel_rfl) rfl ?_
    refine m_Q (by kernel_rfl) ?_
    refine st_unwanted (some 235) (by kernel_rfl) ?_
    refine st_end (m_after HC413 ?_)
    refine m_p (k := 24) (n := 2) (fuel := 0) (L := [(236, undef), (237, .bool true)]) (by kernel_rfl) (by kernel_rfl) rfl ?_
    refine m_end ?_
    refine cut_fr 269 [(2, .slice B raw.length cB), (237, .bool true)] (by kernel_rfl) (by kernel_rfl) ?_
    intro Tf
    refine c_true (by kernel_rfl) ?_
    refine wp_seq ?_
    refine c_region (L := [0]) (by kernel_rfl) ?_
    refine st_pure (l := [0]) (rest := []) (L := [(6, .bool false)]) rfl (by kernel_rfl) ?_
    refine st_end ?_
    refine then_n ?_
    refine wp_ret ?_
    refine then_r ?_
    refine hQ _ (.bool false) _ (pureRun_run _ (by kernel_rfl) _) ?_
    replace HM := ((((((((HM.tr0 m348).tr0 m355).tr0 m373).tr0 HGw377).tr0 m389).tr0 m394).tr0 m408).tr0 m412)
    refine ⟨false, ?_, rfl, HM⟩
    ·rw [lawLS_j6]
     try simp only [hsp343]
     try simp only [hsp367]
     rw [if_pos h396, if_neg h414]
     all_goals (try rfl)
  ·skip
   have hb438 : (decide ((lbytes hr_250_1 hr_251_1 hr_252_1 hr_253_1 hr_254_1) = l339)) = false := decide_eq_false h396
   rw [hb438] at hv393; subst hv393
   refine m_p (k := 4) (n := 7) (fuel := 15) (L := [(216, .bool true), (217, .bool true), (218, undef), (219, undef), (220, .bool true), (221, .bool true), (222, undef)]) (by kernel_rfl) (by kernel_rfl) rfl ?_
   refine m_Q (by kernel_rfl) ?_
   refine st_unwanted (some 223) (by kernel_rfl) ?_
   refine st_end (m_after HC395 ?_)
   refine m_p (k := 12) (n := 1) (fuel := 13) (L := [(224, undef)]) (by kernel_rfl) (by kernel_rfl) rfl ?_
   refine m_Q (by kernel_rfl) ?_
   refine st_unwanted (some 225) (by kernel_rfl) ?_
   refine st_end (m_after HC395 ?_)
   refine m_p (k := 14) (n := 4) (fuel := 8) (L := [(226, undef), (227, .bool true), (228, .bool true), (229, undef)]) (by kernel_rfl) (by kernel_rfl) rfl ?_
   refine m_Q (by kernel_rfl) ?_
   refine st_unwanted (some 230) (by kernel_rfl) ?_
   refine st_end (m_after HC395 ?_)
   refine m_p (k := 19) (n := 4) (fuel := 3) (L := [(231, undef), (232, undef), (233, undef), (234, undef)]) (by kernel_rfl) (by kernel_rfl) rfl ?_
   refine m_Q (by kernel_rfl) ?_
   refine st_unwanted (some 235) (by kernel_rfl) ?_
   refine st_end (m_after HC395 ?_)
   refine m_p (k := 24) (n := 2) (fuel := 0) (L := [(236, undef), (237, .bool true)]) (by kernel_rfl) (by kernel_rfl) rfl ?_
   refine m_end ?_
   refine cut_fr 269 [(2, .slice B raw.length cB), (237, .bool true)] (by kernel_rfl) (by kernel_rfl) ?_
   intro Tf
   refine c_true (by kernel_rfl) ?_
   refine wp_seq ?_
   refine c_region (L := [0]) (by kernel_rfl) ?_
   refine st_pure (l := [0]) (rest := []) (L := [(6, .bool false)]) rfl (by kernel_rfl) ?_
   refine st_end ?_
   refine then_n ?_
   refine wp_ret ?_
   refine then_r ?_
   refine hQ _ (.bool false) _ (pureRun_run _ (by kernel_rfl) _) ?_
   replace HM := ((((((HM.tr0 m348).tr0 m355).tr0 m373).tr0 HGw377).tr0 m389).tr0 m394)
   refine ⟨false, ?_, rfl, HM⟩
   ·rw [lawLS_j6]
    try simp only [hsp343]
    try simp only [hsp367]
    rw [if_neg h396]
    all_goals (try rfl)
 ·skip
  have hszw366 := m376.size
  refine st_pure (l := [3, 4, 5, 6, 7]) (rest := []) (L := [(206, .tuple #[.pointer none, .int .i64 4]), (210, .pointer none), (211, .int .i64 4), (25, .pointer none), (26, .int .i64 4)]) rfl (by kernel_rfl) ?_
  refine st_end ?_
  refine then_n ?_
  refine wp_seq ?_
  refine c_drawS (Nil) (Nil) [0, 2, 4, 5, 6, 7, 8, 9, 10, 12, 14, 15, 16, 17, 19, 20, 21, 22, 24, 25] [] 0 (fun _ q => q) (by kernel_rfl) (n := 26) (by kernel_rfl) (by kernel_rfl) ?_
  intro w439 HGw439
  have HC440 : Mod (Nil) w366 w439 := Mod.weaken HGw439 fun _ _ q => q.elim
  have hszw439 := HGw439.size
  refine m_p (k := 0) (n := 1) (fuel := 25) (L := [(212, .pointer (some ⟨r16, 0, none⟩))]) (by kernel_rfl) (by kernel_rfl) rfl ?_
  refine m_Q (by kernel_rfl) ?_
  have hr_25_b441 := (((hr_25.mod m348 (fun q => q)).mod m355 (fun q => q)).mod m376 (fun q => q))
  replace hr_25 := ((((hr_25.mod m348 (fun q => q)).mod m355 (fun q => q)).mod m376 (fun q => q)).mod HGw439 (fun q => q))
  have hR_hr_250_1_b442 := (((hR_hr_250_1.mod0 m348).mod0 m355).mod0 m376)
  replace hR_hr_250_1 := ((((hR_hr_250_1.mod0 m348).mod0 m355).mod0 m376).mod0 HGw439)
  refine st_fn (d := 213) (f := 34) (xs := #[.pointer (some ⟨r16, 0, none⟩)]) (R := _) (by kernel_rfl) (LBytes_ok (w := w439) (r := r16) (A := Ahr_250_1) (cA := chr_250_1) (ring := hr_250_1) (fr := hr_251_1) (ct := hr_252_1) (mk := hr_253_1) (en := hr_254_1) (lo := lo19) (hi := hi20) (hr := hr_25) (hq := hR_hr_250_1) (A_n := Ahr_250_1_n) (A_c := by first | exact Ahr_250_1_c | omega) (fr_r := by omega) (ct_r := by omega) (mk_r := by omega) (hq_hi := by omega) (hlen := by first | omega | (simp only [List.length_append, List.length_cons, List.length_nil, List.length_take, List.length_drop, List.length_set, List.length_replicate] at *; omega))) ?_
  rintro vw446 w446 ⟨l443, A444, c445, rfl, A444_n, A444_c, rfl, l2_b448, hO_449, hR_450, m451⟩
  have hszw446 := m451.size
  have HC452 := HC440.tr0 m451
  have hO_449_b := hO_449.bounds
  have hR_450_l := hR_450.len
  refine st_end (m_after HC452 ?_)
  refine m_p (k := 2) (n := 1) (fuel := 23) (L := [(214, .slice A340 l339.length c341)]) (by kernel_rfl) (by kernel_rfl) rfl ?_
  refine m_Q (by kernel_rfl) ?_
  have hR_347_b453 := ((hR_347.mod0 m355).mod0 m376)
  replace hR_347 := ((((hR_347.mod0 m355).mod0 m376).mod0 HGw439).mod0 m451)
  refine st_fn (d := 215) (f := 17) (xs := #[.slice A444 ((lbytes hr_250_1 hr_251_1 hr_252_1 hr_253_1 hr_254_1).length) c445, .slice A340 l339.length c341]) (R := _) (by kernel_rfl) (kit_Bytes (w := w446) (A := A444) (cA := c445) (l := lbytes hr_250_1 hr_251_1 hr_252_1 hr_253_1 hr_254_1) (lo := w439.heap.size) (hi := w446.heap.size) (B := A340) (cB := c341) (m := l339) (lo' := w336.heap.size) (hi' := w342.heap.size) (hl := hR_450) (hm := hR_347) (A_n := A444_n) (A_c := by first | exact A444_c | omega) (B_n := A340_n) (B_c := by first | exact A340_c | omega) (hl_hi := by omega) (hm_hi := by omega)) ?_
  rintro vw454 w454 ⟨hv455, m456⟩
  have hszw454 := m456.size
  have HC457 := HC452.tr0 m456
  refine st_end (m_after HC457 ?_)
  by_cases h458 : (lbytes hr_250_1 hr_251_1 hr_252_1 hr_253_1 hr_254_1) = l339
  ·skip
   have hb459 : (decide ((lbytes hr_250_1 hr_251_1 hr_252_1 hr_253_1 hr_254_1) = l339)) = true := decide_eq_true h458
   rw [hb459] at hv455; subst hv455
   refine m_p (k := 4) (n := 7) (fuel := 15) (L := [(216, .bool false), (217, .bool false), (218, .int .i64 4), (219, .bool true), (220, .bool true), (221, .bool true), (222, undef)]) (by kernel_rfl) (by kernel_rfl) rfl ?_
   refine m_Q (by kernel_rfl) ?_
   refine st_unwanted (some 223) (by kernel_rfl) ?_
   refine st_end (m_after HC457 ?_)
   refine m_p (k := 12) (n := 1) (fuel := 13) (L := [(224, undef)]) (by kernel_rfl) (by kernel_rfl) rfl ?_
   refine m_Q (by kernel_rfl) ?_
   refine st_unwanted (some 225) (by kernel_rfl) ?_
   refine st_end (m_after HC457 ?_)
   refine m_p (k := 14) (n := 4) (fuel := 8) (L := [(226, undef), (227, .bool true), (228, .bool true), (229, undef)]) (by kernel_rfl) (by kernel_rfl) rfl ?_
   refine m_Q (by kernel_rfl) ?_
   refine st_unwanted (some 230) (by kernel_rfl) ?_
   refine st_end (m_after HC457 ?_)
   refine m_p (k := 19) (n := 4) (fuel := 3) (L := [(231, undef), (232, undef), (233, undef), (234, undef)]) (by kernel_rfl) (by kernel_rfl) rfl ?_
   refine m_Q (by kernel_rfl) ?_
   refine st_unwanted (some 235) (by kernel_rfl) ?_
   refine st_end (m_after HC457 ?_)
   refine m_p (k := 24) (n := 2) (fuel := 0) (L := [(236, undef), (237, .bool true)]) (by kernel_rfl) (by kernel_rfl) rfl ?_
   refine m_end ?_
   refine cut_fr 269 [(2, .slice B raw.length cB), (237, .bool true)] (by kernel_rfl) (by kernel_rfl) ?_
   intro Tf
   refine c_true (by kernel_rfl) ?_
   refine wp_seq ?_
   refine c_region (L := [0]) (by kernel_rfl) ?_
   refine st_pure (l := [0]) (rest := []) (L := [(6, .bool false)]) rfl (by kernel_rfl) ?_
   refine st_end ?_
   refine then_n ?_
   refine wp_ret ?_
   refine then_r ?_
   refine hQ _ (.bool false) _ (pureRun_run _ (by kernel_rfl) _) ?_
   replace HM := ((((((HM.tr0 m348).tr0 m355).tr0 m376).tr0 HGw439).tr0 m451).tr0 m456)
   refine ⟨false, ?_, rfl, HM⟩
   ·rw [lawLS_j6]
    try simp only [hsp343]
    try simp only [hsp374]
    rw [if_pos h458]
    all_goals (try rfl)
  ·skip
   have hb460 : (decide ((lbytes hr_250_1 hr_251_1 hr_252_1 hr_253_1 hr_254_1) = l339)) = false := decide_eq_false h458
   rw [hb460] at hv455; subst hv455
   refine m_p (k := 4) (n := 7) (fuel := 15) (L := [(216, .bool true), (217, .bool true), (218, undef), (219, undef), (220, .bool true), (221, .bool true), (222, undef)]) (by kernel_rfl) (by kernel_rfl) rfl ?_
   refine m_Q (by kernel_rfl) ?_
   refine st_unwanted (some 223) (by kernel_rfl) ?_
   refine st_end (m_after HC457 ?_)
   refine m_p (k := 12) (n := 1) (fuel := 13) (L := [(224, undef)]) (by kernel_rfl) (by kernel_rfl) rfl ?_
   refine m_Q (by kernel_rfl) ?_
   refine st_unwanted (some 225) (by kernel_rfl) ?_
   refine st_end (m_after HC457 ?_)
   refine m_p (k := 14) (n := 4) (fuel := 8) (L := [(226, undef), (227, .bool true), (228, .bool true), (229, undef)]) (by kernel_rfl) (by kernel_rfl) rfl ?_
   refine m_Q (by kernel_rfl) ?_
   refine st_unwanted (some 230) (by kernel_rfl) ?_
   refine st_end (m_after HC457 ?_)
   refine m_p (k := 19) (n := 4) (fuel := 3) (L := [(231, undef), (232, undef), (233, undef), (234, undef)]) (by kernel_rfl) (by kernel_rfl) rfl ?_
   refine m_Q (by kernel_rfl) ?_
   refine st_unwanted (some 235) (by kernel_rfl) ?_
   refine st_end (m_after HC457 ?_)
   refine m_p (k := 24) (n := 2) (fuel := 0) (L := [(236, undef), (237, .bool true)]) (by kernel_rfl) (by kernel_rfl) rfl ?_
   refine m_end ?_
   refine cut_fr 269 [(2, .slice B raw.length cB), (237, .bool true)] (by kernel_rfl) (by kernel_rfl) ?_
   intro Tf
   refine c_true (by kernel_rfl) ?_
   refine wp_seq ?_
   refine c_region (L := [0]) (by kernel_rfl) ?_
   refine st_pure (l := [0]) (rest := []) (L := [(6, .bool false)]) rfl (by kernel_rfl) ?_
   refine st_end ?_
   refine then_n ?_
   refine wp_ret ?_
   refine then_r ?_
   refine hQ _ (.bool false) _ (pureRun_run _ (by kernel_rfl) _) ?_
   replace HM := ((((((HM.tr0 m348).tr0 m355).tr0 m376).tr0 HGw439).tr0 m451).tr0 m456)
   refine ⟨false, ?_, rfl, HM⟩
   ·rw [lawLS_j6]
    try simp only [hsp343]
    try simp only [hsp374]
    rw [if_neg h458]
    all_goals (try rfl)

theorem LinkScript_ok_b7 {w : World} {w549 : World} {A : Option Addr} {cA : Nat} {l : List LAct} {lo : Nat} {hi : Nat} {B : Option Addr} {cB : Nat} {raw : List UInt8} {lo' : Nat} {hi' : Nat} {Q : Exit → Act → World → Prop} (hl : RdA tyLAct w549 lo hi A l) (hm : RdA tyU8 w549 lo' hi' B raw) (HM : Mod (Nil) w w549) (A_n : A = none → cA = 0) (A_c : l.length ≤ cA) (B_n : B = none → cB = 0) (B_c : raw.length ≤ cB) (hu_hl : hi ≤ w549.heap.size) (hu_hm : hi' ≤ w549.heap.size) (hW0 : w.heap.size ≤ w549.heap.size) (ho_7 : hi ≤ w.heap.size) (ho_8 : hi' ≤ w.heap.size) (h8 : ¬ ((l.length : Int) > 100)) (h11 : ¬ ((raw.length : Int) > 600)) (Tf : Nat → Value) :
  (bodyC Try.f3 [1, 1, 1, 1, 1, 1, 0]).wp Try.prog (Exit.then (fun a w' => Fr 269 [(2, .slice B raw.length cB), (7, .pointer none), (9, .pointer none)] a ∧ Mod (Nil) w w' ∧ w549.heap.size ≤ w'.heap.size ∧ RdA tyLAct w' lo hi A l ∧ RdA tyU8 w' lo' hi' B raw ∧ True) Q) ⟨puts (mkT 269 Tf) [(1, .slice A l.length cA), (2, .slice B raw.length cB), (7, .pointer none), (9, .pointer none)], []⟩ w549 := by
 have hl_l := hl.len
 have hm_l := hm.len
 refine wp_seq ?_
 refine c_region (L := [0]) (by kernel_rfl) ?_
 refine st_pure (l := [0]) (rest := []) (L := [(11, .int .i64 0)]) rfl (by kernel_rfl) ?_
 refine st_end ?_
 refine then_n ?_
 refine wp_block ?_
 refine c_loop (σ := Nat × Unit) (fun s a w' => match s with | ⟨k_8, _u⟩ => lawLS_l8 l k_8 = lawLS_l8 l (0 + 1) ∧ 0 < k_8 ∧ Fr 269 [(1, .slice A l.length cA), (2, .slice B raw.length cB), (7, .pointer none), (9, .pointer none), (11, .int .i64 0)] a ∧ Mod (Nil) w w' ∧ w549.heap.size ≤ w'.heap.size ∧ RdA tyLAct w' lo hi A l ∧ RdA tyU8 w' lo' hi' B raw ∧ True) (fun s => s.1) (0 + 1, ()) ?_ ?_
 ·refine ⟨rfl, by omega, Fr.mk (by kernel_rfl) (by kernel_rfl), HM, by omega, hl, hm, trivial⟩
 ·rintro ⟨k_8, _u⟩ a w552 ⟨hL553, hk554, ⟨Tf, rfl⟩, HM', hszw552, hl', hm', -⟩
  clear HM hl hm
  have HM := HM'; clear HM'
  have hl := hl'; clear hl'
  have hm := hm'; clear hm'
  have hl_l := hl.len
  have hm_l := hm.len
  obtain ⟨k_8, rfl⟩ : ∃ k, k_8 = k + 1 := ⟨k_8 - 1, by omega⟩
  refine wp_seq ?_
  refine wp_seq ?_
  refine c_region (L := [0, 1, 2, 3, 4, 5, 6, 7]) (by kernel_rfl) ?_
  by_cases h556 : 0 < (l.length : Int)
  ·skip
   have hb557 : (decide (0 < (l.length : Int))) = true := decide_eq_true h556
   refine st_pure (l := [0, 1, 2, 3, 4]) (rest := [5, 6, 7]) (L := [(59, .int .i64 0), (60, .slice A l.length cA), (61, .int .i64 (l.length : Int)), (62, .bool (decide (0 < (l.length : Int)))), (63, .bool true)]) rfl (Eq.trans (b := some [(59, .int .i64 0), (60, .slice A l.length cA), (61, .int .i64 (l.length : Int)), (62, .bool (decide (0 < (l.length : Int)))), (63, .bool (decide (0 < (l.length : Int))))]) (by kernel_rfl) (by simp only [hb557])) ?_
   refine st_pure (l := [5, 6, 7]) (rest := []) (L := [(64, .pointer none), (65, .bool false), (66, .bool false)]) rfl (by kernel_rfl) ?_
   refine st_end ?_
   refine then_n ?_
   refine c_false (by kernel_rfl) ?_
   refine wp_exit ?_
   refine then_x ?_
   refine then_x ?_
   refine blk_hit ?_
   refine then_n ?_
   refine ⟨Fr.mk (by kernel_rfl) (by kernel_rfl), HM, by omega, hl, hm, trivial⟩
  ·skip
   have hb558 : (decide (0 < (l.length : Int))) = false := decide_eq_false h556
   refine st_pure (l := [0, 1, 2, 3, 4]) (rest := [5, 6, 7]) (L := [(59, .int .i64 0), (60, .slice A l.length cA), (61, .int .i64 (l.length : Int)), (62, .bool (decide (0 < (l.length : Int)))), (63, .bool false)]) rfl (Eq.trans (b := some [(59, .int .i64 0), (60, .slice A l.length cA), (61, .int .i64 (l.length : Int)), (62, .bool (decide (0 < (l.length : Int)))), (63, .bool (decide (0 < (l.length : Int))))]) (by kernel_rfl) (by simp only [hb558])) ?_
   refine st_pure (l := [5, 6, 7]) (rest := []) (L := [(64, undef), (65, undef), (66, .bool false)]) rfl (by kernel_rfl) ?_
   refine st_end ?_
   refine then_n ?_
   refine c_false (by kernel_rfl) ?_
   refine wp_exit ?_
   refine then_x ?_
   refine then_x ?_
   refine blk_hit ?_
   refine then_n ?_
   refine ⟨Fr.mk (by kernel_rfl) (by kernel_rfl), HM, by omega, hl, hm, trivial⟩

theorem LinkScript_ok_b9 {w : World} {w559 : World} {A : Option Addr} {l : List LAct} {lo : Nat} {hi : Nat} {B : Option Addr} {cB : Nat} {raw : List UInt8} {lo' : Nat} {hi' : Nat} {Q : Exit → Act → World → Prop} (hl : RdA tyLAct w559 lo hi A l) (hm : RdA tyU8 w559 lo' hi' B raw) (HM : Mod (Nil) w w559) (B_n : B = none → cB = 0) (B_c : raw.length ≤ cB) (hu_hl : hi ≤ w559.heap.size) (hu_hm : hi' ≤ w559.heap.size) (hW0 : w.heap.size ≤ w559.heap.size) (ho_5 : hi ≤ w.heap.size) (ho_6 : hi' ≤ w.heap.size) (h8 : ¬ ((l.length : Int) > 100)) (h11 : ¬ ((raw.length : Int) > 600)) (Tf : Nat → Value) :
  (bodyC Try.f3 [1, 1, 1, 1, 1, 1, 1, 0]).wp Try.prog (Exit.then (fun a w' => Fr 269 [(2, .slice B raw.length cB)] a ∧ Mod (Nil) w w' ∧ w559.heap.size ≤ w'.heap.size ∧ RdA tyLAct w' lo hi A l ∧ RdA tyU8 w' lo' hi' B raw ∧ True) Q) ⟨puts (mkT 269 Tf) [(2, .slice B raw.length cB), (7, .pointer none), (9, .pointer none)], []⟩ w559 := by
 have hl_l := hl.len
 have hm_l := hm.len
 refine wp_seq ?_
 refine c_region (L := [0, 1]) (by kernel_rfl) ?_
 refine st_pure (l := [0, 1]) (rest := []) (L := [(202, .pointer none), (203, .bool false)]) rfl (by kernel_rfl) ?_
 refine st_end ?_
 refine then_n ?_
 refine c_false (by kernel_rfl) ?_
 refine wp_skip ?_
 refine then_n ?_
 refine ⟨Fr.mk (by kernel_rfl) (by kernel_rfl), HM, by omega, hl, hm, trivial⟩

theorem LinkScript_ok {w : World} {room : Int} {A : Option Addr} {cA : Nat} {l : List LAct} {lo : Nat} {hi : Nat} {B : Option Addr} {cB : Nat} {raw : List UInt8} {lo' : Nat} {hi' : Nat} (hl : RdA tyLAct w lo hi A l) (hm : RdA tyU8 w lo' hi' B raw) (room_r : -9223372036854775808 ≤ room ∧ room ≤ 9223372036854775807) (A_n : A = none → cA = 0) (A_c : l.length ≤ cA) (B_n : B = none → cB = 0) (B_c : raw.length ≤ cB) (hl_hi : hi ≤ w.heap.size) (hm_hi : hi' ≤ w.heap.size) :
  Ret Try.prog 3 #[.int .i64 room, .slice A l.length cA, .slice B raw.length cB] w fun v w' => ∃ d : Bool, lawLS room l raw = d ∧ v = .bool d ∧ Mod (Nil) w w' := by
 have hl_l := hl.len
 have hm_l := hm.len
 have HM : Mod (Nil) w w := Mod.refl _ w
 refine ret_of Try.func3 rfl rfl ?_
 refine wp_seq ?_
 refine c_region (L := [0]) (by kernel_rfl) ?_
 refine st_pure (l := [0]) (rest := []) (L := [(6, .bool false)]) rfl (by kernel_rfl) ?_
 refine st_end ?_
 refine then_n ?_
 refine wp_seq ?_
 refine wp_seq ?_
 refine c_region (L := [0, 1]) (by kernel_rfl) ?_
 refine st_fn (d := 29) (f := 12) (xs := #[]) (R := _) (by kernel_rfl) (lives25_ok (w := w)  ) ?_
 rintro vw2 w2 ⟨d1, hsp3, hv4, m5⟩
 have hszw2 := m5.size
 by_cases h6 : d1 = true
 ·skip
  have hb7 : (d1) = true := by simpa using h6
  rw [hb7] at hv4; subst hv4
  refine st_pure (l := [1]) (rest := []) (L := [(30, .bool false)]) rfl (by kernel_rfl) ?_
  refine st_end ?_
  refine then_n ?_
  refine c_false (by kernel_rfl) ?_
  refine wp_skip ?_
  refine then_n ?_
  refine wp_seq ?_
  refine wp_seq ?_
  refine c_region (L := [0, 1, 2, 3, 4, 5, 6, 7]) (by kernel_rfl) ?_
  by_cases h8 : (l.length : Int) > 100
  ·skip
   have hb9 : (decide ((l.length : Int) > 100)) = true := decide_eq_true h8
   refine st_pure (l := [0, 1, 2, 3]) (rest := [4, 5, 6, 7]) (L := [(31, .slice A l.length cA), (32, .int .i64 (l.length : Int)), (33, .bool (decide ((l.length : Int) > 100))), (34, .bool true)]) rfl (Eq.trans (b := some [(31, .slice A l.length cA), (32, .int .i64 (l.length : Int)), (33, .bool (decide ((l.length : Int) > 100))), (34, .bool (decide ((l.length : Int) > 100)))]) (by kernel_rfl) (by simp only [hb9])) ?_
   refine st_pure (l := [4, 5, 6, 7]) (rest := []) (L := [(35, undef), (36, undef), (37, undef), (38, .bool true)]) rfl (by kernel_rfl) ?_
   refine st_end ?_
   refine then_n ?_
   refine c_true (by kernel_rfl) ?_
   refine wp_seq ?_
   refine c_region (L := [0]) (by kernel_rfl) ?_
   refine st_pure (l := [0]) (rest := []) (L := [(6, .bool true)]) rfl (by kernel_rfl) ?_
   refine st_end ?_
   refine then_n ?_
   refine wp_ret ?_
   refine then_r ?_
   refine post_ret (v := .bool true) (by kernel_rfl) ?_
   replace HM := (HM.tr0 m5)
   refine ⟨true, ?_, rfl, HM⟩
   ·rw [lawLS]
    try simp only [hsp3]
    rw [if_pos h6, if_pos h8]
    all_goals (try rfl)
  ·skip
   have hb10 : (decide ((l.length : Int) > 100)) = false := decide_eq_false h8
   refine st_pure (l := [0, 1, 2, 3]) (rest := [4, 5, 6, 7]) (L := [(31, .slice A l.length cA), (32, .int .i64 (l.length : Int)), (33, .bool (decide ((l.length : Int) > 100))), (34, .bool false)]) rfl (Eq.trans (b := some [(31, .slice A l.length cA), (32, .int .i64 (l.length : Int)), (33, .bool (decide ((l.length : Int) > 100))), (34, .bool (decide ((l.length : Int) > 100)))]) (by kernel_rfl) (by simp only [hb10])) ?_
   by_cases h11 : (raw.length : Int) > 600
   ·skip
    have hb12 : (decide ((raw.length : Int) > 600)) = true := decide_eq_true h11
    refine st_pure (l := [4, 5, 6, 7]) (rest := []) (L := [(35, .slice B raw.length cB), (36, .int .i64 (raw.length : Int)), (37, .bool (decide ((raw.length : Int) > 600))), (38, .bool true)]) rfl (Eq.trans (b := some [(35, .slice B raw.length cB), (36, .int .i64 (raw.length : Int)), (37, .bool (decide ((raw.length : Int) > 600))), (38, .bool (decide ((raw.length : Int) > 600)))]) (by kernel_rfl) (by simp only [hb12])) ?_
    refine st_end ?_
    refine then_n ?_
    refine c_true (by kernel_rfl) ?_
    refine wp_seq ?_
    refine c_region (L := [0]) (by kernel_rfl) ?_
    refine st_pure (l := [0]) (rest := []) (L := [(6, .bool true)]) rfl (by kernel_rfl) ?_
    refine st_end ?_
    refine then_n ?_
    refine wp_ret ?_
    refine then_r ?_
    refine post_ret (v := .bool true) (by kernel_rfl) ?_
    replace HM := (HM.tr0 m5)
    refine ⟨true, ?_, rfl, HM⟩
    ·rw [lawLS]
     try simp only [hsp3]
     rw [if_pos h6, if_neg h8, if_pos h11]
     all_goals (try rfl)
   ·skip
    have hb13 : (decide ((raw.length : Int) > 600)) = false := decide_eq_false h11
    refine st_pure (l := [4, 5, 6, 7]) (rest := []) (L := [(35, .slice B raw.length cB), (36, .int .i64 (raw.length : Int)), (37, .bool (decide ((raw.length : Int) > 600))), (38, .bool false)]) rfl (Eq.trans (b := some [(35, .slice B raw.length cB), (36, .int .i64 (raw.length : Int)), (37, .bool (decide ((raw.length : Int) > 600))), (38, .bool (decide ((raw.length : Int) > 600)))]) (by kernel_rfl) (by simp only [hb13])) ?_
    refine st_end ?_
    refine then_n ?_
    refine c_false (by kernel_rfl) ?_
    refine wp_skip ?_
    refine then_n ?_
    refine wp_seq ?_
    refine c_region (L := [0, 1, 2, 3, 4, 5, 6]) (by kernel_rfl) ?_
    refine st_pure (l := [0]) (rest := [1, 2, 3, 4, 5, 6]) (L := [(40, .int .i64 room)]) rfl (by kernel_rfl) ?_
    by_cases h14 : 1 ≤ room ∧ room ≤ 4096
    ·skip
     have hb15 : (decide (1 ≤ room ∧ room ≤ 4096)) = true := decide_eq_true h14
     refine st_fn (d := 41) (f := 13) (xs := #[.int .i64 room]) (R := _) (by kernel_rfl) (New_ok (w := w2) (room := room) (room_r := by omega) (hroom := by first | omega | (simp only [List.length_append, List.length_cons, List.length_nil, List.length_take, List.length_drop, List.length_set, List.length_replicate] at *; omega))) ?_
     rintro vw22 w22 ⟨r16, A17, c18, lo19, hi20, ring21, rfl, A17_n, A17_c, rfl, hlr24, hr_25, hO_26, m27⟩
     have hszw22 := m27.size
     have lt_hr_25 := hr_25.lt
     have hO_26_b := hO_26.bounds
     refine st_pure (l := [2, 3, 4, 5, 6]) (rest := []) (L := [(39, .tuple #[.pointer (some ⟨r16, 0, none⟩), .int .i64 0]), (42, .pointer (some ⟨r16, 0, none⟩)), (43, .int .i64 0), (7, .pointer (some ⟨r16, 0, none⟩)), (8, .int .i64 0)]) rfl (by kernel_rfl) ?_
     refine st_end ?_
     refine then_n ?_
     refine wp_seq ?_
     refine c_region (L := [0, 1, 2, 3, 4, 5, 6]) (by kernel_rfl) ?_
     refine st_pure (l := [0]) (rest := [1, 2, 3, 4, 5, 6]) (L := [(45, .int .i64 room)]) rfl (by kernel_rfl) ?_
     have hb28 : (decide (1 ≤ room ∧ room ≤ 4096)) = true := decide_eq_true h14
     refine st_fn (d := 46) (f := 14) (xs := #[.int .i64 room]) (R := _) (by kernel_rfl) (rNew_ok (w := w22) (room := room) (room_r := by omega) (hroom := by first | omega | (simp only [List.length_append, List.length_cons, List.length_nil, List.length_take, List.length_drop, List.length_set, List.length_replicate] at *; omega))) ?_
     rintro vw30 w30 ⟨r29, rfl, hlr32, hr_33, m34⟩
     have hszw30 := m34.size
     have lt_hr_33 := hr_33.lt
     refine st_pure (l := [2, 3, 4, 5, 6]) (rest := []) (L := [(44, .tuple #[.pointer (some ⟨r29, 0, none⟩), .int .i64 0]), (47, .pointer (some ⟨r29, 0, none⟩)), (48, .int .i64 0), (9, .pointer (some ⟨r29, 0, none⟩)), (10, .int .i64 0)]) rfl (by kernel_rfl) ?_
     refine st_end ?_
     refine cut_fr 269 [(1, .slice A l.length cA), (2, .slice B raw.length cB), (7, .pointer (some ⟨r16, 0, none⟩)), (8, .int .i64 0), (9, .pointer (some ⟨r29, 0, none⟩)), (10, .int .i64 0)] (by kernel_rfl) (by kernel_rfl) ?_
     intro Tf
     refine wp_seq ?_
     refine wp_seq ?_
     refine c_region (L := [0, 1, 2, 3, 4, 5, 6, 7, 8, 9]) (by kernel_rfl) ?_
     refine st_pure (l := [0, 1, 2, 3, 4, 5, 6, 7, 8, 9]) (rest := []) (L := [(49, .int .i64 0), (50, .int .i64 0), (51, .bool false), (52, .bool false), (53, .pointer (some ⟨r16, 0, none⟩)), (54, .bool false), (55, .pointer (some ⟨r29, 0, none⟩)), (56, .bool false), (57, .bool false), (58, .bool false)]) rfl (by kernel_rfl) ?_
     refine st_end ?_
     refine then_n ?_
     refine c_false (by kernel_rfl) ?_
     refine wp_skip ?_
     refine then_n ?_
     refine wp_seq ?_
     replace hr_25 := (hr_25.mod m34 (fun q => q))
     replace HM := (((HM.tr0 m5).tr0 m27).tr0 m34)
     replace hl := (((hl.mod0 m5).mod0 m27).mod0 m34)
     replace hm := (((hm.mod0 m5).mod0 m27).mod0 m34)
     replace hO_26 := (hO_26.mod0 m34)
     refine c_cut (J := fun a w' => ∃ Ahr_250_1 : Option Addr, ∃ chr_250_1 : Nat, ∃ hr_250_1 : List Msg, ∃ hr_251_1 : Int, ∃ hr_252_1 : Int, ∃ hr_253_1 : Int, ∃ hr_254_1 : Bool, ∃ Ahr_331_1 : Option Addr, ∃ chr_331_1 : Nat, ∃ hr_331_1 : List Msg, ∃ hr_332_1 : Int, ∃ hr_333_1 : Bool, ∃ lohr_331_1 : Nat, ∃ hihr_331_1 : Nat, lawLS_j1 room l = .inr (hr_250_1, hr_251_1, hr_252_1, hr_253_1, hr_254_1, hr_331_1, hr_332_1, hr_333_1) ∧ Fr 269 [(2, .slice B raw.length cB), (7, .pointer (some ⟨r16, 0, none⟩)), (9, .pointer (some ⟨r29, 0, none⟩))] a ∧ Mod (Nil) w w' ∧ w30.heap.size ≤ w'.heap.size ∧ RdA tyLAct w' lo hi A l ∧ RdA tyU8 w' lo' hi' B raw ∧ Blk w' r16 147 [.slice Ahr_250_1 hr_250_1.length chr_250_1, .int .i64 hr_251_1, .int .i64 hr_252_1, .int .i64 hr_253_1, .bool hr_254_1] ∧ Blk w' r29 47 [.int .i64 room, .slice Ahr_331_1 hr_331_1.length chr_331_1, .int .i64 hr_332_1, .bool hr_333_1] ∧ Own tyMsg 35 w' lo19 hi20 (.slice Ahr_250_1 hr_250_1.length chr_250_1) hr_250_1 ∧ RdA tyMsg w' lo19 hi20 Ahr_250_1 hr_250_1 ∧ Own tyMsg 35 w' lohr_331_1 hihr_331_1 (.slice Ahr_331_1 hr_331_1.length chr_331_1) hr_331_1 ∧ RdA tyMsg w' lohr_331_1 hihr_331_1 Ahr_331_1 hr_331_1 ∧ (0 ≤ hr_251_1 ∧ hr_251_1 ≤ 4096) ∧ (0 ≤ hr_252_1 ∧ hr_252_1 ≤ 4096) ∧ (-9223372036854775808 ≤ hr_253_1 ∧ hr_253_1 ≤ 9223372036854775807) ∧ (-9223372036854775808 ≤ hr_332_1 ∧ hr_332_1 ≤ 9223372036854775807) ∧ (Ahr_250_1 = none → chr_250_1 = 0) ∧ (hr_250_1.length ≤ chr_250_1) ∧ (w30.heap.size ≤ lohr_331_1 ∧ lohr_331_1 ≤ hihr_331_1 ∧ hihr_331_1 ≤ w'.heap.size) ∧ (Ahr_331_1 = none → chr_331_1 = 0) ∧ (hr_331_1.length ≤ chr_331_1) ∧ (hr_250_1.length ≤ 4096 ∧ 0 < hr_250_1.length ∧ hr_251_1 < hr_250_1.length ∧ hr_252_1 ≤ hr_250_1.length) ∧ (hr_331_1.length ≤ 4096) ∧ True) (c_blk (bodyC Try.f3 [1, 1, 1, 1, 1, 1, 0]) (by kernel_rfl) (wp_fr 269 [(1, .slice A l.length cA), (2, .slice B raw.length cB), (7, .pointer (some ⟨r16, 0, none⟩)), (9, .pointer (some ⟨r29, 0, none⟩))] (by kernel_rfl) (by kernel_rfl) fun Tf => LinkScript_ok_b1 (w := w) (w30 := w30) (room := room) (A := A) (cA := cA) (l := l) (lo := lo) (hi := hi) (B := B) (cB := cB) (raw := raw) (lo' := lo') (hi' := hi') (r16 := r16) (A17 := A17) (c18 := c18) (lo19 := lo19) (hi20 := hi20) (r29 := r29) (hl := hl) (hm := hm) (hr_25 := hr_25) (hO_26 := hO_26) (hr_33 := hr_33) (HM := HM) (A_n := by exact A_n) (A_c := by first | exact A_c | omega) (B_n := by exact B_n) (B_c := by first | exact B_c | omega) (A17_n := by exact A17_n) (A17_c := by first | exact A17_c | omega) (hI6 := by omega) (hu_hl := by omega) (hu_hm := by omega) (lt_hr_25 := by omega) (hu_hO_26 := by omega) (hv_hO_26 := by omega) (lt_hr_33 := by omega) (hW0 := by omega) (ho_14 := by omega) (ho_15 := by omega) (ho_16 := by omega) (ho_17 := by omega) (ho_18 := by omega) (hs_19 := by omega) (hs_20 := by omega) (hs_21 := by omega) (hv_22 := by first | omega | (simp only [List.length_append, List.length_cons, List.length_nil, List.length_take, List.length_drop, List.length_set, List.length_replicate] at *; omega)) (hv_23 := by first | omega | (simp only [List.length_append, List.length_cons, List.length_nil, List.length_take, List.length_drop, List.length_set, List.length_replicate] at *; omega)) (h8 := by exact h8) (h11 := by exact h11) (h14 := by exact h14) (hQ := ?_) (Tf := Tf))) ?_
     ·intro T v w' hr hp
      refine post_run hr ?_
      obtain ⟨d, hs, hrest⟩ := hp
      refine ⟨d, ?_, hrest⟩
      rw [lawLS]
      try simp only [hsp3]
      rw [if_pos h6, if_neg h8, if_neg h11, if_pos h14]
      simp only [hs]
      all_goals (try rfl)
     ·rintro a w336 ⟨Ahr_250_1, chr_250_1, hr_250_1, hr_251_1, hr_252_1, hr_253_1, hr_254_1, Ahr_331_1, chr_331_1, hr_331_1, hr_332_1, hr_333_1, lohr_331_1, hihr_331_1, hJ337, ⟨Tf, rfl⟩, HM', hszw336, hl', hm', hr_25', hr_33', hO_hr_250_1', hR_hr_250_1', hO_hr_331_1', hR_hr_331_1', hr_251_1_r, hr_252_1_r, hr_253_1_r, hr_332_1_r, Ahr_250_1_n, Ahr_250_1_c, hrg_hr_331_1, Ahr_331_1_n, Ahr_331_1_c, hi0_1, hi1_1, -⟩
      clear HM hl hm hr_25 hO_26 hr_33
      have HM := HM'; clear HM'
      have hl := hl'; clear hl'
      have hm := hm'; clear hm'
      have hr_25 := hr_25'; clear hr_25'
      have hr_33 := hr_33'; clear hr_33'
      have hO_hr_250_1 := hO_hr_250_1'; clear hO_hr_250_1'
      have hR_hr_250_1 := hR_hr_250_1'; clear hR_hr_250_1'
      have hO_hr_331_1 := hO_hr_331_1'; clear hO_hr_331_1'
      have hR_hr_331_1 := hR_hr_331_1'; clear hR_hr_331_1'
      have hl_l := hl.len
      have hm_l := hm.len
      have hO_hr_250_1_b := hO_hr_250_1.bounds
      have hR_hr_250_1_l := hR_hr_250_1.len
      have hO_hr_331_1_b := hO_hr_331_1.bounds
      have hR_hr_331_1_l := hR_hr_331_1.len
      refine wp_seq ?_
      refine c_cut (J := fun a w' => lawLS_j6 room hr_250_1 hr_251_1 hr_252_1 hr_253_1 hr_254_1 hr_331_1 hr_332_1 hr_333_1 = .inr () ∧ Fr 269 [(2, .slice B raw.length cB)] a ∧ Mod (Nil) w w' ∧ w336.heap.size ≤ w'.heap.size ∧ RdA tyLAct w' lo hi A l ∧ RdA tyU8 w' lo' hi' B raw ∧ (hr_250_1.length ≤ 4096 ∧ 0 < hr_250_1.length ∧ hr_251_1 < hr_250_1.length ∧ hr_252_1 ≤ hr_250_1.length) ∧ (hr_331_1.length ≤ 4096) ∧ True) (c_blk (bodyC Try.f3 [1, 1, 1, 1, 1, 1, 1, 0]) (by kernel_rfl) (wp_fr 269 [(2, .slice B raw.length cB), (7, .pointer (some ⟨r16, 0, none⟩)), (9, .pointer (some ⟨r29, 0, none⟩))] (by kernel_rfl) (by kernel_rfl) fun Tf => LinkScript_ok_b6 (w := w) (w336 := w336) (room := room) (A := A) (l := l) (lo := lo) (hi := hi) (B := B) (cB := cB) (raw := raw) (lo' := lo') (hi' := hi') (r16 := r16) (lo19 := lo19) (hi20 := hi20) (r29 := r29) (Ahr_250_1 := Ahr_250_1) (chr_250_1 := chr_250_1) (hr_250_1 := hr_250_1) (hr_251_1 := hr_251_1) (hr_252_1 := hr_252_1) (hr_253_1 := hr_253_1) (hr_254_1 := hr_254_1) (Ahr_331_1 := Ahr_331_1) (chr_331_1 := chr_331_1) (hr_331_1 := hr_331_1) (hr_332_1 := hr_332_1) (hr_333_1 := hr_333_1) (lohr_331_1 := lohr_331_1) (hihr_331_1 := hihr_331_1) (hl := hl) (hm := hm) (hr_25 := hr_25) (hr_33 := hr_33) (hO_hr_250_1 := hO_hr_250_1) (hR_hr_250_1 := hR_hr_250_1) (hO_hr_331_1 := hO_hr_331_1) (hR_hr_331_1 := hR_hr_331_1) (HM := HM) (B_n := by exact B_n) (B_c := by first | exact B_c | omega) (Ahr_250_1_n := by exact Ahr_250_1_n) (Ahr_250_1_c := by first | exact Ahr_250_1_c | omega) (hI4 := by omega) (hI5 := by omega) (hI6 := by omega) (hI7 := by omega) (Ahr_331_1_n := by exact Ahr_331_1_n) (Ahr_331_1_c := by first | exact Ahr_331_1_c | omega) (hI10 := by omega) (hu_hl := by omega) (hu_hm := by omega) (lt_hr_25 := by omega) (lt_hr_33 := by omega) (hu_hO_hr_250_1 := by omega) (hv_hO_hr_250_1 := by omega) (hu_hR_hr_250_1 := by omega) (hu_hO_hr_331_1 := by omega) (hv_hO_hr_331_1 := by omega) (hu_hR_hr_331_1 := by omega) (hW0 := by omega) (ho_22 := by omega) (ho_23 := by omega) (ho_24 := by omega) (ho_25 := by omega) (ho_26 := by omega) (ho_27 := by omega) (hs_28 := by omega) (hs_29 := by omega) (hs_30 := by omega) (hs_31 := by omega) (hs_32 := by omega) (hs_33 := by omega) (hv_34 := by first | omega | (simp only [List.length_append, List.length_cons, List.length_nil, List.length_take, List.length_drop, List.length_set, List.length_replicate] at *; omega)) (hv_35 := by first | omega | (simp only [List.length_append, List.length_cons, List.length_nil, List.length_take, List.length_drop, List.length_set, List.length_replicate] at *; omega)) (h8 := by exact h8) (h11 := by exact h11) (h14 := by exact h14) (hQ := ?_) (Tf := Tf))) ?_
      ·intro T v w' hr hp
       refine post_run hr ?_
       obtain ⟨d, hs, hrest⟩ := hp
       refine ⟨d, ?_, hrest⟩
       rw [lawLS]
       try simp only [hsp3]
       rw [if_pos h6, if_neg h8, if_neg h11, if_pos h14]
       try simp only [hJ337]
       simp only [hs]
       all_goals (try rfl)
      ·rintro a w461 ⟨hJ462, ⟨Tf, rfl⟩, HM', hszw461, hl', hm', hi0_6, hi1_6, -⟩
       clear HM hl hm hr_25 hr_33 hO_hr_250_1 hR_hr_250_1 hO_hr_331_1 hR_hr_331_1
       have HM := HM'; clear HM'
       have hl := hl'; clear hl'
       have hm := hm'; clear hm'
       have hl_l := hl.len
       have hm_l := hm.len
       refine wp_seq ?_
       refine c_region (L := [0, 1, 2, 3, 4, 5, 6, 7]) (by kernel_rfl) ?_
       refine st_pure (l := [0]) (rest := [1, 2, 3, 4, 5, 6, 7]) (L := [(239, .slice B raw.length cB)]) rfl (by kernel_rfl) ?_
       refine st_fn (d := 240) (f := 33) (xs := #[.slice B raw.length cB]) (R := _) (by kernel_rfl) (kit_Own (w := w461) (A := B) (cA := cB) (l := raw) (lo := lo') (hi := hi') (hl := hm) (A_n := B_n) (A_c := by first | exact B_c | omega) (hl_hi := by omega)) ?_
       rintro vw466 w466 ⟨A464, c465, rfl, A464_n, A464_c, hO_468, hR_469, m470⟩
       have hszw466 := m470.size
       have hO_468_b := hO_468.bounds
       have hR_469_l := hR_469.len
       refine st_fn (d := 241) (f := 32) (xs := #[.slice A464 raw.length c465]) (R := _) (by kernel_rfl) (Read_ok (w := w466) (A := A464) (cA := c465) (l := raw) (lo := w461.heap.size) (hi := w466.heap.size) (hl := hR_469) (A_n := A464_n) (A_c := by first | exact A464_c | omega) (hl_hi := by omega)) ?_
       rintro vw481 w481 (⟨r471, A472, c473, ring474, fr475, ct476, mk477, en478, lo479, hi480, hsp482, rfl, A472_n, A472_c, fr475_r, ct476_r, mk477_r, hlen484, hlr485, hr_486, ho_487, m488⟩ | ⟨hsp489, rfl, m491⟩)
       ·skip
        have hszw481 := m488.size
        have lt_hr_486 := hr_486.lt
        have ho_487_b := ho_487.bounds
        refine st_pure (l := [3, 4, 5, 6, 7]) (rest := []) (L := [(238, .tuple #[.pointer (some ⟨r471, 0, none⟩), .int .i64 0]), (242, .pointer (some ⟨r471, 0, none⟩)), (243, .int .i64 0), (27, .pointer (some ⟨r471, 0, none⟩)), (8, .int .i64 0)]) rfl (by kernel_rfl) ?_
        refine st_end ?_
        refine then_n ?_
        refine wp_seq ?_
        refine c_region (L := [0, 1, 2, 3, 4, 5, 6]) (by kernel_rfl) ?_
        refine st_pure (l := [0]) (rest := [1, 2, 3, 4, 5, 6]) (L := [(245, .slice B raw.length cB)]) rfl (by kernel_rfl) ?_
        replace hm := ((hm.mod0 m470).mod0 m488)
        refine st_fn (d := 246) (f := 37) (xs := #[.slice B raw.length cB]) (R := _) (by kernel_rfl) (rRead_ok (w := w481) (A := B) (cA := cB) (l := raw) (lo := lo') (hi := hi') (hl := hm) (A_n := B_n) (A_c := by first | exact B_c | omega) (hl_hi := by omega)) ?_
        rintro vw501 w501 (⟨r492, A493, c494, mo495, l496, mk497, en498, lo499, hi500, hsp502, rfl, mo495_r, A493_n, A493_c, mk497_r, hlen504, hlr505, hr_506, ho_507, m508⟩ | ⟨hsp509, rfl, m511⟩)
        ·skip
         have hszw501 := m508.size
         have lt_hr_506 := hr_506.lt
         have ho_507_b := ho_507.bounds
         refine st_pure (l := [2, 3, 4, 5, 6]) (rest := []) (L := [(244, .tuple #[.pointer (some ⟨r492, 0, none⟩), .int .i64 0]), (247, .pointer (some ⟨r492, 0, none⟩)), (248, .int .i64 0), (28, .pointer (some ⟨r492, 0, none⟩)), (10, .int .i64 0)]) rfl (by kernel_rfl) ?_
         refine st_end ?_
         refine then_n ?_
         refine wp_seq ?_
         refine c_region (L := [0, 1, 2, 3, 4, 5, 6, 7, 8, 9, 10, 11, 12, 13, 14, 15, 16, 17, 18, 19, 20]) (by kernel_rfl) ?_
         refine st_pure (l := [0, 1, 2, 3, 4, 5, 6, 7, 8, 9, 10, 11, 12, 13, 14]) (rest := [15, 16, 17, 18, 19, 20]) (L := [(249, .int .i64 0), (250, .int .i64 0), (251, .bool true), (252, .bool true), (253, .pointer (some ⟨r471, 0, none⟩)), (254, .bool false), (255, .pointer (some ⟨r492, 0, none⟩)), (256, .bool false), (257, .bool true), (258, .bool true), (259, .bool true), (260, .pointer (some ⟨r492, 0, none⟩)), (261, .bool false), (262, .bool false), (263, .pointer (some ⟨r471, 0, none⟩))]) rfl (by kernel_rfl) ?_
         replace hr_486 := (hr_486.mod m508 (fun q => q))
         replace ho_487 := (ho_487.mod0 m508)
         refine st_fn (d := 264) (f := 34) (xs := #[.pointer (some ⟨r471, 0, none⟩)]) (R := _) (by kernel_rfl) (LBytes_ok (w := w501) (r := r471) (A := A472) (cA := c473) (ring := ring474) (fr := fr475) (ct := ct476) (mk := mk477) (en := en478) (lo := lo479) (hi := hi480) (hr := hr_486) (hq := (ho_487.rdSelf.2.2.2)) (A_n := A472_n) (A_c := by first | exact A472_c | omega) (fr_r := by omega) (ct_r := by omega) (mk_r := by omega) (hq_hi := by omega) (hlen := by first | omega | (simp only [List.length_append, List.length_cons, List.length_nil, List.length_take, List.length_drop, List.length_set, List.length_replicate] at *; omega))) ?_
         rintro vw515 w515 ⟨l512, A513, c514, rfl, A513_n, A513_c, rfl, l2_b517, hO_518, hR_519, m520⟩
         have hszw515 := m520.size
         have hO_518_b := hO_518.bounds
         have hR_519_l := hR_519.len
         refine st_pure (l := [16]) (rest := [17, 18, 19, 20]) (L := [(265, .slice B raw.length cB)]) rfl (by kernel_rfl) ?_
         replace hm := ((hm.mod0 m508).mod0 m520)
         refine st_fn (d := 266) (f := 17) (xs := #[.slice A513 ((lbytes ring474 fr475 ct476 mk477 en478).length) c514, .slice B raw.length cB]) (R := _) (by kernel_rfl) (kit_Bytes (w := w515) (A := A513) (cA := c514) (l := lbytes ring474 fr475 ct476 mk477 en478) (lo := w501.heap.size) (hi := w515.heap.size) (B := B) (cB := cB) (m := raw) (lo' := lo') (hi' := hi') (hl := hR_519) (hm := hm) (A_n := A513_n) (A_c := by first | exact A513_c | omega) (B_n := B_n) (B_c := by first | exact B_c | omega) (hl_hi := by omega) (hm_hi := by omega)) ?_
         rintro vw521 w521 ⟨rfl, m523⟩
         have hszw521 := m523.size
         refine st_pure (l := [18, 19, 20]) (rest := []) (L := [(267, .bool (decide ((lbytes ring474 fr475 ct476 mk477 en478) = raw))), (268, .bool (decide ((lbytes ring474 fr475 ct476 mk477 en478) = raw))), (6, .bool (decide ((lbytes ring474 fr475 ct476 mk477 en478) = raw)))]) rfl (by kernel_rfl) ?_
         refine st_end ?_
         refine cut_fr 269 [(6, .bool (decide ((lbytes ring474 fr475 ct476 mk477 en478) = raw)))] (by kernel_rfl) (by kernel_rfl) ?_
         intro Tf
         refine wp_ret ?_
         refine post_ret (v := .bool (decide ((lbytes ring474 fr475 ct476 mk477 en478) = raw))) (by kernel_rfl) ?_
         replace HM := (((((HM.tr0 m470).tr0 m488).tr0 m508).tr0 m520).tr0 m523)
         refine ⟨decide ((lbytes ring474 fr475 ct476 mk477 en478) = raw), ?_, rfl, HM⟩
         ·rw [lawLS]
          try simp only [hsp3]
          rw [if_pos h6, if_neg h8, if_neg h11, if_pos h14]
          try simp only [hJ337]
          try simp only [hJ462]
          try simp only [hsp482]
          try simp only [hsp502]
          all_goals (try rfl)
        ·skip
         have hszw501 := m511.size
         refine st_pure (l := [2, 3, 4, 5, 6]) (rest := []) (L := [(244, .tuple #[.pointer none, .int .i64 4]), (247, .pointer none), (248, .int .i64 4), (28, .pointer none), (10, .int .i64 4)]) rfl (by kernel_rfl) ?_
         refine st_end ?_
         refine then_n ?_
         refine wp_seq ?_
         refine c_region (L := [0, 1, 2, 3, 4, 5, 6, 7, 8, 9, 10, 11, 12, 13, 14, 15, 16, 17, 18, 19, 20]) (by kernel_rfl) ?_
         refine st_pure (l := [0, 1, 2, 3, 4, 5, 6, 7, 8, 9, 10, 11, 12, 13, 14, 15, 16, 17, 18, 19, 20]) (rest := []) (L := [(249, .int .i64 0), (250, .int .i64 4), (251, .bool false), (252, .bool false), (253, undef), (254, undef), (255, undef), (256, undef), (257, undef), (258, .bool false), (259, .bool false), (260, undef), (261, undef), (262, undef), (263, undef), (264, undef), (265, undef), (266, undef), (267, undef), (268, .bool false), (6, .bool false)]) rfl (by kernel_rfl) ?_
         refine st_end ?_
         refine cut_fr 269 [(6, .bool false)] (by kernel_rfl) (by kernel_rfl) ?_
         intro Tf
         refine wp_ret ?_
         refine post_ret (v := .bool false) (by kernel_rfl) ?_
         replace HM := (((HM.tr0 m470).tr0 m488).tr0 m511)
         refine ⟨false, ?_, rfl, HM⟩
         ·rw [lawLS]
          try simp only [hsp3]
          rw [if_pos h6, if_neg h8, if_neg h11, if_pos h14]
          try simp only [hJ337]
          try simp only [hJ462]
          try simp only [hsp482]
          try simp only [hsp509]
          all_goals (try rfl)
       ·skip
        have hszw481 := m491.size
        refine st_pure (l := [3, 4, 5, 6, 7]) (rest := []) (L := [(238, .tuple #[.pointer none, .int .i64 4]), (242, .pointer none), (243, .int .i64 4), (27, .pointer none), (8, .int .i64 4)]) rfl (by kernel_rfl) ?_
        refine st_end ?_
        refine then_n ?_
        refine wp_seq ?_
        refine c_region (L := [0, 1, 2, 3, 4, 5, 6]) (by kernel_rfl) ?_
        refine st_pure (l := [0]) (rest := [1, 2, 3, 4, 5, 6]) (L := [(245, .slice B raw.length cB)]) rfl (by kernel_rfl) ?_
        replace hm := ((hm.mod0 m470).mod0 m491)
        refine st_fn (d := 246) (f := 37) (xs := #[.slice B raw.length cB]) (R := _) (by kernel_rfl) (rRead_ok (w := w481) (A := B) (cA := cB) (l := raw) (lo := lo') (hi := hi') (hl := hm) (A_n := B_n) (A_c := by first | exact B_c | omega) (hl_hi := by omega)) ?_
        rintro vw533 w533 (⟨r524, A525, c526, mo527, l528, mk529, en530, lo531, hi532, hsp534, rfl, mo527_r, A525_n, A525_c, mk529_r, hlen536, hlr537, hr_538, ho_539, m540⟩ | ⟨hsp541, rfl, m543⟩)
        ·skip
         have hszw533 := m540.size
         have lt_hr_538 := hr_538.lt
         have ho_539_b := ho_539.bounds
         refine st_pure (l := [2, 3, 4, 5, 6]) (rest := []) (L := [(244, .tuple #[.pointer (some ⟨r524, 0, none⟩), .int .i64 0]), (247, .pointer (some ⟨r524, 0, none⟩)), (248, .int .i64 0), (28, .pointer (some ⟨r524, 0, none⟩)), (10, .int .i64 0)]) rfl (by kernel_rfl) ?_
         refine st_end ?_
         refine then_n ?_
         refine wp_seq ?_
         refine c_region (L := [0, 1, 2, 3, 4, 5, 6, 7, 8, 9, 10, 11, 12, 13, 14, 15, 16, 17, 18, 19, 20]) (by kernel_rfl) ?_
         refine st_pure (l := [0, 1, 2, 3, 4, 5, 6, 7, 8, 9, 10, 11, 12, 13, 14, 15, 16, 17, 18, 19, 20]) (rest := []) (L := [(249, .int .i64 4), (250, .int .i64 0), (251, .bool false), (252, .bool false), (253, undef), (254, undef), (255, undef), (256, undef), (257, undef), (258, .bool false), (259, .bool false), (260, undef), (261, undef), (262, undef), (263, undef), (264, undef), (265, undef), (266, undef), (267, undef), (268, .bool false), (6, .bool false)]) rfl (by kernel_rfl) ?_
         refine st_end ?_
         refine cut_fr 269 [(6, .bool false)] (by kernel_rfl) (by kernel_rfl) ?_
         intro Tf
         refine wp_ret ?_
         refine post_ret (v := .bool false) (by kernel_rfl) ?_
         replace HM := (((HM.tr0 m470).tr0 m491).tr0 m540)
         refine ⟨false, ?_, rfl, HM⟩
         ·rw [lawLS]
          try simp only [hsp3]
          rw [if_pos h6, if_neg h8, if_neg h11, if_pos h14]
          try simp only [hJ337]
          try simp only [hJ462]
          try simp only [hsp489]
          try simp only [hsp534]
          all_goals (try rfl)
        ·skip
         have hszw533 := m543.size
         refine st_pure (l := [2, 3, 4, 5, 6]) (rest := []) (L := [(244, .tuple #[.pointer none, .int .i64 4]), (247, .pointer none), (248, .int .i64 4), (28, .pointer none), (10, .int .i64 4)]) rfl (by kernel_rfl) ?_
         refine st_end ?_
         refine then_n ?_
         refine wp_seq ?_
         refine c_region (L := [0, 1, 2, 3, 4, 5, 6, 7, 8, 9, 10, 11, 12, 13, 14, 15, 16, 17, 18, 19, 20]) (by kernel_rfl) ?_
         refine st_pure (l := [0, 1, 2, 3, 4, 5, 6, 7, 8, 9, 10, 11, 12, 13, 14, 15, 16, 17, 18, 19, 20]) (rest := []) (L := [(249, .int .i64 4), (250, .int .i64 4), (251, .bool true), (252, .bool true), (253, .pointer none), (254, .bool true), (255, .pointer none), (256, .bool true), (257, .bool true), (258, .bool true), (259, .bool true), (260, .pointer none), (261, .bool true), (262, .bool true), (263, undef), (264, undef), (265, undef), (266, undef), (267, .bool true), (268, .bool true), (6, .bool true)]) rfl (by kernel_rfl) ?_
         refine st_end ?_
         refine cut_fr 269 [(6, .bool true)] (by kernel_rfl) (by kernel_rfl) ?_
         intro Tf
         refine wp_ret ?_
         refine post_ret (v := .bool true) (by kernel_rfl) ?_
         replace HM := (((HM.tr0 m470).tr0 m491).tr0 m543)
         refine ⟨true, ?_, rfl, HM⟩
         ·rw [lawLS]
          try simp only [hsp3]
          rw [if_pos h6, if_neg h8, if_neg h11, if_pos h14]
          try simp only [hJ337]
          try simp only [hJ462]
          try simp only [hsp489]
          try simp only [hsp541]
          all_goals (try rfl)
    ·skip
     have hb544 : (decide (1 ≤ room ∧ room ≤ 4096)) = false := decide_eq_false h14
     refine st_fn (d := 41) (f := 13) (xs := #[.int .i64 room]) (R := _) (by kernel_rfl) (New_no (w := w2) (room := room) (room_r := by omega) (hroom := by first | omega | (simp only [List.length_append, List.length_cons, List.length_nil, List.length_take, List.length_drop, List.length_set, List.length_replicate] at *; omega))) ?_
     rintro vw545 w545 ⟨rfl, m547⟩
     have hszw545 := m547.size
     refine st_pure (l := [2, 3, 4, 5, 6]) (rest := []) (L := [(39, .tuple #[.pointer none, .int .i64 2]), (42, .pointer none), (43, .int .i64 2), (7, .pointer none), (8, .int .i64 2)]) rfl (by kernel_rfl) ?_
     refine st_end ?_
     refine then_n ?_
     refine wp_seq ?_
     refine c_region (L := [0, 1, 2, 3, 4, 5, 6]) (by kernel_rfl) ?_
     refine st_pure (l := [0]) (rest := [1, 2, 3, 4, 5, 6]) (L := [(45, .int .i64 room)]) rfl (by kernel_rfl) ?_
     have hb548 : (decide (1 ≤ room ∧ room ≤ 4096)) = false := decide_eq_false h14
     refine st_fn (d := 46) (f := 14) (xs := #[.int .i64 room]) (R := _) (by kernel_rfl) (rNew_no (w := w545) (room := room) (room_r := by omega) (hroom := by first | omega | (simp only [List.length_append, List.length_cons, List.length_nil, List.length_take, List.length_drop, List.length_set, List.length_replicate] at *; omega))) ?_
     rintro vw549 w549 ⟨rfl, m551⟩
     have hszw549 := m551.size
     refine st_pure (l := [2, 3, 4, 5, 6]) (rest := []) (L := [(44, .tuple #[.pointer none, .int .i64 2]), (47, .pointer none), (48, .int .i64 2), (9, .pointer none), (10, .int .i64 2)]) rfl (by kernel_rfl) ?_
     refine st_end ?_
     refine cut_fr 269 [(1, .slice A l.length cA), (2, .slice B raw.length cB), (7, .pointer none), (8, .int .i64 2), (9, .pointer none), (10, .int .i64 2)] (by kernel_rfl) (by kernel_rfl) ?_
     intro Tf
     refine wp_seq ?_
     refine wp_seq ?_
     refine c_region (L := [0, 1, 2, 3, 4, 5, 6, 7, 8, 9]) (by kernel_rfl) ?_
     refine st_pure (l := [0, 1, 2, 3, 4, 5, 6, 7, 8, 9]) (rest := []) (L := [(49, .int .i64 2), (50, .int .i64 2), (51, .bool false), (52, .bool false), (53, .pointer none), (54, .bool true), (55, .pointer none), (56, .bool true), (57, .bool false), (58, .bool false)]) rfl (by kernel_rfl) ?_
     refine st_end ?_
     refine then_n ?_
     refine c_false (by kernel_rfl) ?_
     refine wp_skip ?_
     refine then_n ?_
     refine wp_seq ?_
     replace HM := (((HM.tr0 m5).tr0 m547).tr0 m551)
     replace hl := (((hl.mod0 m5).mod0 m547).mod0 m551)
     replace hm := (((hm.mod0 m5).mod0 m547).mod0 m551)
     refine c_cut (J := fun a w' => Fr 269 [(2, .slice B raw.length cB), (7, .pointer none), (9, .pointer none)] a ∧ Mod (Nil) w w' ∧ w549.heap.size ≤ w'.heap.size ∧ RdA tyLAct w' lo hi A l ∧ RdA tyU8 w' lo' hi' B raw ∧ True) (c_blk (bodyC Try.f3 [1, 1, 1, 1, 1, 1, 0]) (by kernel_rfl) (wp_fr 269 [(1, .slice A l.length cA), (2, .slice B raw.length cB), (7, .pointer none), (9, .pointer none)] (by kernel_rfl) (by kernel_rfl) fun Tf => LinkScript_ok_b7 (w := w) (w549 := w549) (A := A) (cA := cA) (l := l) (lo := lo) (hi := hi) (B := B) (cB := cB) (raw := raw) (lo' := lo') (hi' := hi') (hl := hl) (hm := hm) (HM := HM) (A_n := by exact A_n) (A_c := by first | exact A_c | omega) (B_n := by exact B_n) (B_c := by first | exact B_c | omega) (hu_hl := by omega) (hu_hm := by omega) (hW0 := by omega) (ho_7 := by omega) (ho_8 := by omega) (h8 := by exact h8) (h11 := by exact h11) (Tf := Tf))) ?_
     ·rintro a w559 ⟨⟨Tf, rfl⟩, HM', hszw559, hl', hm', -⟩
      clear HM hl hm
      have HM := HM'; clear HM'
      have hl := hl'; clear hl'
      have hm := hm'; clear hm'
      have hl_l := hl.len
      have hm_l := hm.len
      refine wp_seq ?_
      refine c_cut (J := fun a w' => Fr 269 [(2, .slice B raw.length cB)] a ∧ Mod (Nil) w w' ∧ w559.heap.size ≤ w'.heap.size ∧ RdA tyLAct w' lo hi A l ∧ RdA tyU8 w' lo' hi' B raw ∧ True) (c_blk (bodyC Try.f3 [1, 1, 1, 1, 1, 1, 1, 0]) (by kernel_rfl) (wp_fr 269 [(2, .slice B raw.length cB), (7, .pointer none), (9, .pointer none)] (by kernel_rfl) (by kernel_rfl) fun Tf => LinkScript_ok_b9 (w := w) (w559 := w559) (A := A) (l := l) (lo := lo) (hi := hi) (B := B) (cB := cB) (raw := raw) (lo' := lo') (hi' := hi') (hl := hl) (hm := hm) (HM := HM) (B_n := by exact B_n) (B_c := by first | exact B_c | omega) (hu_hl := by omega) (hu_hm := by omega) (hW0 := by omega) (ho_5 := by omega) (ho_6 := by omega) (h8 := by exact h8) (h11 := by exact h11) (Tf := Tf))) ?_
      ·rintro a w562 ⟨⟨Tf, rfl⟩, HM', hszw562, hl', hm', -⟩
       clear HM hl hm
       have HM := HM'; clear HM'
       have hl := hl'; clear hl'
       have hm := hm'; clear hm'
       have hl_l := hl.len
       have hm_l := hm.len
       refine wp_seq ?_
       refine c_region (L := [0, 1, 2, 3, 4, 5, 6, 7]) (by kernel_rfl) ?_
       refine st_pure (l := [0]) (rest := [1, 2, 3, 4, 5, 6, 7]) (L := [(239, .slice B raw.length cB)]) rfl (by kernel_rfl) ?_
       refine st_fn (d := 240) (f := 33) (xs := #[.slice B raw.length cB]) (R := _) (by kernel_rfl) (kit_Own (w := w562) (A := B) (cA := cB) (l := raw) (lo := lo') (hi := hi') (hl := hm) (A_n := B_n) (A_c := by first | exact B_c | omega) (hl_hi := by omega)) ?_
       rintro vw567 w567 ⟨A565, c566, rfl, A565_n, A565_c, hO_569, hR_570, m571⟩
       have hszw567 := m571.size
       have hO_569_b := hO_569.bounds
       have hR_570_l := hR_570.len
       refine st_fn (d := 241) (f := 32) (xs := #[.slice A565 raw.length c566]) (R := _) (by kernel_rfl) (Read_ok (w := w567) (A := A565) (cA := c566) (l := raw) (lo := w562.heap.size) (hi := w567.heap.size) (hl := hR_570) (A_n := A565_n) (A_c := by first | exact A565_c | omega) (hl_hi := by omega)) ?_
       rintro vw582 w582 (⟨r572, A573, c574, ring575, fr576, ct577, mk578, en579, lo580, hi581, hsp583, rfl, A573_n, A573_c, fr576_r, ct577_r, mk578_r, hlen585, hlr586, hr_587, ho_588, m589⟩ | ⟨hsp590, rfl, m592⟩)
       ·skip
        have hszw582 := m589.size
        have lt_hr_587 := hr_587.lt
        have ho_588_b := ho_588.bounds
        refine st_pure (l := [3, 4, 5, 6, 7]) (rest := []) (L := [(238, .tuple #[.pointer (some ⟨r572, 0, none⟩), .int .i64 0]), (242, .pointer (some ⟨r572, 0, none⟩)), (243, .int .i64 0), (27, .pointer (some ⟨r572, 0, none⟩)), (8, .int .i64 0)]) rfl (by kernel_rfl) ?_
        refine st_end ?_
        refine then_n ?_
        refine wp_seq ?_
        refine c_region (L := [0, 1, 2, 3, 4, 5, 6]) (by kernel_rfl) ?_
        refine st_pure (l := [0]) (rest := [1, 2, 3, 4, 5, 6]) (L := [(245, .slice B raw.length cB)]) rfl (by kernel_rfl) ?_
        replace hm := ((hm.mod0 m571).mod0 m589)
        refine st_fn (d := 246) (f := 37) (xs := #[.slice B raw.length cB]) (R := _) (by kernel_rfl) (rRead_ok (w := w582) (A := B) (cA := cB) (l := raw) (lo := lo') (hi := hi') (hl := hm) (A_n := B_n) (A_c := by first | exact B_c | omega) (hl_hi := by omega)) ?_
        rintro vw602 w602 (⟨r593, A594, c595, mo596, l597, mk598, en599, lo600, hi601, hsp603, rfl, mo596_r, A594_n, A594_c, mk598_r, hlen605, hlr606, hr_607, ho_608, m609⟩ | ⟨hsp610, rfl, m612⟩)
        ·skip
         have hszw602 := m609.size
         have lt_hr_607 := hr_607.lt
         have ho_608_b := ho_608.bounds
         refine st_pure (l := [2, 3, 4, 5, 6]) (rest := []) (L := [(244, .tuple #[.pointer (some ⟨r593, 0, none⟩), .int .i64 0]), (247, .pointer (some ⟨r593, 0, none⟩)), (248, .int .i64 0), (28, .pointer (some ⟨r593, 0, none⟩)), (10, .int .i64 0)]) rfl (by kernel_rfl) ?_
         refine st_end ?_
         refine then_n ?_
         refine wp_seq ?_
         refine c_region (L := [0, 1, 2, 3, 4, 5, 6, 7, 8, 9, 10, 11, 12, 13, 14, 15, 16, 17, 18, 19, 20]) (by kernel_rfl) ?_
         refine st_pure (l := [0, 1, 2, 3, 4, 5, 6, 7, 8, 9, 10, 11, 12, 13, 14]) (rest := [15, 16, 17, 18, 19, 20]) (L := [(249, .int .i64 0), (250, .int .i64 0), (251, .bool true), (252, .bool true), (253, .pointer (some ⟨r572, 0, none⟩)), (254, .bool false), (255, .pointer (some ⟨r593, 0, none⟩)), (256, .bool false), (257, .bool true), (258, .bool true), (259, .bool true), (260, .pointer (some ⟨r593, 0, none⟩)), (261, .bool false), (262, .bool false), (263, .pointer (some ⟨r572, 0, none⟩))]) rfl (by kernel_rfl) ?_
         replace hr_587 := (hr_587.mod m609 (fun q => q))
         replace ho_588 := (ho_588.mod0 m609)
         refine st_fn (d := 264) (f := 34) (xs := #[.pointer (some ⟨r572, 0, none⟩)]) (R := _) (by kernel_rfl) (LBytes_ok (w := w602) (r := r572) (A := A573) (cA := c574) (ring := ring575) (fr := fr576) (ct := ct577) (mk := mk578) (en := en579) (lo := lo580) (hi := hi581) (hr := hr_587) (hq := (ho_588.rdSelf.2.2.2)) (A_n := A573_n) (A_c := by first | exact A573_c | omega) (fr_r := by omega) (ct_r := by omega) (mk_r := by omega) (hq_hi := by omega) (hlen := by first | omega | (simp only [List.length_append, List.length_cons, List.length_nil, List.length_take, List.length_drop, List.length_set, List.length_replicate] at *; omega))) ?_
         rintro vw616 w616 ⟨l613, A614, c615, rfl, A614_n, A614_c, rfl, l2_b618, hO_619, hR_620, m621⟩
         have hszw616 := m621.size
         have hO_619_b := hO_619.bounds
         have hR_620_l := hR_620.len
         refine st_pure (l := [16]) (rest := [17, 18, 19, 20]) (L := [(265, .slice B raw.length cB)]) rfl (by kernel_rfl) ?_
         replace hm := ((hm.mod0 m609).mod0 m621)
         refine st_fn (d := 266) (f := 17) (xs := #[.slice A614 ((lbytes ring575 fr576 ct577 mk578 en579).length) c615, .slice B raw.length cB]) (R := _) (by kernel_rfl) (kit_Bytes (w := w616) (A := A614) (cA := c615) (l := lbytes ring575 fr576 ct577 mk578 en579) (lo := w602.heap.size) (hi := w616.heap.size) (B := B) (cB := cB) (m := raw) (lo' := lo') (hi' := hi') (hl := hR_620) (hm := hm) (A_n := A614_n) (A_c := by first | exact A614_c | omega) (B_n := B_n) (B_c := by first | exact B_c | omega) (hl_hi := by omega) (hm_hi := by omega)) ?_
         rintro vw622 w622 ⟨rfl, m624⟩
         have hszw622 := m624.size
         refine st_pure (l := [18, 19, 20]) (rest := []) (L := [(267, .bool (decide ((lbytes ring575 fr576 ct577 mk578 en579) = raw))), (268, .bool (decide ((lbytes ring575 fr576 ct577 mk578 en579) = raw))), (6, .bool (decide ((lbytes ring575 fr576 ct577 mk578 en579) = raw)))]) rfl (by kernel_rfl) ?_
         refine st_end ?_
         refine cut_fr 269 [(6, .bool (decide ((lbytes ring575 fr576 ct577 mk578 en579) = raw)))] (by kernel_rfl) (by kernel_rfl) ?_
         intro Tf
         refine wp_ret ?_
         refine post_ret (v := .bool (decide ((lbytes ring575 fr576 ct577 mk578 en579) = raw))) (by kernel_rfl) ?_
         replace HM := (((((HM.tr0 m571).tr0 m589).tr0 m609).tr0 m621).tr0 m624)
         refine ⟨decide ((lbytes ring575 fr576 ct577 mk578 en579) = raw), ?_, rfl, HM⟩
         ·rw [lawLS]
          try simp only [hsp3]
          rw [if_pos h6, if_neg h8, if_neg h11, if_neg h14]
          try simp only [hsp583]
          try simp only [hsp603]
          all_goals (try rfl)
        ·skip
         have hszw602 := m612.size
         refine st_pure (l := [2, 3, 4, 5, 6]) (rest := []) (L := [(244, .tuple #[.pointer none, .int .i64 4]), (247, .pointer none), (248, .int .i64 4), (28, .pointer none), (10, .int .i64 4)]) rfl (by kernel_rfl) ?_
         refine st_end ?_
         refine then_n ?_
         refine wp_seq ?_
         refine c_region (L := [0, 1, 2, 3, 4, 5, 6, 7, 8, 9, 10, 11, 12, 13, 14, 15, 16, 17, 18, 19, 20]) (by kernel_rfl) ?_
         refine st_pure (l := [0, 1, 2, 3, 4, 5, 6, 7, 8, 9, 10, 11, 12, 13, 14, 15, 16, 17, 18, 19, 20]) (rest := []) (L := [(249, .int .i64 0), (250, .int .i64 4), (251, .bool false), (252, .bool false), (253, undef), (254, undef), (255, undef), (256, undef), (257, undef), (258, .bool false), (259, .bool false), (260, undef), (261, undef), (262, undef), (263, undef), (264, undef), (265, undef), (266, undef), (267, undef), (268, .bool false), (6, .bool false)]) rfl (by kernel_rfl) ?_
         refine st_end ?_
         refine cut_fr 269 [(6, .bool false)] (by kernel_rfl) (by kernel_rfl) ?_
         intro Tf
         refine wp_ret ?_
         refine post_ret (v := .bool false) (by kernel_rfl) ?_
         replace HM := (((HM.tr0 m571).tr0 m589).tr0 m612)
         refine ⟨false, ?_, rfl, HM⟩
         ·rw [lawLS]
          try simp only [hsp3]
          rw [if_pos h6, if_neg h8, if_neg h11, if_neg h14]
          try simp only [hsp583]
          try simp only [hsp610]
          all_goals (try rfl)
       ·skip
        have hszw582 := m592.size
        refine st_pure (l := [3, 4, 5, 6, 7]) (rest := []) (L := [(238, .tuple #[.pointer none, .int .i64 4]), (242, .pointer none), (243, .int .i64 4), (27, .pointer none), (8, .int .i64 4)]) rfl (by kernel_rfl) ?_
        refine st_end ?_
        refine then_n ?_
        refine wp_seq ?_
        refine c_region (L := [0, 1, 2, 3, 4, 5, 6]) (by kernel_rfl) ?_
        refine st_pure (l := [0]) (rest := [1, 2, 3, 4, 5, 6]) (L := [(245, .slice B raw.length cB)]) rfl (by kernel_rfl) ?_
        replace hm := ((hm.mod0 m571).mod0 m592)
        refine st_fn (d := 246) (f := 37) (xs := #[.slice B raw.length cB]) (R := _) (by kernel_rfl) (rRead_ok (w := w582) (A := B) (cA := cB) (l := raw) (lo := lo') (hi := hi') (hl := hm) (A_n := B_n) (A_c := by first | exact B_c | omega) (hl_hi := by omega)) ?_
        rintro vw634 w634 (⟨r625, A626, c627, mo628, l629, mk630, en631, lo632, hi633, hsp635, rfl, mo628_r, A626_n, A626_c, mk630_r, hlen637, hlr638, hr_639, ho_640, m641⟩ | ⟨hsp642, rfl, m644⟩)
        ·skip
         have hszw634 := m641.size
         have lt_hr_639 := hr_639.lt
         have ho_640_b := ho_640.bounds
         refine st_pure (l := [2, 3, 4, 5, 6]) (rest := []) (L := [(244, .tuple #[.pointer (some ⟨r625, 0, none⟩), .int .i64 0]), (247, .pointer (some ⟨r625, 0, none⟩)), (248, .int .i64 0), (28, .pointer (some ⟨r625, 0, none⟩)), (10, .int .i64 0)]) rfl (by kernel_rfl) ?_
         refine st_end ?_
         refine then_n ?_
         refine wp_seq ?_
         refine c_region (L := [0, 1, 2, 3, 4, 5, 6, 7, 8, 9, 10, 11, 12, 13, 14, 15, 16, 17, 18, 19, 20]) (by kernel_rfl) ?_
         refine st_pure (l := [0, 1, 2, 3, 4, 5, 6, 7, 8, 9, 10, 11, 12, 13, 14, 15, 16, 17, 18, 19, 20]) (rest := []) (L := [(249, .int .i64 4), (250, .int .i64 0), (251, .bool false), (252, .bool false), (253, undef), (254, undef), (255, undef), (256, undef), (257, undef), (258, .bool false), (259, .bool false), (260, undef), (261, undef), (262, undef), (263, undef), (264, undef), (265, undef), (266, undef), (267, undef), (268, .bool false), (6, .bool false)]) rfl (by kernel_rfl) ?_
         refine st_end ?_
         refine cut_fr 269 [(6, .bool false)] (by kernel_rfl) (by kernel_rfl) ?_
         intro Tf
         refine wp_ret ?_
         refine post_ret (v := .bool false) (by kernel_rfl) ?_
         replace HM := (((HM.tr0 m571).tr0 m592).tr0 m641)
         refine ⟨false, ?_, rfl, HM⟩
         ·rw [lawLS]
          try simp only [hsp3]
          rw [if_pos h6, if_neg h8, if_neg h11, if_neg h14]
          try simp only [hsp590]
          try simp only [hsp635]
          all_goals (try rfl)
        ·skip
         have hszw634 := m644.size
         refine st_pure (l := [2, 3, 4, 5, 6]) (rest := []) (L := [(244, .tuple #[.pointer none, .int .i64 4]), (247, .pointer none), (248, .int .i64 4), (28, .pointer none), (10, .int .i64 4)]) rfl (by kernel_rfl) ?_
         refine st_end ?_
         refine then_n ?_
         refine wp_seq ?_
         refine c_region (L := [0, 1, 2, 3, 4, 5, 6, 7, 8, 9, 10, 11, 12, 13, 14, 15, 16, 17, 18, 19, 20]) (by kernel_rfl) ?_
         refine st_pure (l := [0, 1, 2, 3, 4, 5, 6, 7, 8, 9, 10, 11, 12, 13, 14, 15, 16, 17, 18, 19, 20]) (rest := []) (L := [(249, .int .i64 4), (250, .int .i64 4), (251, .bool true), (252, .bool true), (253, .pointer none), (254, .bool true), (255, .pointer none), (256, .bool true), (257, .bool true), (258, .bool true), (259, .bool true), (260, .pointer none), (261, .bool true), (262, .bool true), (263, undef), (264, undef), (265, undef), (266, undef), (267, .bool true), (268, .bool true), (6, .bool true)]) rfl (by kernel_rfl) ?_
         refine st_end ?_
         refine cut_fr 269 [(6, .bool true)] (by kernel_rfl) (by kernel_rfl) ?_
         intro Tf
         refine wp_ret ?_
         refine post_ret (v := .bool true) (by kernel_rfl) ?_
         replace HM := (((HM.tr0 m571).tr0 m592).tr0 m644)
         refine ⟨true, ?_, rfl, HM⟩
         ·rw [lawLS]
          try simp only [hsp3]
          rw [if_pos h6, if_neg h8, if_neg h11, if_neg h14]
          try simp only [hsp590]
          try simp only [hsp642]
          all_goals (try rfl)
 ·skip
  have hb645 : (d1) = false := by simpa using h6
  rw [hb645] at hv4; subst hv4
  refine st_pure (l := [1]) (rest := []) (L := [(30, .bool true)]) rfl (by kernel_rfl) ?_
  refine st_end ?_
  refine then_n ?_
  refine c_true (by kernel_rfl) ?_
  refine wp_seq ?_
  refine c_region (L := [0]) (by kernel_rfl) ?_
  refine st_pure (l := [0]) (rest := []) (L := [(6, .bool false)]) rfl (by kernel_rfl) ?_
  refine st_end ?_
  refine then_n ?_
  refine wp_ret ?_
  refine then_r ?_
  refine post_ret (v := .bool false) (by kernel_rfl) ?_
  replace HM := (HM.tr0 m5)
  refine ⟨false, ?_, rfl, HM⟩
  ·rw [lawLS]
   try simp only [hsp3]
   rw [if_neg h6]
   all_goals (try rfl)

end Go.Proofs.Ytjkapifbinmjhaa
