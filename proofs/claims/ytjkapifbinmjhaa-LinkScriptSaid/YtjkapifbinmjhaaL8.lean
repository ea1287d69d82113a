/-
  LinkScript returns true, whatever the room, the calls, the bytes, and leaves its arguments alone.
  Conditions: none.
-/
import Derived.Test.YtjkapifbinmjhaaRows
import Derived.Test.YtjkapifbinmjhaaVxR
import Derived.Test.YtjkapifbinmjhaaL7
namespace Go.Proofs.Ytjkapifbinmjhaa.linkScript
open Go.ChangeShapes Go.WideShapes Go.ChangeAt Go.RowKit Go.Vx
open Go.ChangeMaps (open_string shut_string)
set_option linter.unusedVariables false
set_option linter.unusedSimpArgs false
theorem own : ownKnob Try.prog.godebug = none := by kernel_rfl
theorem laidOut : laidOutB Try.prog = true := by kernel_rfl

set_option maxRecDepth 100000 in
theorem from_act {H : Type} {enc : TypeId × Value → H} {w : World} {base : Nat} {spare : Nat → Bool} {held : Bool} (n : Nat) (cs : List Value) (y : DataW H × List MemPlace)
    (h : DataW.trod enc Try.prog w base spare held n 37 cs = some y) : ∃ x : LAct, cs = tyLAct.enc x := by
  obtain ⟨xs, n, _, rfl, hl, hlen, hf⟩ := DataW.trod_struct Try.underlying37 h
  rw [show Try.prog.cellsOf 37 = 8 from by kernel_rfl] at hl
  match xs, hlen with
  | [y0, y1], _ =>
  have h0 : DataW.trod enc Try.prog w base spare held n 4 ((cs.drop 0).take (Try.prog.cellsOf 4)) = some y0 := hf 0 _ rfl
  have h1 : DataW.trod enc Try.prog w base spare held n 35 ((cs.drop 1).take (Try.prog.cellsOf 35)) = some y1 := hf 1 _ rfl
  rw [show Try.prog.cellsOf 4 = 1 from by kernel_rfl] at h0
  rw [show Try.prog.cellsOf 35 = 7 from by kernel_rfl] at h1
  obtain ⟨b, hb, _⟩ := DataW.trod_bool Try.underlying4 h0
  obtain ⟨xs, n', _, _, _, hlen, hf⟩ := DataW.trod_struct Try.underlying35 h1
  match xs, hlen with
  | [z0, z1, z2, z3, z4, z5, z6], _ =>
  have g0 : DataW.trod enc Try.prog w base spare held n' 3 ((((cs.drop 1).take 7).drop 0).take (Try.prog.cellsOf 3)) = some z0 := hf 0 _ rfl
  have g1 : DataW.trod enc Try.prog w base spare held n' 2 ((((cs.drop 1).take 7).drop 1).take (Try.prog.cellsOf 2)) = some z1 := hf 1 _ rfl
  have g2 : DataW.trod enc Try.prog w base spare held n' 3 ((((cs.drop 1).take 7).drop 2).take (Try.prog.cellsOf 3)) = some z2 := hf 2 _ rfl
  have g3 : DataW.trod enc Try.prog w base spare held n' 5 ((((cs.drop 1).take 7).drop 3).take (Try.prog.cellsOf 5)) = some z3 := hf 3 _ rfl
  have g4 : DataW.trod enc Try.prog w base spare held n' 3 ((((cs.drop 1).take 7).drop 4).take (Try.prog.cellsOf 3)) = some z4 := hf 4 _ rfl
  have g5 : DataW.trod enc Try.prog w base spare held n' 3 ((((cs.drop 1).take 7).drop 5).take (Try.prog.cellsOf 3)) = some z5 := hf 5 _ rfl
  have g6 : DataW.trod enc Try.prog w base spare held n' 5 ((((cs.drop 1).take 7).drop 6).take (Try.prog.cellsOf 5)) = some z6 := hf 6 _ rfl
  rw [show Try.prog.cellsOf 3 = 1 from by kernel_rfl] at g0 g2 g4 g5
  rw [show Try.prog.cellsOf 2 = 1 from by kernel_rfl] at g1
  rw [show Try.prog.cellsOf 5 = 1 from by kernel_rfl] at g3 g6
  obtain ⟨k0, e0, _, w0⟩ := DataW.trod_int Try.underlying3 g0
  obtain ⟨k1, e1, _, w1⟩ := DataW.trod_int Try.underlying2 g1
  obtain ⟨k2, e2, _, w2⟩ := DataW.trod_int Try.underlying3 g2
  obtain ⟨k3, e3, _, w3⟩ := DataW.trod_int Try.underlying5 g3
  obtain ⟨k4, e4, _, w4⟩ := DataW.trod_int Try.underlying3 g4
  obtain ⟨k5, e5, _, w5⟩ := DataW.trod_int Try.underlying3 g5
  obtain ⟨k6, e6, _, w6⟩ := DataW.trod_int Try.underlying5 g6
  match cs, hl with
  | [c0, c1, c2, c3, c4, c5, c6, c7], _ =>
  simp only [List.drop_zero, List.drop_succ_cons, List.take_succ_cons, List.take_zero, List.cons.injEq, and_true] at hb e0 e1 e2 e3 e4 e5 e6
  subst hb e0 e1 e2 e3 e4 e5 e6
  have b0 := bounds_i64 w0
  have b1 := bounds_i64 w1
  have b2 := bounds_i64 w2
  have b3 := bounds_u8 w3
  have b4 := bounds_i64 w4
  have b5 := bounds_i64 w5
  have b6 := bounds_u8 w6
  refine ⟨⟨b, Msg.of k0 k1 k2 k3 k4 k5 k6⟩, ?_⟩
  simp only [tyLAct, Msg.of]
  rw [i64_val b0.1 b0.2, i64_val b1.1 b1.2, i64_val b2.1 b2.2, u8_val b3.1 b3.2, i64_val b4.1 b4.2, i64_val b5.1 b5.2, u8_val b6.1 b6.2]

set_option maxRecDepth 100000 in
theorem lifted (os : Os) (started : os.Started) (H : Type) (enc : TypeId × Value → H) :
    ReturnsInHanded {} Try.checked os 3 .any (Rows.linkScriptSpec.pre6 enc Try.prog Try.f3 Rows.linkScriptRow.domain false) (Rows.linkScriptSpec.post enc Try.prog Try.f3 false true false false) := by
  refine returnsInHanded_of_change_sized (C := Try.checked) own started (by kernel_rfl) Try.func3
    (ChangeSpec.witness6 (enc := enc) (C := Try.checked) false ⟨#[], #[.int .i64 0, .slice none 0 0, .slice none 0 0], []⟩ 8 (by kernel_rfl) (by kernel_rfl) (by kernel_rfl) (by kernel_rfl)) ?_
  intro W base args ds gs before hval0 hW hcnd hsz0 _
  have hsz : (DataW.weightsEach Try.prog (Try.f3.params.toList ++ Rows.linkScriptSpec.plain.varTypes Try.prog) (ds ++ gs)).all (· ≤ reachBytes) = true := hsz0
  have hval : ∀ (j : Nat) t v, Try.f3.params[j]? = some t → args[j]? = some v → Value.okWide Try.prog W .any base t v := hval0
  have hW' := hW
  obtain ⟨p, q, hA0, hV, rfl, hfz, hnd⟩ := hW
  have hA : DataW.TrodAll enc Try.prog W 0 (fun _ => true) true Try.f3.params.toList args.toList ds p := hA0
  rw [Try.params3] at hA hval hsz
  obtain ⟨v0, vs0, d0, ds0, p0, q0, hargs, rfl, rfl, h0, r0⟩ := trodAll_cons hA
  obtain ⟨v1, vs1, d1, ds1, p1, q1, rfl, rfl, rfl, h1, r1⟩ := trodAll_cons r0
  obtain ⟨v2, vs2, d2, ds2, p2, q2, rfl, rfl, rfl, h2, r2⟩ := trodAll_cons r1
  obtain ⟨rfl, rfl, rfl⟩ := trodAll_nil r2
  obtain rfl : args = #[v0, v1, v2] := by cases args; simp_all
  obtain ⟨rfl, rfl⟩ := trodVars_none hV
  obtain ⟨a0, rfl, rfl, rfl, w0⟩ := open_int Try.underlying3 (hval 0 3 v0 rfl rfl) h0
  obtain ⟨a1, len1, cap1, rfl⟩ := okWide_slice Try.underlying22 (hval 1 22 v1 rfl rfl)
  have k1 := h1
  have lt1 : ∀ x ∈ p1, x.block < W.heap.size := by obtain ⟨m, hm⟩ := k1; exact DataW.trod_lt m _ _ _ hm
  have y1 := sized_rows hsz (j := 1) (T := 22) rfl rfl Try.underlying22 (B := 64) (by kernel_rfl) (by decide) h1
  obtain ⟨l1, e1, n1, c1, R1⟩ := open_rows (t := tyLAct) Try.underlying22 (by kernel_rfl) from_act h1 (by omega)
  obtain ⟨a2, len2, cap2, rfl⟩ := okWide_slice Try.underlying23 (hval 2 23 v2 rfl rfl)
  have k2 := h2
  have lt2 : ∀ x ∈ p2, x.block < W.heap.size := by obtain ⟨m, hm⟩ := k2; exact DataW.trod_lt m _ _ _ hm
  have y2 := sized_rows hsz (j := 2) (T := 23) rfl rfl Try.underlying23 (B := 1) (by kernel_rfl) (by decide) h2
  obtain ⟨l2, e2, n2, c2, R2⟩ := open_rows (t := tyU8) Try.underlying23 (by kernel_rfl) (open_u8 Try.underlying5) h2 (by omega)
  subst e1 e2
  clear hA0 hval0 hsz0 hsz
  have b0 := bounds_i64 w0
  refine Calls.mono (LinkScript_ok (w := W) (room := a0) (A := a1) (cA := cap1) (l := l1) (B := a2) (cB := cap2) (raw := l2) R1 R2 b0 n1 c1 n2 c2 (Nat.le_refl _) (Nat.le_refl _)) ?_
  rintro e W' ⟨v, rfl, d, hd, rfl, hm⟩
  rw [lawLS_true] at hd
  subst hd
  have bel := hm.below
  exact ⟨_, rfl, _, _, _, [], _, [], hW', trodAll_mk1 (shut_bool Try.underlying4 _), trodAll_cons_mk (shut_int Try.underlying3 w0) (trodAll_cons_mk (Below.trod laidOut (by kernel_rfl) (of_decide_eq_true (by kernel_rfl)) k1 bel lt1) (trodAll_cons_mk (Below.trod laidOut (by kernel_rfl) (of_decide_eq_true (by kernel_rfl)) k2 bel lt2) trodAll_mk0)), rfl, bel.frame _, fun h => by cases h⟩
theorem over : Rows.linkScriptRow.holds Try.pinned (OpenSpec.ofChange Rows.linkScriptSpec) :=
  OpenClaim.holds_of_wide 3 Try.f3 rfl rfl rfl rfl rfl rfl rfl ⟨rfl, rfl, rfl, rfl, rfl⟩ rfl rfl rfl rfl rfl (by kernel_rfl) Try.func3 (by kernel_rfl)
    (of_decide_eq_true (by kernel_rfl)) (by unfold Func.isWrapper; first | (rw [if_pos (by decide +kernel)]; kernel_rfl) | (rw [if_neg (by decide +kernel)]; exact ⟨rfl, rfl⟩))
    (fun os started H enc _ => lifted os started H enc)
theorem proved : Rows.LinkScriptSaid := over
#print axioms proved
end Go.Proofs.Ytjkapifbinmjhaa.linkScript
