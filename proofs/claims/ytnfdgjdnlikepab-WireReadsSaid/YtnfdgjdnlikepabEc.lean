/- What functions compute, and that they do. (Written by dc.py.) -/
import Derived.Test.YtnfdgjdnlikepabEb
import Derived.Test.YtnfdgjdnlikepabEr
namespace Go.Proofs.Ytnfdgjdnlikepab
open Go.RowKit
open Rep (rep)
set_option linter.unusedVariables false

def decodeNoD (fu : Nat) : Option (GFrame × Int) :=
    (some ({ kind := Zr.zd, node := Zr.zd, id := Zr.zd, ops := Zr.zd, deps := Zr.zd, at_ := Zr.zd, vals := Zr.zd } : GFrame)).bind fun d4 =>
    (some d4).bind fun d7 =>
    some (d7, 1)

set_option maxRecDepth 100000 in
set_option maxHeartbeats 4000000 in
theorem decodeNo_ok {M : Mm} {w : World} {fu : Nat} {r : GFrame × Int} (hA : Agree M w)  (hz : decodeNoD fu = some r) :
    Calls Try.prog 68 #[] w (Gives M w (fun M' u => ∃ c0, u = .tuple #[.agg c0.toArray, .int .i64 r.2] ∧ rep M' c0 r.1)) := by
  refine calls_W Try.func68 rfl 3 rfl rfl (by kernel_rfl) fun T hT => ?_
  clear hT
  have hE := Mm.ext.refl w.heap.size noX M
  have hS : St w noX M [] w := St.start hA
  rw [decodeNoD] at hz
  refine W_seq ?_
  refine W_reg ?_
  refine WL_c (O_alloc tz50 hS ?_)
  intro b2 w1 hb2 hS
  replace hS : St w noX M [.box b2 (Zr.zc GFrame) 50] w1 := hS
  have zb2 : rep M (Zr.zc GFrame) (Zr.zd : GFrame) := Zr.zr
  refine WL_y (Y_assign (.int .i64 0) rfl) ?_
  refine WL_nil (nm_then ?_)
  refine W_seq ?_
  refine W_reg ?_
  obtain ⟨d4, hd3, hz⟩ := bind_ok hz
  obtain ⟨cs3, hf3, ha3⟩ : ∃ cs, fillZ (([(0, 1), (1, 1), (2, 1), (3, 1), (4, 1), (5, 1), (6, 1)] : List (Nat × Nat))[·]?) (Zr.zc GFrame) [] = some cs ∧ rep M cs d4 := ⟨_, fz_nil, rep_eq (x := ({ kind := Zr.zd, node := Zr.zd, id := Zr.zd, ops := Zr.zd, deps := Zr.zd, at_ := Zr.zd, vals := Zr.zd } : GFrame)) (Zr.zr : rep M (Zr.zc GFrame) (Zr.zd : GFrame)) hd3⟩
  refine WL_y (Y_build [] tb50 bp0 hf3) ?_
  have hw6 : (cs3 : List Value).length = 7 := Rep.len ha3
  have hl6 : ((Zr.zc GFrame)).length = 7 := Rep.len zb2
  obtain ⟨d7, hd6, hz⟩ := bind_ok hz
  have hb6 : rep M (pt (Zr.zc GFrame) (0) cs3) d7 := rep_eq (rep_whole (k := 7) (by rw [pt_length (by omega)]; exact hl6) (rep_leaf rfl ha3 (by omega))) hd6
  generalize hg6 : (pt (Zr.zc GFrame) (0) cs3) = cs6 at hb6
  refine WL_c (O_st (j := 0) (v := .agg cs3.toArray) (ws := cs3) hS rfl (by kernel_rfl) rfl rfl rfl hw6 (Rep.one ha3) (by omega) ?_)
  rw [hg6]
  clear hg6
  intro w5 hS
  replace hS : St w noX M [.box b2 cs6 50] w5 := hS
  refine WL_y (Y_assign (.int .i64 1) rfl) ?_
  refine WL_nil (nm_then ?_)
  cases hz
  exact W_ret (R_ct (j := 0) rfl rfl rfl (by rw [Rep.len hb6]; exact ta50) hS rfl (Gives.mk (St.dropB hS hb2) hE ⟨_, rfl, hb6⟩))

def fromSix_l1 (x1 : ByteArray) : Nat → Int → Int → Option Int
  | 0, _, _ => none
  | n + 1, y5, y6 =>
    (bif decide (y6 < 6) then
    (idxS x1 y6).bind fun c12 =>
    (fromSix_l1 x1 n) (IntKind.wrap .i64 ((IntKind.wrap .i64 (256 * y5)) + (IntKind.wrap .i64 c12))) (IntKind.wrap .i64 (y6 + 1))
    else
    some (IntKind.wrap .i64 (y5 - 140737488355328)))

def fromSixD (fu : Nat) (x1 : ByteArray) : Option Int :=
    fromSix_l1 x1 fu 0 0

set_option maxRecDepth 100000 in
set_option maxHeartbeats 4000000 in
theorem fromSix_ok {M : Mm} {w : World} {x1 : ByteArray} {fu : Nat} {r : Int} (hA : Agree M w)  (hz : fromSixD fu x1 = some r) :
    Calls Try.prog 69 #[.string x1] w (GivesV w (.int .i64 r)) := by
  refine calls_W Try.func69 rfl 18 rfl rfl (by kernel_rfl) fun T hT => ?_
  have hT_0 : T 0 = .string x1 := hT 0
  clear hT
  have hE := Mm.ext.refl w.heap.size noX M
  have hS : St w noX M [] w := St.start hA
  rw [fromSixD] at hz
  refine W_seq ?_
  refine W_reg ?_
  refine WL_y (Y_assign (.int .i64 0) rfl) ?_
  refine WL_nil (nm_then ?_)
  refine W_seq ?_
  refine W_reg ?_
  refine WL_y (Y_assign (.int .i64 0) rfl) ?_
  refine WL_nil (nm_then ?_)
  refine W_seq ?_
  refine W_seq ?_
  refine W_reg ?_
  refine WL_y (Y_move (.int .i64 0) rfl) ?_
  refine WL_nil (nm_then ?_)
  refine W_block ?_
  refine W_loop (fun k8 T' w' => ∃ M3 y5 y6, Mm.ext w.heap.size noX M M3 ∧ St w noX M3 [] w' ∧ T' 0 = .string x1 ∧ T' 3 = .int .i64 y5 ∧ T' 5 = .int .i64 y6 ∧ fromSix_l1 x1 k8 y5 y6 = some r) fu ?_ ?_ ?_
  · exact ⟨M, (0 : Int), (0 : Int), (Mm.ext.refl _ _ _), hS, hT_0, rfl, rfl, hz⟩
  · rintro T' w' ⟨_, _, _, _, _, _, _, _, hz⟩
    rw [fromSix_l1] at hz
    cases hz
  · intro k8
    rintro T4 w2 ⟨M3, y5, y6, hx10, hS, hT4_0, hT4_3, hT4_5, hz⟩
    replace hE := Mm.ext.trans hE hx10
    have hF9 := hx10
    rw [fromSix_l1] at hz
    obtain ⟨rec7, hrec7⟩ : ∃ f, f = fromSix_l1 x1 k8 := ⟨_, rfl⟩
    rw [← hrec7] at hz
    refine W_seq ?_
    refine W_reg ?_
    refine WL_y (Y_lss hT4_5 rfl) ?_
    refine WL_nil (nm_then ?_)
    refine W_seq ?_
    refine W_cond rfl (fun hc11 => ?_) (fun hc11 => ?_)
    · replace hz := bif_ok_t hz hc11
      refine W_skip (nm_then ?_)
      refine W_seq ?_
      refine W_block ?_
      refine W_seq ?_
      refine W_reg ?_
      refine WL_y (Y_move (.int .i64 y6) hT4_5) ?_
      refine WL_y (Y_assign (.int .i64 y6) rfl) ?_
      refine WL_nil (nm_then ?_)
      refine W_reg ?_
      refine WL_y (Y_move (.int .i64 y5) hT4_3) ?_
      refine WL_y (Y_mul rfl rfl) ?_
      refine WL_y (Y_move (.string x1) hT4_0) ?_
      refine WL_y (Y_move (.int .i64 y6) rfl) ?_
      obtain ⟨c12, hx13, hz⟩ := bind_ok hz
      refine WL_y (Y_ixS Try.underlying9 rfl rfl hx13) ?_
      refine WL_y (Y_conv ⟨_, Try.underlying5⟩ Try.underlying3 rfl) ?_
      refine WL_y (Y_add rfl rfl) ?_
      refine WL_y (Y_assign (.int .i64 (IntKind.wrap .i64 ((IntKind.wrap .i64 (256 * y5)) + (IntKind.wrap .i64 c12)))) rfl) ?_
      refine WL_nil (nm_blk ?_)
      refine (nm_then ?_)
      refine W_reg ?_
      refine WL_y (Y_add hT4_5 rfl) ?_
      refine WL_y (Y_move (.int .i64 (IntKind.wrap .i64 (y6 + 1))) rfl) ?_
      refine WL_nil (nm_then ?_)
      exact ⟨M3, (IntKind.wrap .i64 ((IntKind.wrap .i64 (256 * y5)) + (IntKind.wrap .i64 c12))), (IntKind.wrap .i64 (y6 + 1)), hF9, hS, hT4_0, rfl, rfl, (by rw [← hrec7]; exact hz)⟩
    · replace hz := bif_ok_f hz hc11
      refine W_exit ?_
      refine ex_then ?_
      refine ex_then ?_
      refine ex_hit ?_
      refine (nm_then ?_)
      refine W_seq ?_
      refine W_reg ?_
      refine WL_y (Y_move (.int .i64 y5) hT4_3) ?_
      refine WL_y (Y_sub rfl rfl) ?_
      refine WL_y (Y_assign (.int .i64 (IntKind.wrap .i64 (y5 - 140737488355328))) rfl) ?_
      refine WL_nil (nm_then ?_)
      cases hz
      exact W_ret (R_t1 rfl rfl ⟨rfl, hS.kept⟩)

def decodeFrame_l3 (fu : Nat) (x1 : ByteArray) (y66 : Int) (c155 : Int) (c167 : Int) : Nat → GFrame → Int → Option (GFrame × Int)
  | 0, _, _ => none
  | n + 1, d173, y180 =>
    (bif decide (y180 < (IntKind.wrap .i64 c167)) then
    (idxS x1 (IntKind.wrap .i64 ((IntKind.wrap .i64 ((IntKind.wrap .i64 (y66 + (IntKind.wrap .i64 (1 + (IntKind.wrap .i64 c155))))) + 1)) + (IntKind.wrap .i64 (7 * y180))))).bind fun c190 =>
    (app d173.at_ ([IntKind.wrap .i64 c190] : List Int)).bind fun l197 =>
    (some ({ d173 with at_ := l197 } : GFrame)).bind fun d201 =>
    (cutB x1 (some (IntKind.wrap .i64 ((IntKind.wrap .i64 ((IntKind.wrap .i64 (y66 + (IntKind.wrap .i64 (1 + (IntKind.wrap .i64 c155))))) + 2)) + (IntKind.wrap .i64 (7 * y180))))) none).bind fun s211 =>
    (fromSixD fu s211).bind fun r214 =>
    (app d201.vals ([r214] : List Int)).bind fun l221 =>
    (some ({ d201 with vals := l221 } : GFrame)).bind fun d225 =>
    (decodeFrame_l3 fu x1 y66 c155 c167 n) d225 (IntKind.wrap .i64 (y180 + 1))
    else
    (some (frameZ d173)).bind fun r237 =>
    (bif r237 != 0 then
    (decodeNoD fu).bind fun r242 =>
    (some r242.1).bind fun d245 =>
    some (d245, r242.2)
    else
    (some d173).bind fun d253 =>
    some (d253, 0)))

def decodeFrame_l2 (fu : Nat) (x1 : ByteArray) (y66 : Int) (c117 : Int) : Nat → GFrame → Int → Option (GFrame × Int)
  | 0, _, _ => none
  | n + 1, d123, y129 =>
    (bif decide (y129 < (IntKind.wrap .i64 c117)) then
    (idxS x1 (IntKind.wrap .i64 ((IntKind.wrap .i64 (y66 + 1)) + y129))).bind fun c139 =>
    (app d123.deps ([IntKind.wrap .i64 c139] : List Int)).bind fun l146 =>
    (some ({ d123 with deps := l146 } : GFrame)).bind fun d150 =>
    (decodeFrame_l2 fu x1 y66 c117 n) d150 (IntKind.wrap .i64 (y129 + 1))
    else
    (idxS x1 y66).bind fun c155 =>
    (idxS x1 (IntKind.wrap .i64 (y66 + (IntKind.wrap .i64 (1 + (IntKind.wrap .i64 c155)))))).bind fun c157 =>
    (bif (x1.size : Int) != (IntKind.wrap .i64 ((IntKind.wrap .i64 ((IntKind.wrap .i64 (y66 + (IntKind.wrap .i64 (1 + (IntKind.wrap .i64 c155))))) + 1)) + (IntKind.wrap .i64 (7 * (IntKind.wrap .i64 c157))))) then
    (decodeNoD fu).bind fun r163 =>
    (some r163.1).bind fun d166 =>
    some (d166, r163.2)
    else
    (idxS x1 (IntKind.wrap .i64 (y66 + (IntKind.wrap .i64 (1 + (IntKind.wrap .i64 c155)))))).bind fun c167 =>
    decodeFrame_l3 fu x1 y66 c155 c167 fu d123 0))

def decodeFrame_j1 (fu : Nat) (x1 : ByteArray) (d55 : GFrame) (y66 : Int) (d115 : GFrame) : Option (GFrame × Int) :=
    (idxS x1 y66).bind fun c117 =>
    decodeFrame_l2 fu x1 y66 c117 fu d55 0

def decodeFrame_j2 (fu : Nat) (x1 : ByteArray) (d55 : GFrame) (d57 : GFrame) (y66 : Int) (c262 : Bool) : Option (GFrame × Int) :=
    (bif c262 then
    (decodeNoD fu).bind fun r268 =>
    (some r268.1).bind fun d271 =>
    some (d271, r268.2)
    else
    decodeFrame_j1 fu x1 d55 y66 d57)

def decodeFrame_l1 (fu : Nat) (x1 : ByteArray) (c49 : Int) : Nat → GFrame → GFrame → Int → Int → Option (GFrame × Int)
  | 0, _, _, _, _ => none
  | n + 1, d55, d57, y66, y67 =>
    (bif decide (y67 < (IntKind.wrap .i64 c49)) then
    (bif decide ((x1.size : Int) < (IntKind.wrap .i64 (y66 + 8))) then
    (decodeNoD fu).bind fun r77 =>
    (some r77.1).bind fun d80 =>
    some (d80, r77.2)
    else
    (idxS x1 y66).bind fun c85 =>
    (idxS x1 (IntKind.wrap .i64 (y66 + 1))).bind fun c87 =>
    (cutB x1 (some (IntKind.wrap .i64 (y66 + 2))) none).bind fun s90 =>
    (fromSixD fu s90).bind fun r93 =>
    (some ({ kind := IntKind.wrap .i64 c85, key := IntKind.wrap .i64 c87, n := r93 } : GOp)).bind fun d96 =>
    (app d55.ops ([d96] : List GOp)).bind fun l102 =>
    (some ({ d55 with ops := l102 } : GFrame)).bind fun d106 =>
    (decodeFrame_l1 fu x1 c49 n) d106 d57 (IntKind.wrap .i64 (y66 + 8)) (IntKind.wrap .i64 (y67 + 1)))
    else
    (bif decide ((x1.size : Int) ≤ y66) then
    decodeFrame_j2 fu x1 d55 d57 y66 true
    else
    (idxS x1 y66).bind fun c274 =>
    decodeFrame_j2 fu x1 d55 d57 y66 (decide ((x1.size : Int) ≤ (IntKind.wrap .i64 ((IntKind.wrap .i64 (y66 + 1)) + (IntKind.wrap .i64 c274)))))))

def decodeFrameD (fu : Nat) (x1 : ByteArray) : Option (GFrame × Int) :=
    (bif decide ((x1.size : Int) < 6) then
    (decodeNoD fu).bind fun r8 =>
    (some r8.1).bind fun d11 =>
    some (d11, r8.2)
    else
    (idxS x1 0).bind fun c15 =>
    (idxS x1 1).bind fun c17 =>
    (idxS x1 2).bind fun c19 =>
    (some ({ kind := IntKind.wrap .i64 c15, node := IntKind.wrap .i64 c17, id := IntKind.wrap .i64 c19, ops := Zr.zd, deps := Zr.zd, at_ := Zr.zd, vals := Zr.zd } : GFrame)).bind fun d22 =>
    (some d22).bind fun d44 =>
    (idxS x1 3).bind fun c49 =>
    decodeFrame_l1 fu x1 c49 fu d44 (Zr.zd : GFrame) 4 0)

set_option maxRecDepth 100000 in
set_option maxHeartbeats 4000000 in
theorem decodeFrame_ok {M : Mm} {w : World} {x1 : ByteArray} {fu : Nat} {r : GFrame × Int} (hA : Agree M w)  (hz : decodeFrameD fu x1 = some r) :
    Calls Try.prog 27 #[.string x1] w (Gives M w (fun M' u => ∃ c0, u = .tuple #[.agg c0.toArray, .int .i64 r.2] ∧ rep M' c0 r.1)) := by
  refine calls_W Try.func27 rfl 167 rfl rfl (by kernel_rfl) fun T hT => ?_
  have hT_0 : T 0 = .string x1 := hT 0
  clear hT
  have hE := Mm.ext.refl w.heap.size noX M
  have hS : St w noX M [] w := St.start hA
  rw [decodeFrameD] at hz
  refine W_seq ?_
  refine W_reg ?_
  refine WL_c (O_alloc tz50 hS ?_)
  intro b3 w2 hb3 hS
  replace hS : St w noX M [.box b3 (Zr.zc GFrame) 50] w2 := hS
  have zb3 : rep M (Zr.zc GFrame) (Zr.zd : GFrame) := Zr.zr
  refine WL_y (Y_assign (.int .i64 0) rfl) ?_
  refine WL_nil (nm_then ?_)
  refine W_seq ?_
  refine W_reg ?_
  refine WL_y (Y_assign (evT (fun _ => undef) (.func 68)) rfl) ?_
  refine WL_nil (nm_then ?_)
  refine W_seq ?_
  refine W_seq ?_
  refine W_reg ?_
  refine WL_y (Y_move (.string x1) hT_0) ?_
  refine WL_y (Y_lenS Try.underlying9 rfl) ?_
  refine WL_y (Y_lss rfl rfl) ?_
  refine WL_nil (nm_then ?_)
  refine W_cond rfl (fun hc4 => ?_) (fun hc4 => ?_)
  · replace hz := bif_ok_t hz hc4
    refine W_seq ?_
    refine W_reg ?_
    refine WL_y (Y_move (evT (fun _ => undef) (.func 68)) rfl) ?_
    obtain ⟨r8, hr7, hz⟩ := bind_ok hz
    refine WL_c (OW_fn rfl (O_mem (vs := []) (rv := (fun M' u => ∃ c0, u = .tuple #[.agg c0.toArray, .int .i64 r8.2] ∧ rep M' c0 r8.1)) cb68 args0 hS (decodeNo_ok hS.agree hr7)) ?_)
    intro u7 M7 w6 hx7 hu7 hS
    obtain ⟨c7_0, hq7, f7_0⟩ := hu7
    subst hq7
    replace zb3 := Rep.mono hx7.1 zb3
    replace hE := Mm.ext.trans hE hx7
    refine WL_y (Y_extract (v := .agg c7_0.toArray) rfl rfl) ?_
    refine WL_y (Y_extract (v := .int .i64 r8.2) rfl rfl) ?_
    have hw10 : (c7_0 : List Value).length = 7 := Rep.len f7_0
    have hl10 : ((Zr.zc GFrame)).length = 7 := Rep.len zb3
    obtain ⟨d11, hd10, hz⟩ := bind_ok hz
    have hb10 : rep M7 (pt (Zr.zc GFrame) (0) c7_0) d11 := rep_eq (rep_whole (k := 7) (by rw [pt_length (by omega)]; exact hl10) (rep_leaf rfl f7_0 (by omega))) hd10
    generalize hg10 : (pt (Zr.zc GFrame) (0) c7_0) = cs10 at hb10
    refine WL_c (O_st (j := 0) (v := .agg c7_0.toArray) (ws := c7_0) hS rfl (by kernel_rfl) rfl rfl rfl hw10 (Rep.one f7_0) (by omega) ?_)
    rw [hg10]
    clear hg10
    intro w9 hS
    replace hS : St w noX M7 [.box b3 cs10 50] w9 := hS
    refine WL_y (Y_assign (.int .i64 r8.2) rfl) ?_
    refine WL_nil (nm_then ?_)
    cases hz
    exact W_ret (rt_then (R_ct (j := 0) rfl rfl rfl (by rw [Rep.len hb10]; exact ta50) hS rfl (Gives.mk (St.dropB hS hb3) hE ⟨_, rfl, hb10⟩)))
  · replace hz := bif_ok_f hz hc4
    refine W_skip (nm_then ?_)
    refine W_seq ?_
    refine W_drawB (Rd M []) (inL [11]) mixed hS fun w12 hS => ?_
    have hG13 := Mm.ext.refl w.heap.size noX M
    have hR14 : Rd M [] w12 := Rd.of hS hG13 (by simp)
    refine WB_y (i := 0) rfl (by kernel_rfl) rfl (Y_move (.string x1) hT_0) (fun _ => hR14) ?_
    obtain ⟨c15, hx16, hz⟩ := bind_ok hz
    refine WB_y (i := 1) rfl (by kernel_rfl) rfl (Y_ixS Try.underlying9 rfl rfl hx16) (fun _ => hR14) ?_
    refine WB_y (i := 2) rfl (by kernel_rfl) rfl (Y_conv ⟨_, Try.underlying5⟩ Try.underlying3 rfl) (fun _ => hR14) ?_
    refine WB_y (i := 3) rfl (by kernel_rfl) rfl (Y_move (.string x1) hT_0) (fun _ => hR14) ?_
    obtain ⟨c17, hx18, hz⟩ := bind_ok hz
    refine WB_y (i := 4) rfl (by kernel_rfl) rfl (Y_ixS Try.underlying9 rfl rfl hx18) (fun _ => hR14) ?_
    refine WB_y (i := 5) rfl (by kernel_rfl) rfl (Y_conv ⟨_, Try.underlying5⟩ Try.underlying3 rfl) (fun _ => hR14) ?_
    refine WB_y (i := 6) rfl (by kernel_rfl) rfl (Y_move (.string x1) hT_0) (fun _ => hR14) ?_
    obtain ⟨c19, hx20, hz⟩ := bind_ok hz
    refine WB_y (i := 7) rfl (by kernel_rfl) rfl (Y_ixS Try.underlying9 rfl rfl hx20) (fun _ => hR14) ?_
    refine WB_y (i := 8) rfl (by kernel_rfl) rfl (Y_conv ⟨_, Try.underlying5⟩ Try.underlying3 rfl) (fun _ => hR14) ?_
    have k21_0 := GFrame.w0 (Zr.zr : rep M (Zr.zc GFrame) (Zr.zd : GFrame)) (show rep M [Value.int .i64 (IntKind.wrap .i64 c15)] (IntKind.wrap .i64 c15 : Int) from rfl)
    have k21_1 := GFrame.w1 k21_0 (show rep M [Value.int .i64 (IntKind.wrap .i64 c17)] (IntKind.wrap .i64 c17 : Int) from rfl)
    have k21_2 := GFrame.w2 k21_1 (show rep M [Value.int .i64 (IntKind.wrap .i64 c19)] (IntKind.wrap .i64 c19 : Int) from rfl)
    obtain ⟨d22, hd21, hz⟩ := bind_ok hz
    obtain ⟨cs21, hf21, ha21⟩ : ∃ cs, fillZ (([(0, 1), (1, 1), (2, 1), (3, 1), (4, 1), (5, 1), (6, 1)] : List (Nat × Nat))[·]?) (Zr.zc GFrame) [(0, .int .i64 (IntKind.wrap .i64 c15)), (1, .int .i64 (IntKind.wrap .i64 c17)), (2, .int .i64 (IntKind.wrap .i64 c19))] = some cs ∧ rep M cs d22 := ⟨_, (fz_cons (Zr.zr : rep M (Zr.zc GFrame) (Zr.zd : GFrame)) rfl rfl (Rep.len (show rep M [Value.int .i64 (IntKind.wrap .i64 c15)] (IntKind.wrap .i64 c15 : Int) from rfl)) (by decide) (fz_cons k21_0 rfl rfl (Rep.len (show rep M [Value.int .i64 (IntKind.wrap .i64 c17)] (IntKind.wrap .i64 c17 : Int) from rfl)) (by decide) (fz_cons k21_1 rfl rfl (Rep.len (show rep M [Value.int .i64 (IntKind.wrap .i64 c19)] (IntKind.wrap .i64 c19 : Int) from rfl)) (by decide) fz_nil))), rep_eq (x := ({ kind := IntKind.wrap .i64 c15, node := IntKind.wrap .i64 c17, id := IntKind.wrap .i64 c19, ops := Zr.zd, deps := Zr.zd, at_ := Zr.zd, vals := Zr.zd } : GFrame)) k21_2 hd21⟩
    have hp23 : sl cs21 3 1 = [.slice none 0 0] := (fillZ_apart hf21 (by rfl)).trans (by rfl)
    replace hS := hS.nilRow 114 3
    replace hS : St w noX M [.row (.slice none 0 0) 114 3, .box b3 (Zr.zc GFrame) 50] w12 := hS
    have hp25 : sl cs21 4 1 = [.slice none 0 0] := (fillZ_apart hf21 (by rfl)).trans (by rfl)
    replace hS := hS.nilRow 3 1
    replace hS : St w noX M [.row (.slice none 0 0) 3 1, .row (.slice none 0 0) 114 3, .box b3 (Zr.zc GFrame) 50] w12 := hS
    have hp27 : sl cs21 5 1 = [.slice none 0 0] := (fillZ_apart hf21 (by rfl)).trans (by rfl)
    replace hS := hS.nilRow 3 1
    replace hS : St w noX M [.row (.slice none 0 0) 3 1, .row (.slice none 0 0) 3 1, .row (.slice none 0 0) 114 3, .box b3 (Zr.zc GFrame) 50] w12 := hS
    have hp29 : sl cs21 6 1 = [.slice none 0 0] := (fillZ_apart hf21 (by rfl)).trans (by rfl)
    replace hS := hS.nilRow 3 1
    replace hS : St w noX M [.row (.slice none 0 0) 3 1, .row (.slice none 0 0) 3 1, .row (.slice none 0 0) 3 1, .row (.slice none 0 0) 114 3, .box b3 (Zr.zc GFrame) 50] w12 := hS
    refine WB_y (i := 9) rfl (by kernel_rfl) rfl (Y_build [(0, .int .i64 (IntKind.wrap .i64 c15)), (1, .int .i64 (IntKind.wrap .i64 c17)), (2, .int .i64 (IntKind.wrap .i64 c19))] tb50 (bpc rfl (bpc rfl (bpc rfl bp0))) hf21) (fun _ => hR14) ?_
    refine WB_one (i := 10) (by kernel_rfl) rfl (O_alloc tz50 hS ?_)
    intro b32 w31 hb32 hS
    replace hS : St w noX M [.box b32 (Zr.zc GFrame) 50, .row (.slice none 0 0) 3 1, .row (.slice none 0 0) 3 1, .row (.slice none 0 0) 3 1, .row (.slice none 0 0) 114 3, .box b3 (Zr.zc GFrame) 50] w31 := hS
    have zb32 : rep M (Zr.zc GFrame) (Zr.zd : GFrame) := Zr.zr
    have hp33 : sl (Zr.zc GFrame) 3 1 = [.slice none 0 0] := by rfl
    replace hS := hS.nilRow 114 3
    replace hS : St w noX M [.row (.slice none 0 0) 114 3, .box b32 (Zr.zc GFrame) 50, .row (.slice none 0 0) 3 1, .row (.slice none 0 0) 3 1, .row (.slice none 0 0) 3 1, .row (.slice none 0 0) 114 3, .box b3 (Zr.zc GFrame) 50] w31 := hS
    have hp35 : sl (Zr.zc GFrame) 4 1 = [.slice none 0 0] := by rfl
    replace hS := hS.nilRow 3 1
    replace hS : St w noX M [.row (.slice none 0 0) 3 1, .row (.slice none 0 0) 114 3, .box b32 (Zr.zc GFrame) 50, .row (.slice none 0 0) 3 1, .row (.slice none 0 0) 3 1, .row (.slice none 0 0) 3 1, .row (.slice none 0 0) 114 3, .box b3 (Zr.zc GFrame) 50] w31 := hS
    have hp37 : sl (Zr.zc GFrame) 5 1 = [.slice none 0 0] := by rfl
    replace hS := hS.nilRow 3 1
    replace hS : St w noX M [.row (.slice none 0 0) 3 1, .row (.slice none 0 0) 3 1, .row (.slice none 0 0) 114 3, .box b32 (Zr.zc GFrame) 50, .row (.slice none 0 0) 3 1, .row (.slice none 0 0) 3 1, .row (.slice none 0 0) 3 1, .row (.slice none 0 0) 114 3, .box b3 (Zr.zc GFrame) 50] w31 := hS
    have hp39 : sl (Zr.zc GFrame) 6 1 = [.slice none 0 0] := by rfl
    replace hS := hS.nilRow 3 1
    replace hS : St w noX M [.row (.slice none 0 0) 3 1, .row (.slice none 0 0) 3 1, .row (.slice none 0 0) 3 1, .row (.slice none 0 0) 114 3, .box b32 (Zr.zc GFrame) 50, .row (.slice none 0 0) 3 1, .row (.slice none 0 0) 3 1, .row (.slice none 0 0) 3 1, .row (.slice none 0 0) 114 3, .box b3 (Zr.zc GFrame) 50] w31 := hS
    have hR41 : Rd M [] w31 := Rd.of hS hG13 (by simp)
    refine ⟨fun _ => hR41, ?_⟩
    have hw43 : (cs21 : List Value).length = 7 := Rep.len ha21
    have hl43 : ((Zr.zc GFrame)).length = 7 := Rep.len zb32
    obtain ⟨d44, hd43, hz⟩ := bind_ok hz
    have hb43 : rep M (pt (Zr.zc GFrame) (0) cs21) d44 := rep_eq (rep_whole (k := 7) (by rw [pt_length (by omega)]; exact hl43) (rep_leaf rfl ha21 (by omega))) hd43
    have hp45 : sl (pt (Zr.zc GFrame) (0) cs21) (0 + 3) 1 = [(.slice none 0 0)] := (sl_pt_sub (by omega) (by omega)).trans hp23
    have hp46 : sl (pt (Zr.zc GFrame) (0) cs21) (0 + 4) 1 = [(.slice none 0 0)] := (sl_pt_sub (by omega) (by omega)).trans hp25
    have hp47 : sl (pt (Zr.zc GFrame) (0) cs21) (0 + 5) 1 = [(.slice none 0 0)] := (sl_pt_sub (by omega) (by omega)).trans hp27
    have hp48 : sl (pt (Zr.zc GFrame) (0) cs21) (0 + 6) 1 = [(.slice none 0 0)] := (sl_pt_sub (by omega) (by omega)).trans hp29
    generalize hg43 : (pt (Zr.zc GFrame) (0) cs21) = cs43 at hb43 hp45 hp46 hp47 hp48
    refine WB_one (i := 11) (by kernel_rfl) rfl (O_st (j := 4) (v := .agg cs21.toArray) (ws := cs21) hS rfl (by kernel_rfl) rfl rfl rfl hw43 (Rep.one ha21) (by omega) ?_)
    rw [hg43]
    clear hg43
    intro w42 hS
    replace hS : St w noX M [.row (.slice none 0 0) 3 1, .row (.slice none 0 0) 3 1, .row (.slice none 0 0) 3 1, .row (.slice none 0 0) 114 3, .box b32 cs43 50, .row (.slice none 0 0) 3 1, .row (.slice none 0 0) 3 1, .row (.slice none 0 0) 3 1, .row (.slice none 0 0) 114 3, .box b3 (Zr.zc GFrame) 50] w42 := hS
    refine ⟨fun h => Bool.noConfusion (show false = true from h), ?_⟩
    refine WB_done (by kernel_rfl) (nm_then ?_)
    refine W_seq ?_
    refine W_reg ?_
    refine WL_y (Y_assign (.int .i64 4) rfl) ?_
    refine WL_nil (nm_then ?_)
    refine W_seq ?_
    refine W_seq ?_
    refine W_reg ?_
    refine WL_y (Y_move (.string x1) hT_0) ?_
    obtain ⟨c49, hx50, hz⟩ := bind_ok hz
    refine WL_y (Y_ixS Try.underlying9 rfl rfl hx50) ?_
    refine WL_y (Y_conv ⟨_, Try.underlying5⟩ Try.underlying3 rfl) ?_
    refine WL_y (Y_move (.int .i64 0) rfl) ?_
    refine WL_nil (nm_then ?_)
    refine W_block ?_
    refine W_loop (fun k69 T' w' => ∃ M52 cs54 d55 cs56 d57 v58 v60 v62 v64 y66 y67, Mm.ext w.heap.size noX M M52 ∧ St w noX M52 [.row (.slice none 0 0) 3 1, .row (.slice none 0 0) 3 1, .row (.slice none 0 0) 3 1, .row (.slice none 0 0) 114 3, .box b32 cs54 50, .row v64 3 1, .row v62 3 1, .row v60 3 1, .row v58 114 3, .box b3 cs56 50] w' ∧ rep M52 cs54 d55 ∧ rep M52 cs56 d57 ∧ sl cs54 (0 + 3) 1 = [v58] ∧ sl cs54 (0 + 4) 1 = [v60] ∧ sl cs54 (0 + 5) 1 = [v62] ∧ sl cs54 (0 + 6) 1 = [v64] ∧ T' 0 = .string x1 ∧ T' 2 = .pointer (some ⟨b3, 0, none⟩) ∧ T' 4 = evT (fun _ => undef) (.func 68) ∧ T' 5 = .pointer (some ⟨b32, 0, none⟩) ∧ T' 6 = .int .i64 y66 ∧ T' 28 = .int .i64 (IntKind.wrap .i64 c49) ∧ T' 29 = .int .i64 y67 ∧ decodeFrame_l1 fu x1 c49 k69 d55 d57 y66 y67 = some r) fu ?_ ?_ ?_
    · exact ⟨M, cs43, d44, (Zr.zc GFrame), (Zr.zd : GFrame), (.slice none 0 0), (.slice none 0 0), (.slice none 0 0), (.slice none 0 0), (4 : Int), (0 : Int), (Mm.ext.refl _ _ _), hS, hb43, zb3, hp45, hp46, hp47, hp48, hT_0, rfl, rfl, rfl, rfl, rfl, rfl, hz⟩
    · rintro T' w' ⟨_, _, _, _, _, _, _, _, _, _, _, _, _, _, _, _, _, _, _, _, _, _, _, _, _, _, hz⟩
      rw [decodeFrame_l1] at hz
      cases hz
    · intro k69
      rintro T53 w51 ⟨M52, cs54, d55, cs56, d57, v58, v60, v62, v64, y66, y67, hx71, hS, hb54, hb56, hp59, hp61, hp63, hp65, hT53_0, hT53_2, hT53_4, hT53_5, hT53_6, hT53_28, hT53_29, hz⟩
      replace hE := Mm.ext.trans hE hx71
      have hF70 := hx71
      rw [decodeFrame_l1] at hz
      obtain ⟨rec68, hrec68⟩ : ∃ f, f = decodeFrame_l1 fu x1 c49 k69 := ⟨_, rfl⟩
      rw [← hrec68] at hz
      refine W_seq ?_
      refine W_reg ?_
      refine WL_y (Y_lss hT53_29 hT53_28) ?_
      refine WL_nil (nm_then ?_)
      refine W_seq ?_
      refine W_cond rfl (fun hc72 => ?_) (fun hc72 => ?_)
      · replace hz := bif_ok_t hz hc72
        refine W_skip (nm_then ?_)
        refine W_seq ?_
        refine W_block ?_
        refine W_seq ?_
        refine W_seq ?_
        refine W_reg ?_
        refine WL_y (Y_move (.string x1) hT53_0) ?_
        refine WL_y (Y_lenS Try.underlying9 rfl) ?_
        refine WL_y (Y_move (.int .i64 y66) hT53_6) ?_
        refine WL_y (Y_add rfl rfl) ?_
        refine WL_y (Y_lss rfl rfl) ?_
        refine WL_nil (nm_then ?_)
        refine W_cond rfl (fun hc73 => ?_) (fun hc73 => ?_)
        · replace hz := bif_ok_t hz hc73
          refine W_seq ?_
          refine W_reg ?_
          refine WL_y (Y_move (evT (fun _ => undef) (.func 68)) hT53_4) ?_
          obtain ⟨r77, hr76, hz⟩ := bind_ok hz
          refine WL_c (OW_fn rfl (O_mem (vs := []) (rv := (fun M' u => ∃ c0, u = .tuple #[.agg c0.toArray, .int .i64 r77.2] ∧ rep M' c0 r77.1)) cb68 args0 hS (decodeNo_ok hS.agree hr76)) ?_)
          intro u76 M76 w75 hx76 hu76 hS
          obtain ⟨c76_0, hq76, f76_0⟩ := hu76
          subst hq76
          replace hb54 := Rep.mono hx76.1 hb54
          replace hb56 := Rep.mono hx76.1 hb56
          replace hE := Mm.ext.trans hE hx76
          replace hF70 := Mm.ext.trans hF70 hx76
          refine WL_y (Y_extract (v := .agg c76_0.toArray) rfl rfl) ?_
          refine WL_y (Y_extract (v := .int .i64 r77.2) rfl rfl) ?_
          have hw79 : (c76_0 : List Value).length = 7 := Rep.len f76_0
          have hl79 : (cs56).length = 7 := Rep.len hb56
          obtain ⟨d80, hd79, hz⟩ := bind_ok hz
          have hb79 : rep M76 (pt cs56 (0) c76_0) d80 := rep_eq (rep_whole (k := 7) (by rw [pt_length (by omega)]; exact hl79) (rep_leaf rfl f76_0 (by omega))) hd79
          generalize hg79 : (pt cs56 (0) c76_0) = cs79 at hb79
          refine WL_c (O_st (j := 9) (v := .agg c76_0.toArray) (ws := c76_0) hS rfl (by kernel_rfl) hT53_2 rfl rfl hw79 (Rep.one f76_0) (by omega) ?_)
          rw [hg79]
          clear hg79
          intro w78 hS
          replace hS : St w noX M76 [.row (.slice none 0 0) 3 1, .row (.slice none 0 0) 3 1, .row (.slice none 0 0) 3 1, .row (.slice none 0 0) 114 3, .box b32 cs54 50, .row v64 3 1, .row v62 3 1, .row v60 3 1, .row v58 114 3, .box b3 cs79 50] w78 := hS
          refine WL_y (Y_assign (.int .i64 r77.2) rfl) ?_
          refine WL_nil (nm_then ?_)
          cases hz
          exact W_ret (rt_then (rt_blk (rt_then (rt_then (rt_blk (rt_then (R_ct (j := 9) rfl hT53_2 rfl (by rw [Rep.len hb79]; exact ta50) hS rfl (Gives.mk (St.dropB (St.drop (St.drop (St.drop (St.drop (St.dropB (St.drop (St.drop (St.drop (St.drop hS)))) hb32))))) hb3) hE ⟨_, rfl, hb79⟩))))))))
        · replace hz := bif_ok_f hz hc73
          refine W_skip (nm_then ?_)
          refine W_seq ?_
          refine W_drawB (Rd M52 [.box b32 cs54 50]) (inL [20]) mixed hS fun w81 hS => ?_
          have hG82 := Mm.ext.refl w.heap.size noX M52
          have hR83 : Rd M52 [.box b32 cs54 50] w81 := Rd.of hS hG82 (by simp)
          refine WB_y (i := 0) rfl (by kernel_rfl) rfl (Y_fa fa50_3 hT53_5) (fun _ => hR83) ?_
          obtain ⟨v84, ev84, hv84⟩ := (GFrame.p3 (rep_root (k := 7) rfl hb54))
          rw [sl_one_eq ev84 hp59] at hv84
          refine WB_ld (i := 1) rfl (by kernel_rfl) rfl (inL_lt rfl) (by kernel_rfl) (by kernel_rfl) (Y_ld1 v58 ts40 rfl (bvR 0 rfl) hp59) hR83 ?_
          refine WB_y (i := 2) rfl (by kernel_rfl) rfl (Y_move (.string x1) hT53_0) (fun _ => hR83) ?_
          refine WB_y (i := 3) rfl (by kernel_rfl) rfl (Y_move (.int .i64 y66) hT53_6) (fun _ => hR83) ?_
          obtain ⟨c85, hx86, hz⟩ := bind_ok hz
          refine WB_y (i := 4) rfl (by kernel_rfl) rfl (Y_ixS Try.underlying9 rfl rfl hx86) (fun _ => hR83) ?_
          refine WB_y (i := 5) rfl (by kernel_rfl) rfl (Y_conv ⟨_, Try.underlying5⟩ Try.underlying3 rfl) (fun _ => hR83) ?_
          refine WB_y (i := 6) rfl (by kernel_rfl) rfl (Y_move (.string x1) hT53_0) (fun _ => hR83) ?_
          refine WB_y (i := 7) rfl (by kernel_rfl) rfl (Y_move (.int .i64 y66) hT53_6) (fun _ => hR83) ?_
          refine WB_y (i := 8) rfl (by kernel_rfl) rfl (Y_add rfl rfl) (fun _ => hR83) ?_
          obtain ⟨c87, hx88, hz⟩ := bind_ok hz
          refine WB_y (i := 9) rfl (by kernel_rfl) rfl (Y_ixS Try.underlying9 rfl rfl hx88) (fun _ => hR83) ?_
          refine WB_y (i := 10) rfl (by kernel_rfl) rfl (Y_conv ⟨_, Try.underlying5⟩ Try.underlying3 rfl) (fun _ => hR83) ?_
          refine WB_y (i := 11) rfl (by kernel_rfl) rfl (Y_move (.string x1) hT53_0) (fun _ => hR83) ?_
          refine WB_y (i := 12) rfl (by kernel_rfl) rfl (Y_move (.int .i64 y66) hT53_6) (fun _ => hR83) ?_
          refine WB_y (i := 13) rfl (by kernel_rfl) rfl (Y_add rfl rfl) (fun _ => hR83) ?_
          obtain ⟨s90, hx89, hz⟩ := bind_ok hz
          obtain ⟨⟨pp89, qq89⟩, hc89, hx89⟩ := Option.map_eq_some_iff.1 hx89
          refine WB_y (i := 14) rfl (by kernel_rfl) rfl ((hx89 ▸ Y_cutS (l := (some (IntKind.wrap .i64 (y66 + 2)))) (h := none) Try.underlying9 rfl (evs rfl) evn hc89)) (fun _ => hR83) ?_
          obtain ⟨r93, hr92, hz⟩ := bind_ok hz
          refine WB_one (i := 15) (by kernel_rfl) rfl (O_val (vs := [.string s90]) (v := .int .i64 r93) cb69 (args1 rfl) hS (fromSix_ok hS.agree hr92) ?_)
          intro w91 hS
          have hR94 : Rd M52 [.box b32 cs54 50] w91 := Rd.of hS hG82 (by simp)
          refine ⟨fun _ => hR94, ?_⟩
          have k95_0 := GOp.w0 (Zr.zr : rep M52 (Zr.zc GOp) (Zr.zd : GOp)) (show rep M52 [Value.int .i64 (IntKind.wrap .i64 c85)] (IntKind.wrap .i64 c85 : Int) from rfl)
          have k95_1 := GOp.w1 k95_0 (show rep M52 [Value.int .i64 (IntKind.wrap .i64 c87)] (IntKind.wrap .i64 c87 : Int) from rfl)
          have k95_2 := GOp.w2 k95_1 (show rep M52 [Value.int .i64 r93] (r93 : Int) from rfl)
          obtain ⟨d96, hd95, hz⟩ := bind_ok hz
          obtain ⟨cs95, hf95, ha95⟩ : ∃ cs, fillZ (([(0, 1), (1, 1), (2, 1)] : List (Nat × Nat))[·]?) (Zr.zc GOp) [(0, .int .i64 (IntKind.wrap .i64 c85)), (1, .int .i64 (IntKind.wrap .i64 c87)), (2, .int .i64 r93)] = some cs ∧ rep M52 cs d96 := ⟨_, (fz_cons (Zr.zr : rep M52 (Zr.zc GOp) (Zr.zd : GOp)) rfl rfl (Rep.len (show rep M52 [Value.int .i64 (IntKind.wrap .i64 c85)] (IntKind.wrap .i64 c85 : Int) from rfl)) (by decide) (fz_cons k95_0 rfl rfl (Rep.len (show rep M52 [Value.int .i64 (IntKind.wrap .i64 c87)] (IntKind.wrap .i64 c87 : Int) from rfl)) (by decide) (fz_cons k95_1 rfl rfl (Rep.len (show rep M52 [Value.int .i64 r93] (r93 : Int) from rfl)) (by decide) fz_nil))), rep_eq (x := ({ kind := IntKind.wrap .i64 c85, key := IntKind.wrap .i64 c87, n := r93 } : GOp)) k95_2 hd95⟩
          refine WB_y (i := 16) rfl (by kernel_rfl) rfl (Y_build [(0, .int .i64 (IntKind.wrap .i64 c85)), (1, .int .i64 (IntKind.wrap .i64 c87)), (2, .int .i64 r93)] tb114 (bpc rfl (bpc rfl (bpc rfl bp0))) hf95) (fun _ => hR94) ?_
          refine WB_one (i := 17) (by kernel_rfl) rfl (O_bslice (α := GOp) (l := ([d96] : List GOp)) [.agg cs95.toArray] tl40 (bpc rfl bp0) rfl rfl (by decide) (by decide) (by decide) hS (brc ha95 br0) ?_)
          intro v98 M98 w97 hx98 hv98 hS
          replace hb54 := Rep.mono hx98.1 hb54
          replace hb56 := Rep.mono hx98.1 hb56
          replace hv84 := repL.mono hx98.1 hv84
          replace ha95 := Rep.mono hx98.1 ha95
          replace hE := Mm.ext.trans hE hx98
          replace hF70 := Mm.ext.trans hF70 hx98
          replace hG82 := Mm.ext.trans hG82 hx98
          have hR99 : Rd M52 [.box b32 cs54 50] w97 := Rd.of hS hG82 (by simp)
          refine ⟨fun _ => hR99, ?_⟩
          obtain ⟨l102, hr101, hz⟩ := bind_ok hz
          obtain ⟨hy101, hr101⟩ := app_some hr101
          refine WB_one (i := 18) (by kernel_rfl) rfl (O_app (α := GOp) (j := 8) tp40 hS rfl rfl rfl hv84 hv98 hy101 ?_)
          intro v101 M101 w100 hx101 hv101 hS
          rw [← hr101] at hv101
          clear hr101
          replace hb54 := Rep.mono hx101.1 hb54
          replace hb56 := Rep.mono hx101.1 hb56
          replace hv84 := repL.mono hx101.1 hv84
          replace ha95 := Rep.mono hx101.1 ha95
          replace hv98 := repL.mono hx101.1 hv98
          replace hE := Mm.ext.trans hE hx101
          replace hF70 := Mm.ext.trans hF70 hx101
          replace hG82 := Mm.ext.trans hG82 hx101
          replace hS : St w noX M101 [.row (.slice none 0 0) 3 1, .row (.slice none 0 0) 3 1, .row (.slice none 0 0) 3 1, .row (.slice none 0 0) 114 3, .box b32 cs54 50, .row v64 3 1, .row v62 3 1, .row v60 3 1, .row v101 114 3, .box b3 cs56 50] w100 := hS
          have hR103 : Rd M52 [.box b32 cs54 50] w100 := Rd.of hS hG82 (by simp)
          refine ⟨fun _ => hR103, ?_⟩
          refine WB_y (i := 19) rfl (by kernel_rfl) rfl (Y_fa fa50_3 hT53_5) (fun _ => hR103) ?_
          have hw105 : ([v101] : List Value).length = 1 := Rep.len (repL_rep hv101)
          have hl105 : (cs54).length = 7 := Rep.len hb54
          obtain ⟨d106, hd105, hz⟩ := bind_ok hz
          have hb105 : rep M101 (pt cs54 (0 + 3) [v101]) d106 := rep_eq (rep_whole (k := 7) (by rw [pt_length (by omega)]; exact hl105) (GFrame.s3 (rep_root (k := 7) rfl hb54) (rep_leaf rfl (repL_rep hv101) (by omega)) (by omega) (by omega) (by omega))) hd105
          have hp107 : sl (pt cs54 (0 + 3) [v101]) (0 + 4) 1 = [v60] := (sl_pt_apart (by omega) (by omega)).trans hp61
          have hp108 : sl (pt cs54 (0 + 3) [v101]) (0 + 5) 1 = [v62] := (sl_pt_apart (by omega) (by omega)).trans hp63
          have hp109 : sl (pt cs54 (0 + 3) [v101]) (0 + 6) 1 = [v64] := (sl_pt_apart (by omega) (by omega)).trans hp65
          have hp110 : sl (pt cs54 (0 + 3) [v101]) (0 + 3) 1 = [v101] := sl_pt_same (by omega) rfl
          generalize hg105 : (pt cs54 (0 + 3) [v101]) = cs105 at hb105 hp107 hp108 hp109 hp110
          refine WB_one (i := 20) (by kernel_rfl) rfl (O_st (j := 4) (v := v101) (ws := [v101]) hS rfl (by kernel_rfl) rfl rfl (repL_cells hv101) hw105 (Rep.one (repL_rep hv101)) (by omega) ?_)
          rw [hg105]
          clear hg105
          intro w104 hS
          replace hS : St w noX M101 [.row (.slice none 0 0) 3 1, .row (.slice none 0 0) 3 1, .row (.slice none 0 0) 3 1, .row (.slice none 0 0) 114 3, .box b32 cs105 50, .row v64 3 1, .row v62 3 1, .row v60 3 1, .row v101 114 3, .box b3 cs56 50] w104 := hS
          refine ⟨fun h => Bool.noConfusion (show false = true from h), ?_⟩
          refine WB_done (by kernel_rfl) (nm_then ?_)
          refine W_reg ?_
          refine WL_y (Y_move (.int .i64 y66) hT53_6) ?_
          refine WL_y (Y_add rfl rfl) ?_
          refine WL_y (Y_assign (.int .i64 (IntKind.wrap .i64 (y66 + 8))) rfl) ?_
          refine WL_nil (nm_blk ?_)
          refine (nm_then ?_)
          refine W_reg ?_
          refine WL_y (Y_add hT53_29 rfl) ?_
          refine WL_y (Y_move (.int .i64 (IntKind.wrap .i64 (y67 + 1))) rfl) ?_
          refine WL_nil (nm_then ?_)
          exact ⟨M101, cs105, d106, cs56, d57, v101, v60, v62, v64, (IntKind.wrap .i64 (y66 + 8)), (IntKind.wrap .i64 (y67 + 1)), hF70, hS, hb105, hb56, hp110, hp107, hp108, hp109, hT53_0, hT53_2, hT53_4, hT53_5, rfl, hT53_28, rfl, (by rw [← hrec68]; exact hz)⟩
      · replace hz := bif_ok_f hz hc72
        refine W_exit ?_
        refine ex_then ?_
        refine ex_then ?_
        refine ex_hit ?_
        refine (nm_then ?_)
        refine W_seqJ (fun T' w' => ∃ M112 cs114 d115, Mm.ext w.heap.size noX M52 M112 ∧ St w noX M112 [.row (.slice none 0 0) 3 1, .row (.slice none 0 0) 3 1, .row (.slice none 0 0) 3 1, .row (.slice none 0 0) 114 3, .box b32 cs54 50, .row v64 3 1, .row v62 3 1, .row v60 3 1, .row v58 114 3, .box b3 cs114 50] w' ∧ rep M112 cs114 d115 ∧ T' 0 = .string x1 ∧ T' 2 = .pointer (some ⟨b3, 0, none⟩) ∧ T' 4 = evT (fun _ => undef) (.func 68) ∧ T' 5 = .pointer (some ⟨b32, 0, none⟩) ∧ T' 6 = .int .i64 y66 ∧ decodeFrame_j1 fu x1 d55 y66 d115 = some r) ?_ ?_
        · have hF258 := Mm.ext.refl w.heap.size noX M52
          refine W_seqJ (fun T' w' => ∃ M260 c262, Mm.ext w.heap.size noX M52 M260 ∧ St w noX M260 [.row (.slice none 0 0) 3 1, .row (.slice none 0 0) 3 1, .row (.slice none 0 0) 3 1, .row (.slice none 0 0) 114 3, .box b32 cs54 50, .row v64 3 1, .row v62 3 1, .row v60 3 1, .row v58 114 3, .box b3 cs56 50] w' ∧ T' 0 = .string x1 ∧ T' 2 = .pointer (some ⟨b3, 0, none⟩) ∧ T' 4 = evT (fun _ => undef) (.func 68) ∧ T' 5 = .pointer (some ⟨b32, 0, none⟩) ∧ T' 6 = .int .i64 y66 ∧ T' 78 = .bool c262 ∧ decodeFrame_j2 fu x1 d55 d57 y66 c262 = some r) ?_ ?_
          · have hF272 := Mm.ext.refl w.heap.size noX M52
            refine W_reg ?_
            refine WL_y (Y_move (.string x1) hT53_0) ?_
            refine WL_y (Y_lenS Try.underlying9 rfl) ?_
            refine WL_y (Y_move (.int .i64 y66) hT53_6) ?_
            refine WL_y (Y_leq rfl rfl) ?_
            refine WL_y (Y_move (.bool (decide ((x1.size : Int) ≤ y66))) rfl) ?_
            rcases Bool.eq_false_or_eq_true (decide ((x1.size : Int) ≤ y66)) with hc273 | hc273
            · replace hz := bif_ok_t hz hc273
              refine WL_s (j := 4) rfl (bt hc273 rfl) rfl ?_
              refine WL_s (j := 4) rfl (bt hc273 rfl) rfl ?_
              refine WL_s (j := 4) rfl (bt hc273 rfl) rfl ?_
              refine WL_s (j := 4) rfl (bt hc273 rfl) rfl ?_
              refine WL_s (j := 4) rfl (bt hc273 rfl) rfl ?_
              refine WL_s (j := 4) rfl (bt hc273 rfl) rfl ?_
              refine WL_s (j := 4) rfl (bt hc273 rfl) rfl ?_
              refine WL_s (j := 4) rfl (bt hc273 rfl) rfl ?_
              refine WL_s (j := 4) rfl (bt hc273 rfl) rfl ?_
              refine WL_s (j := 4) rfl (bt hc273 rfl) rfl ?_
              refine WL_y (Y_pick_t (.bool true) (bt hc273 rfl) rfl) ?_
              refine WL_nil (nm_then ?_)
              exact ⟨M52, true, hF272, hS, hT53_0, hT53_2, hT53_4, hT53_5, hT53_6, rfl, hz⟩
            · replace hz := bif_ok_f hz hc273
              refine WL_gy rfl (bf hc273 rfl) (Y_move (.string x1) hT53_0) ?_
              refine WL_gy rfl (bf hc273 rfl) (Y_lenS Try.underlying9 rfl) ?_
              refine WL_gy rfl (bf hc273 rfl) (Y_move (.int .i64 y66) hT53_6) ?_
              refine WL_gy rfl (bf hc273 rfl) (Y_add rfl rfl) ?_
              refine WL_gy rfl (bf hc273 rfl) (Y_move (.string x1) hT53_0) ?_
              refine WL_gy rfl (bf hc273 rfl) (Y_move (.int .i64 y66) hT53_6) ?_
              obtain ⟨c274, hx275, hz⟩ := bind_ok hz
              refine WL_gy rfl (bf hc273 rfl) (Y_ixS Try.underlying9 rfl rfl hx275) ?_
              refine WL_gy rfl (bf hc273 rfl) (Y_conv ⟨_, Try.underlying5⟩ Try.underlying3 rfl) ?_
              refine WL_gy rfl (bf hc273 rfl) (Y_add rfl rfl) ?_
              refine WL_gy rfl (bf hc273 rfl) (Y_leq rfl rfl) ?_
              refine WL_y (Y_pick_f (.bool (decide ((x1.size : Int) ≤ (IntKind.wrap .i64 ((IntKind.wrap .i64 (y66 + 1)) + (IntKind.wrap .i64 c274)))))) (bf hc273 rfl) rfl) ?_
              refine WL_nil (nm_then ?_)
              exact ⟨M52, (decide ((x1.size : Int) ≤ (IntKind.wrap .i64 ((IntKind.wrap .i64 (y66 + 1)) + (IntKind.wrap .i64 c274))))), hF272, hS, hT53_0, hT53_2, hT53_4, hT53_5, hT53_6, rfl, hz⟩
          · rintro T261 w259 ⟨M260, c262, hx263, hS, hT261_0, hT261_2, hT261_4, hT261_5, hT261_6, hT261_78, hz⟩
            replace hb54 := Rep.mono hx263.1 hb54
            replace hb56 := Rep.mono hx263.1 hb56
            replace hE := Mm.ext.trans hE hx263
            replace hF70 := Mm.ext.trans hF70 hx263
            replace hF258 := Mm.ext.trans hF258 hx263
            rw [decodeFrame_j2] at hz
            refine W_cond hT261_78 (fun hc264 => ?_) (fun hc264 => ?_)
            · replace hz := bif_ok_t hz hc264
              refine W_seq ?_
              refine W_reg ?_
              refine WL_y (Y_move (evT (fun _ => undef) (.func 68)) hT261_4) ?_
              obtain ⟨r268, hr267, hz⟩ := bind_ok hz
              refine WL_c (OW_fn rfl (O_mem (vs := []) (rv := (fun M' u => ∃ c0, u = .tuple #[.agg c0.toArray, .int .i64 r268.2] ∧ rep M' c0 r268.1)) cb68 args0 hS (decodeNo_ok hS.agree hr267)) ?_)
              intro u267 M267 w266 hx267 hu267 hS
              obtain ⟨c267_0, hq267, f267_0⟩ := hu267
              subst hq267
              replace hb54 := Rep.mono hx267.1 hb54
              replace hb56 := Rep.mono hx267.1 hb56
              replace hE := Mm.ext.trans hE hx267
              replace hF70 := Mm.ext.trans hF70 hx267
              replace hF258 := Mm.ext.trans hF258 hx267
              refine WL_y (Y_extract (v := .agg c267_0.toArray) rfl rfl) ?_
              refine WL_y (Y_extract (v := .int .i64 r268.2) rfl rfl) ?_
              have hw270 : (c267_0 : List Value).length = 7 := Rep.len f267_0
              have hl270 : (cs56).length = 7 := Rep.len hb56
              obtain ⟨d271, hd270, hz⟩ := bind_ok hz
              have hb270 : rep M267 (pt cs56 (0) c267_0) d271 := rep_eq (rep_whole (k := 7) (by rw [pt_length (by omega)]; exact hl270) (rep_leaf rfl f267_0 (by omega))) hd270
              generalize hg270 : (pt cs56 (0) c267_0) = cs270 at hb270
              refine WL_c (O_st (j := 9) (v := .agg c267_0.toArray) (ws := c267_0) hS rfl (by kernel_rfl) hT261_2 rfl rfl hw270 (Rep.one f267_0) (by omega) ?_)
              rw [hg270]
              clear hg270
              intro w269 hS
              replace hS : St w noX M267 [.row (.slice none 0 0) 3 1, .row (.slice none 0 0) 3 1, .row (.slice none 0 0) 3 1, .row (.slice none 0 0) 114 3, .box b32 cs54 50, .row v64 3 1, .row v62 3 1, .row v60 3 1, .row v58 114 3, .box b3 cs270 50] w269 := hS
              refine WL_y (Y_assign (.int .i64 r268.2) rfl) ?_
              refine WL_nil (nm_then ?_)
              cases hz
              exact W_ret (rt_then (R_ct (j := 9) rfl hT261_2 rfl (by rw [Rep.len hb270]; exact ta50) hS rfl (Gives.mk (St.dropB (St.drop (St.drop (St.drop (St.drop (St.dropB (St.drop (St.drop (St.drop (St.drop hS)))) hb32))))) hb3) hE ⟨_, rfl, hb270⟩)))
            · replace hz := bif_ok_f hz hc264
              refine W_skip (nm_then ?_)
              exact ⟨M260, cs56, d57, hF258, hS, hb56, hT261_0, hT261_2, hT261_4, hT261_5, hT261_6, hz⟩
        · rintro T113 w111 ⟨M112, cs114, d115, hx116, hS, hb114, hT113_0, hT113_2, hT113_4, hT113_5, hT113_6, hz⟩
          replace hb54 := Rep.mono hx116.1 hb54
          replace hE := Mm.ext.trans hE hx116
          replace hF70 := Mm.ext.trans hF70 hx116
          rw [decodeFrame_j1] at hz
          refine W_seq ?_
          refine W_seq ?_
          refine W_reg ?_
          refine WL_y (Y_move (.string x1) hT113_0) ?_
          refine WL_y (Y_move (.int .i64 y66) hT113_6) ?_
          obtain ⟨c117, hx118, hz⟩ := bind_ok hz
          refine WL_y (Y_ixS Try.underlying9 rfl rfl hx118) ?_
          refine WL_y (Y_conv ⟨_, Try.underlying5⟩ Try.underlying3 rfl) ?_
          refine WL_y (Y_move (.int .i64 0) rfl) ?_
          refine WL_nil (nm_then ?_)
          refine W_block ?_
          refine W_loop (fun k131 T' w' => ∃ M120 cs122 d123 v125 y129, Mm.ext w.heap.size noX M112 M120 ∧ St w noX M120 [.row (.slice none 0 0) 3 1, .row (.slice none 0 0) 3 1, .row (.slice none 0 0) 3 1, .row (.slice none 0 0) 114 3, .box b32 cs122 50, .row v64 3 1, .row v62 3 1, .row v125 3 1, .row v58 114 3, .box b3 cs114 50] w' ∧ rep M120 cs122 d123 ∧ sl cs122 (0 + 3) 1 = [v58] ∧ sl cs122 (0 + 4) 1 = [v125] ∧ sl cs122 (0 + 5) 1 = [v62] ∧ sl cs122 (0 + 6) 1 = [v64] ∧ T' 0 = .string x1 ∧ T' 2 = .pointer (some ⟨b3, 0, none⟩) ∧ T' 4 = evT (fun _ => undef) (.func 68) ∧ T' 5 = .pointer (some ⟨b32, 0, none⟩) ∧ T' 6 = .int .i64 y66 ∧ T' 86 = .int .i64 (IntKind.wrap .i64 c117) ∧ T' 87 = .int .i64 y129 ∧ decodeFrame_l2 fu x1 y66 c117 k131 d123 y129 = some r) fu ?_ ?_ ?_
          · exact ⟨M112, cs54, d55, v60, (0 : Int), (Mm.ext.refl _ _ _), hS, hb54, hp59, hp61, hp63, hp65, hT113_0, hT113_2, hT113_4, hT113_5, hT113_6, rfl, rfl, hz⟩
          · rintro T' w' ⟨_, _, _, _, _, _, _, _, _, _, _, _, _, _, _, _, _, _, _, hz⟩
            rw [decodeFrame_l2] at hz
            cases hz
          · intro k131
            rintro T121 w119 ⟨M120, cs122, d123, v125, y129, hx133, hS, hb122, hp124, hp126, hp127, hp128, hT121_0, hT121_2, hT121_4, hT121_5, hT121_6, hT121_86, hT121_87, hz⟩
            replace hb114 := Rep.mono hx133.1 hb114
            replace hE := Mm.ext.trans hE hx133
            replace hF70 := Mm.ext.trans hF70 hx133
            have hF132 := hx133
            rw [decodeFrame_l2] at hz
            obtain ⟨rec130, hrec130⟩ : ∃ f, f = decodeFrame_l2 fu x1 y66 c117 k131 := ⟨_, rfl⟩
            rw [← hrec130] at hz
            refine W_seq ?_
            refine W_reg ?_
            refine WL_y (Y_lss hT121_87 hT121_86) ?_
            refine WL_nil (nm_then ?_)
            refine W_seq ?_
            refine W_cond rfl (fun hc134 => ?_) (fun hc134 => ?_)
            · replace hz := bif_ok_t hz hc134
              refine W_skip (nm_then ?_)
              refine W_seq ?_
              refine W_block ?_
              refine W_seq ?_
              refine W_reg ?_
              refine WL_y (Y_move (.int .i64 y129) hT121_87) ?_
              refine WL_y (Y_assign (.int .i64 y129) rfl) ?_
              refine WL_nil (nm_then ?_)
              refine W_drawB (Rd M120 [.box b32 cs122 50]) (inL [12]) mixed hS fun w135 hS => ?_
              have hG136 := Mm.ext.refl w.heap.size noX M120
              have hR137 : Rd M120 [.box b32 cs122 50] w135 := Rd.of hS hG136 (by simp)
              refine WB_y (i := 0) rfl (by kernel_rfl) rfl (Y_fa fa50_4 hT121_5) (fun _ => hR137) ?_
              obtain ⟨v138, ev138, hv138⟩ := (GFrame.p4 (rep_root (k := 7) rfl hb122))
              rw [sl_one_eq ev138 hp126] at hv138
              refine WB_ld (i := 1) rfl (by kernel_rfl) rfl (inL_lt rfl) (by kernel_rfl) (by kernel_rfl) (Y_ld1 v125 ts23 rfl (bvR 0 rfl) hp126) hR137 ?_
              refine WB_y (i := 2) rfl (by kernel_rfl) rfl (Y_move (.string x1) hT121_0) (fun _ => hR137) ?_
              refine WB_y (i := 3) rfl (by kernel_rfl) rfl (Y_move (.int .i64 y66) hT121_6) (fun _ => hR137) ?_
              refine WB_y (i := 4) rfl (by kernel_rfl) rfl (Y_add rfl rfl) (fun _ => hR137) ?_
              refine WB_y (i := 5) rfl (by kernel_rfl) rfl (Y_move (.int .i64 y129) rfl) (fun _ => hR137) ?_
              refine WB_y (i := 6) rfl (by kernel_rfl) rfl (Y_add rfl rfl) (fun _ => hR137) ?_
              obtain ⟨c139, hx140, hz⟩ := bind_ok hz
              refine WB_y (i := 7) rfl (by kernel_rfl) rfl (Y_ixS Try.underlying9 rfl rfl hx140) (fun _ => hR137) ?_
              refine WB_y (i := 8) rfl (by kernel_rfl) rfl (Y_conv ⟨_, Try.underlying5⟩ Try.underlying3 rfl) (fun _ => hR137) ?_
              refine WB_one (i := 9) (by kernel_rfl) rfl (O_bslice (α := Int) (l := ([IntKind.wrap .i64 c139] : List Int)) [.int .i64 (IntKind.wrap .i64 c139)] tl23 (bpc rfl bp0) rfl rfl (by decide) (by decide) (by decide) hS (brc (show rep M120 [Value.int .i64 (IntKind.wrap .i64 c139)] (IntKind.wrap .i64 c139 : Int) from rfl) br0) ?_)
              intro v142 M142 w141 hx142 hv142 hS
              replace hb114 := Rep.mono hx142.1 hb114
              replace hb122 := Rep.mono hx142.1 hb122
              replace hv138 := repL.mono hx142.1 hv138
              replace hE := Mm.ext.trans hE hx142
              replace hF70 := Mm.ext.trans hF70 hx142
              replace hF132 := Mm.ext.trans hF132 hx142
              replace hG136 := Mm.ext.trans hG136 hx142
              have hR143 : Rd M120 [.box b32 cs122 50] w141 := Rd.of hS hG136 (by simp)
              refine ⟨fun _ => hR143, ?_⟩
              obtain ⟨l146, hr145, hz⟩ := bind_ok hz
              obtain ⟨hy145, hr145⟩ := app_some hr145
              refine WB_one (i := 10) (by kernel_rfl) rfl (O_app (α := Int) (j := 7) tp23 hS rfl rfl rfl hv138 hv142 hy145 ?_)
              intro v145 M145 w144 hx145 hv145 hS
              rw [← hr145] at hv145
              clear hr145
              replace hb114 := Rep.mono hx145.1 hb114
              replace hb122 := Rep.mono hx145.1 hb122
              replace hv138 := repL.mono hx145.1 hv138
              replace hv142 := repL.mono hx145.1 hv142
              replace hE := Mm.ext.trans hE hx145
              replace hF70 := Mm.ext.trans hF70 hx145
              replace hF132 := Mm.ext.trans hF132 hx145
              replace hG136 := Mm.ext.trans hG136 hx145
              replace hS : St w noX M145 [.row (.slice none 0 0) 3 1, .row (.slice none 0 0) 3 1, .row (.slice none 0 0) 3 1, .row (.slice none 0 0) 114 3, .box b32 cs122 50, .row v64 3 1, .row v62 3 1, .row v145 3 1, .row v58 114 3, .box b3 cs114 50] w144 := hS
              have hR147 : Rd M120 [.box b32 cs122 50] w144 := Rd.of hS hG136 (by simp)
              refine ⟨fun _ => hR147, ?_⟩
              refine WB_y (i := 11) rfl (by kernel_rfl) rfl (Y_fa fa50_4 hT121_5) (fun _ => hR147) ?_
              have hw149 : ([v145] : List Value).length = 1 := Rep.len (repL_rep hv145)
              have hl149 : (cs122).length = 7 := Rep.len hb122
              obtain ⟨d150, hd149, hz⟩ := bind_ok hz
              have hb149 : rep M145 (pt cs122 (0 + 4) [v145]) d150 := rep_eq (rep_whole (k := 7) (by rw [pt_length (by omega)]; exact hl149) (GFrame.s4 (rep_root (k := 7) rfl hb122) (rep_leaf rfl (repL_rep hv145) (by omega)) (by omega) (by omega) (by omega))) hd149
              have hp151 : sl (pt cs122 (0 + 4) [v145]) (0 + 3) 1 = [v58] := (sl_pt_apart (by omega) (by omega)).trans hp124
              have hp152 : sl (pt cs122 (0 + 4) [v145]) (0 + 5) 1 = [v62] := (sl_pt_apart (by omega) (by omega)).trans hp127
              have hp153 : sl (pt cs122 (0 + 4) [v145]) (0 + 6) 1 = [v64] := (sl_pt_apart (by omega) (by omega)).trans hp128
              have hp154 : sl (pt cs122 (0 + 4) [v145]) (0 + 4) 1 = [v145] := sl_pt_same (by omega) rfl
              generalize hg149 : (pt cs122 (0 + 4) [v145]) = cs149 at hb149 hp151 hp152 hp153 hp154
              refine WB_one (i := 12) (by kernel_rfl) rfl (O_st (j := 4) (v := v145) (ws := [v145]) hS rfl (by kernel_rfl) rfl rfl (repL_cells hv145) hw149 (Rep.one (repL_rep hv145)) (by omega) ?_)
              rw [hg149]
              clear hg149
              intro w148 hS
              replace hS : St w noX M145 [.row (.slice none 0 0) 3 1, .row (.slice none 0 0) 3 1, .row (.slice none 0 0) 3 1, .row (.slice none 0 0) 114 3, .box b32 cs149 50, .row v64 3 1, .row v62 3 1, .row v145 3 1, .row v58 114 3, .box b3 cs114 50] w148 := hS
              refine ⟨fun h => Bool.noConfusion (show false = true from h), ?_⟩
              refine WB_done (by kernel_rfl) (nm_blk ?_)
              refine (nm_then ?_)
              refine W_reg ?_
              refine WL_y (Y_add hT121_87 rfl) ?_
              refine WL_y (Y_move (.int .i64 (IntKind.wrap .i64 (y129 + 1))) rfl) ?_
              refine WL_nil (nm_then ?_)
              exact ⟨M145, cs149, d150, v145, (IntKind.wrap .i64 (y129 + 1)), hF132, hS, hb149, hp151, hp154, hp152, hp153, hT121_0, hT121_2, hT121_4, hT121_5, hT121_6, hT121_86, rfl, (by rw [← hrec130]; exact hz)⟩
            · replace hz := bif_ok_f hz hc134
              refine W_exit ?_
              refine ex_then ?_
              refine ex_then ?_
              refine ex_hit ?_
              refine (nm_then ?_)
              refine W_seq ?_
              refine W_reg ?_
              refine WL_y (Y_move (.int .i64 y66) hT121_6) ?_
              refine WL_y (Y_move (.string x1) hT121_0) ?_
              refine WL_y (Y_move (.int .i64 y66) hT121_6) ?_
              obtain ⟨c155, hx156, hz⟩ := bind_ok hz
              refine WL_y (Y_ixS Try.underlying9 rfl rfl hx156) ?_
              refine WL_y (Y_conv ⟨_, Try.underlying5⟩ Try.underlying3 rfl) ?_
              refine WL_y (Y_add rfl rfl) ?_
              refine WL_y (Y_add rfl rfl) ?_
              refine WL_y (Y_assign (.int .i64 (IntKind.wrap .i64 (y66 + (IntKind.wrap .i64 (1 + (IntKind.wrap .i64 c155)))))) rfl) ?_
              refine WL_nil (nm_then ?_)
              refine W_seq ?_
              refine W_seq ?_
              refine W_reg ?_
              refine WL_y (Y_move (.string x1) hT121_0) ?_
              refine WL_y (Y_lenS Try.underlying9 rfl) ?_
              refine WL_y (Y_move (.int .i64 (IntKind.wrap .i64 (y66 + (IntKind.wrap .i64 (1 + (IntKind.wrap .i64 c155)))))) rfl) ?_
              refine WL_y (Y_add rfl rfl) ?_
              refine WL_y (Y_move (.string x1) hT121_0) ?_
              refine WL_y (Y_move (.int .i64 (IntKind.wrap .i64 (y66 + (IntKind.wrap .i64 (1 + (IntKind.wrap .i64 c155)))))) rfl) ?_
              obtain ⟨c157, hx158, hz⟩ := bind_ok hz
              refine WL_y (Y_ixS Try.underlying9 rfl rfl hx158) ?_
              refine WL_y (Y_conv ⟨_, Try.underlying5⟩ Try.underlying3 rfl) ?_
              refine WL_y (Y_mul rfl rfl) ?_
              refine WL_y (Y_add rfl rfl) ?_
              refine WL_y (Y_neq rfl rfl) ?_
              refine WL_nil (nm_then ?_)
              refine W_cond rfl (fun hc159 => ?_) (fun hc159 => ?_)
              · replace hz := bif_ok_t hz hc159
                refine W_seq ?_
                refine W_reg ?_
                refine WL_y (Y_move (evT (fun _ => undef) (.func 68)) hT121_4) ?_
                obtain ⟨r163, hr162, hz⟩ := bind_ok hz
                refine WL_c (OW_fn rfl (O_mem (vs := []) (rv := (fun M' u => ∃ c0, u = .tuple #[.agg c0.toArray, .int .i64 r163.2] ∧ rep M' c0 r163.1)) cb68 args0 hS (decodeNo_ok hS.agree hr162)) ?_)
                intro u162 M162 w161 hx162 hu162 hS
                obtain ⟨c162_0, hq162, f162_0⟩ := hu162
                subst hq162
                replace hb114 := Rep.mono hx162.1 hb114
                replace hb122 := Rep.mono hx162.1 hb122
                replace hE := Mm.ext.trans hE hx162
                replace hF70 := Mm.ext.trans hF70 hx162
                replace hF132 := Mm.ext.trans hF132 hx162
                refine WL_y (Y_extract (v := .agg c162_0.toArray) rfl rfl) ?_
                refine WL_y (Y_extract (v := .int .i64 r163.2) rfl rfl) ?_
                have hw165 : (c162_0 : List Value).length = 7 := Rep.len f162_0
                have hl165 : (cs114).length = 7 := Rep.len hb114
                obtain ⟨d166, hd165, hz⟩ := bind_ok hz
                have hb165 : rep M162 (pt cs114 (0) c162_0) d166 := rep_eq (rep_whole (k := 7) (by rw [pt_length (by omega)]; exact hl165) (rep_leaf rfl f162_0 (by omega))) hd165
                generalize hg165 : (pt cs114 (0) c162_0) = cs165 at hb165
                refine WL_c (O_st (j := 9) (v := .agg c162_0.toArray) (ws := c162_0) hS rfl (by kernel_rfl) hT121_2 rfl rfl hw165 (Rep.one f162_0) (by omega) ?_)
                rw [hg165]
                clear hg165
                intro w164 hS
                replace hS : St w noX M162 [.row (.slice none 0 0) 3 1, .row (.slice none 0 0) 3 1, .row (.slice none 0 0) 3 1, .row (.slice none 0 0) 114 3, .box b32 cs122 50, .row v64 3 1, .row v62 3 1, .row v125 3 1, .row v58 114 3, .box b3 cs165 50] w164 := hS
                refine WL_y (Y_assign (.int .i64 r163.2) rfl) ?_
                refine WL_nil (nm_then ?_)
                cases hz
                exact W_ret (rt_then (R_ct (j := 9) rfl hT121_2 rfl (by rw [Rep.len hb165]; exact ta50) hS rfl (Gives.mk (St.dropB (St.drop (St.drop (St.drop (St.drop (St.dropB (St.drop (St.drop (St.drop (St.drop hS)))) hb32))))) hb3) hE ⟨_, rfl, hb165⟩)))
              · replace hz := bif_ok_f hz hc159
                refine W_skip (nm_then ?_)
                refine W_seq ?_
                refine W_seq ?_
                refine W_reg ?_
                refine WL_y (Y_move (.string x1) hT121_0) ?_
                refine WL_y (Y_move (.int .i64 (IntKind.wrap .i64 (y66 + (IntKind.wrap .i64 (1 + (IntKind.wrap .i64 c155)))))) rfl) ?_
                obtain ⟨c167, hx168, hz⟩ := bind_ok hz
                refine WL_y (Y_ixS Try.underlying9 rfl rfl hx168) ?_
                refine WL_y (Y_conv ⟨_, Try.underlying5⟩ Try.underlying3 rfl) ?_
                refine WL_y (Y_move (.int .i64 0) rfl) ?_
                refine WL_nil (nm_then ?_)
                refine W_block ?_
                refine W_loop (fun k182 T' w' => ∃ M170 cs172 d173 v176 v178 y180, Mm.ext w.heap.size noX M120 M170 ∧ St w noX M170 [.row (.slice none 0 0) 3 1, .row (.slice none 0 0) 3 1, .row (.slice none 0 0) 3 1, .row (.slice none 0 0) 114 3, .box b32 cs172 50, .row v178 3 1, .row v176 3 1, .row v125 3 1, .row v58 114 3, .box b3 cs114 50] w' ∧ rep M170 cs172 d173 ∧ sl cs172 (0 + 3) 1 = [v58] ∧ sl cs172 (0 + 4) 1 = [v125] ∧ sl cs172 (0 + 5) 1 = [v176] ∧ sl cs172 (0 + 6) 1 = [v178] ∧ T' 0 = .string x1 ∧ T' 2 = .pointer (some ⟨b3, 0, none⟩) ∧ T' 4 = evT (fun _ => undef) (.func 68) ∧ T' 5 = .pointer (some ⟨b32, 0, none⟩) ∧ T' 6 = .int .i64 (IntKind.wrap .i64 (y66 + (IntKind.wrap .i64 (1 + (IntKind.wrap .i64 c155))))) ∧ T' 128 = .int .i64 (IntKind.wrap .i64 c167) ∧ T' 129 = .int .i64 y180 ∧ decodeFrame_l3 fu x1 y66 c155 c167 k182 d173 y180 = some r) fu ?_ ?_ ?_
                · exact ⟨M120, cs122, d123, v62, v64, (0 : Int), (Mm.ext.refl _ _ _), hS, hb122, hp124, hp126, hp127, hp128, hT121_0, hT121_2, hT121_4, hT121_5, rfl, rfl, rfl, hz⟩
                · rintro T' w' ⟨_, _, _, _, _, _, _, _, _, _, _, _, _, _, _, _, _, _, _, _, hz⟩
                  rw [decodeFrame_l3] at hz
                  cases hz
                · intro k182
                  rintro T171 w169 ⟨M170, cs172, d173, v176, v178, y180, hx184, hS, hb172, hp174, hp175, hp177, hp179, hT171_0, hT171_2, hT171_4, hT171_5, hT171_6, hT171_128, hT171_129, hz⟩
                  replace hb114 := Rep.mono hx184.1 hb114
                  replace hE := Mm.ext.trans hE hx184
                  replace hF70 := Mm.ext.trans hF70 hx184
                  replace hF132 := Mm.ext.trans hF132 hx184
                  have hF183 := hx184
                  rw [decodeFrame_l3] at hz
                  obtain ⟨rec181, hrec181⟩ : ∃ f, f = decodeFrame_l3 fu x1 y66 c155 c167 k182 := ⟨_, rfl⟩
                  rw [← hrec181] at hz
                  refine W_seq ?_
                  refine W_reg ?_
                  refine WL_y (Y_lss hT171_129 hT171_128) ?_
                  refine WL_nil (nm_then ?_)
                  refine W_seq ?_
                  refine W_cond rfl (fun hc185 => ?_) (fun hc185 => ?_)
                  · replace hz := bif_ok_t hz hc185
                    refine W_skip (nm_then ?_)
                    refine W_seq ?_
                    refine W_block ?_
                    refine W_seq ?_
                    refine W_reg ?_
                    refine WL_y (Y_move (.int .i64 y180) hT171_129) ?_
                    refine WL_y (Y_assign (.int .i64 y180) rfl) ?_
                    refine WL_nil (nm_then ?_)
                    refine W_seq ?_
                    refine W_drawB (Rd M170 [.box b32 cs172 50]) (inL [13]) mixed hS fun w186 hS => ?_
                    have hG187 := Mm.ext.refl w.heap.size noX M170
                    have hR188 : Rd M170 [.box b32 cs172 50] w186 := Rd.of hS hG187 (by simp)
                    refine WB_y (i := 0) rfl (by kernel_rfl) rfl (Y_fa fa50_5 hT171_5) (fun _ => hR188) ?_
                    obtain ⟨v189, ev189, hv189⟩ := (GFrame.p5 (rep_root (k := 7) rfl hb172))
                    rw [sl_one_eq ev189 hp177] at hv189
                    refine WB_ld (i := 1) rfl (by kernel_rfl) rfl (inL_lt rfl) (by kernel_rfl) (by kernel_rfl) (Y_ld1 v176 ts23 rfl (bvR 0 rfl) hp177) hR188 ?_
                    refine WB_y (i := 2) rfl (by kernel_rfl) rfl (Y_move (.string x1) hT171_0) (fun _ => hR188) ?_
                    refine WB_y (i := 3) rfl (by kernel_rfl) rfl (Y_move (.int .i64 (IntKind.wrap .i64 (y66 + (IntKind.wrap .i64 (1 + (IntKind.wrap .i64 c155)))))) hT171_6) (fun _ => hR188) ?_
                    refine WB_y (i := 4) rfl (by kernel_rfl) rfl (Y_add rfl rfl) (fun _ => hR188) ?_
                    refine WB_y (i := 5) rfl (by kernel_rfl) rfl (Y_move (.int .i64 y180) rfl) (fun _ => hR188) ?_
                    refine WB_y (i := 6) rfl (by kernel_rfl) rfl (Y_mul rfl rfl) (fun _ => hR188) ?_
                    refine WB_y (i := 7) rfl (by kernel_rfl) rfl (Y_add rfl rfl) (fun _ => hR188) ?_
                    obtain ⟨c190, hx191, hz⟩ := bind_ok hz
                    refine WB_y (i := 8) rfl (by kernel_rfl) rfl (Y_ixS Try.underlying9 rfl rfl hx191) (fun _ => hR188) ?_
                    refine WB_y (i := 9) rfl (by kernel_rfl) rfl (Y_conv ⟨_, Try.underlying5⟩ Try.underlying3 rfl) (fun _ => hR188) ?_
                    refine WB_one (i := 10) (by kernel_rfl) rfl (O_bslice (α := Int) (l := ([IntKind.wrap .i64 c190] : List Int)) [.int .i64 (IntKind.wrap .i64 c190)] tl23 (bpc rfl bp0) rfl rfl (by decide) (by decide) (by decide) hS (brc (show rep M170 [Value.int .i64 (IntKind.wrap .i64 c190)] (IntKind.wrap .i64 c190 : Int) from rfl) br0) ?_)
                    intro v193 M193 w192 hx193 hv193 hS
                    replace hb114 := Rep.mono hx193.1 hb114
                    replace hb172 := Rep.mono hx193.1 hb172
                    replace hv189 := repL.mono hx193.1 hv189
                    replace hE := Mm.ext.trans hE hx193
                    replace hF70 := Mm.ext.trans hF70 hx193
                    replace hF132 := Mm.ext.trans hF132 hx193
                    replace hF183 := Mm.ext.trans hF183 hx193
                    replace hG187 := Mm.ext.trans hG187 hx193
                    have hR194 : Rd M170 [.box b32 cs172 50] w192 := Rd.of hS hG187 (by simp)
                    refine ⟨fun _ => hR194, ?_⟩
                    obtain ⟨l197, hr196, hz⟩ := bind_ok hz
                    obtain ⟨hy196, hr196⟩ := app_some hr196
                    refine WB_one (i := 11) (by kernel_rfl) rfl (O_app (α := Int) (j := 6) tp23 hS rfl rfl rfl hv189 hv193 hy196 ?_)
                    intro v196 M196 w195 hx196 hv196 hS
                    rw [← hr196] at hv196
                    clear hr196
                    replace hb114 := Rep.mono hx196.1 hb114
                    replace hb172 := Rep.mono hx196.1 hb172
                    replace hv189 := repL.mono hx196.1 hv189
                    replace hv193 := repL.mono hx196.1 hv193
                    replace hE := Mm.ext.trans hE hx196
                    replace hF70 := Mm.ext.trans hF70 hx196
                    replace hF132 := Mm.ext.trans hF132 hx196
                    replace hF183 := Mm.ext.trans hF183 hx196
                    replace hG187 := Mm.ext.trans hG187 hx196
                    replace hS : St w noX M196 [.row (.slice none 0 0) 3 1, .row (.slice none 0 0) 3 1, .row (.slice none 0 0) 3 1, .row (.slice none 0 0) 114 3, .box b32 cs172 50, .row v178 3 1, .row v196 3 1, .row v125 3 1, .row v58 114 3, .box b3 cs114 50] w195 := hS
                    have hR198 : Rd M170 [.box b32 cs172 50] w195 := Rd.of hS hG187 (by simp)
                    refine ⟨fun _ => hR198, ?_⟩
                    refine WB_y (i := 12) rfl (by kernel_rfl) rfl (Y_fa fa50_5 hT171_5) (fun _ => hR198) ?_
                    have hw200 : ([v196] : List Value).length = 1 := Rep.len (repL_rep hv196)
                    have hl200 : (cs172).length = 7 := Rep.len hb172
                    obtain ⟨d201, hd200, hz⟩ := bind_ok hz
                    have hb200 : rep M196 (pt cs172 (0 + 5) [v196]) d201 := rep_eq (rep_whole (k := 7) (by rw [pt_length (by omega)]; exact hl200) (GFrame.s5 (rep_root (k := 7) rfl hb172) (rep_leaf rfl (repL_rep hv196) (by omega)) (by omega) (by omega) (by omega))) hd200
                    have hp202 : sl (pt cs172 (0 + 5) [v196]) (0 + 3) 1 = [v58] := (sl_pt_apart (by omega) (by omega)).trans hp174
                    have hp203 : sl (pt cs172 (0 + 5) [v196]) (0 + 4) 1 = [v125] := (sl_pt_apart (by omega) (by omega)).trans hp175
                    have hp204 : sl (pt cs172 (0 + 5) [v196]) (0 + 6) 1 = [v178] := (sl_pt_apart (by omega) (by omega)).trans hp179
                    have hp205 : sl (pt cs172 (0 + 5) [v196]) (0 + 5) 1 = [v196] := sl_pt_same (by omega) rfl
                    generalize hg200 : (pt cs172 (0 + 5) [v196]) = cs200 at hb200 hp202 hp203 hp204 hp205
                    refine WB_one (i := 13) (by kernel_rfl) rfl (O_st (j := 4) (v := v196) (ws := [v196]) hS rfl (by kernel_rfl) rfl rfl (repL_cells hv196) hw200 (Rep.one (repL_rep hv196)) (by omega) ?_)
                    rw [hg200]
                    clear hg200
                    intro w199 hS
                    replace hS : St w noX M196 [.row (.slice none 0 0) 3 1, .row (.slice none 0 0) 3 1, .row (.slice none 0 0) 3 1, .row (.slice none 0 0) 114 3, .box b32 cs200 50, .row v178 3 1, .row v196 3 1, .row v125 3 1, .row v58 114 3, .box b3 cs114 50] w199 := hS
                    refine ⟨fun h => Bool.noConfusion (show false = true from h), ?_⟩
                    refine WB_done (by kernel_rfl) (nm_then ?_)
                    refine W_drawB (Rd M196 [.box b32 cs200 50]) (inL [13]) mixed hS fun w206 hS => ?_
                    have hG207 := Mm.ext.refl w.heap.size noX M196
                    have hR208 : Rd M196 [.box b32 cs200 50] w206 := Rd.of hS hG207 (by simp)
                    refine WB_y (i := 0) rfl (by kernel_rfl) rfl (Y_fa fa50_6 hT171_5) (fun _ => hR208) ?_
                    obtain ⟨v209, ev209, hv209⟩ := (GFrame.p6 (rep_root (k := 7) rfl hb200))
                    rw [sl_one_eq ev209 hp204] at hv209
                    refine WB_ld (i := 1) rfl (by kernel_rfl) rfl (inL_lt rfl) (by kernel_rfl) (by kernel_rfl) (Y_ld1 v178 ts23 rfl (bvR 0 rfl) hp204) hR208 ?_
                    refine WB_y (i := 2) rfl (by kernel_rfl) rfl (Y_move (.string x1) hT171_0) (fun _ => hR208) ?_
                    refine WB_y (i := 3) rfl (by kernel_rfl) rfl (Y_move (.int .i64 (IntKind.wrap .i64 (y66 + (IntKind.wrap .i64 (1 + (IntKind.wrap .i64 c155)))))) hT171_6) (fun _ => hR208) ?_
                    refine WB_y (i := 4) rfl (by kernel_rfl) rfl (Y_add rfl rfl) (fun _ => hR208) ?_
                    refine WB_y (i := 5) rfl (by kernel_rfl) rfl (Y_move (.int .i64 y180) rfl) (fun _ => hR208) ?_
                    refine WB_y (i := 6) rfl (by kernel_rfl) rfl (Y_mul rfl rfl) (fun _ => hR208) ?_
                    refine WB_y (i := 7) rfl (by kernel_rfl) rfl (Y_add rfl rfl) (fun _ => hR208) ?_
                    obtain ⟨s211, hx210, hz⟩ := bind_ok hz
                    obtain ⟨⟨pp210, qq210⟩, hc210, hx210⟩ := Option.map_eq_some_iff.1 hx210
                    refine WB_y (i := 8) rfl (by kernel_rfl) rfl ((hx210 ▸ Y_cutS (l := (some (IntKind.wrap .i64 ((IntKind.wrap .i64 ((IntKind.wrap .i64 (y66 + (IntKind.wrap .i64 (1 + (IntKind.wrap .i64 c155))))) + 2)) + (IntKind.wrap .i64 (7 * y180)))))) (h := none) Try.underlying9 rfl (evs rfl) evn hc210)) (fun _ => hR208) ?_
                    obtain ⟨r214, hr213, hz⟩ := bind_ok hz
                    refine WB_one (i := 9) (by kernel_rfl) rfl (O_val (vs := [.string s211]) (v := .int .i64 r214) cb69 (args1 rfl) hS (fromSix_ok hS.agree hr213) ?_)
                    intro w212 hS
                    have hR215 : Rd M196 [.box b32 cs200 50] w212 := Rd.of hS hG207 (by simp)
                    refine ⟨fun _ => hR215, ?_⟩
                    refine WB_one (i := 10) (by kernel_rfl) rfl (O_bslice (α := Int) (l := ([r214] : List Int)) [.int .i64 r214] tl23 (bpc rfl bp0) rfl rfl (by decide) (by decide) (by decide) hS (brc (show rep M196 [Value.int .i64 r214] (r214 : Int) from rfl) br0) ?_)
                    intro v217 M217 w216 hx217 hv217 hS
                    replace hb114 := Rep.mono hx217.1 hb114
                    replace hb200 := Rep.mono hx217.1 hb200
                    replace hv209 := repL.mono hx217.1 hv209
                    replace hE := Mm.ext.trans hE hx217
                    replace hF70 := Mm.ext.trans hF70 hx217
                    replace hF132 := Mm.ext.trans hF132 hx217
                    replace hF183 := Mm.ext.trans hF183 hx217
                    replace hG207 := Mm.ext.trans hG207 hx217
                    have hR218 : Rd M196 [.box b32 cs200 50] w216 := Rd.of hS hG207 (by simp)
                    refine ⟨fun _ => hR218, ?_⟩
                    obtain ⟨l221, hr220, hz⟩ := bind_ok hz
                    obtain ⟨hy220, hr220⟩ := app_some hr220
                    refine WB_one (i := 11) (by kernel_rfl) rfl (O_app (α := Int) (j := 5) tp23 hS rfl rfl rfl hv209 hv217 hy220 ?_)
                    intro v220 M220 w219 hx220 hv220 hS
                    rw [← hr220] at hv220
                    clear hr220
                    replace hb114 := Rep.mono hx220.1 hb114
                    replace hb200 := Rep.mono hx220.1 hb200
                    replace hv209 := repL.mono hx220.1 hv209
                    replace hv217 := repL.mono hx220.1 hv217
                    replace hE := Mm.ext.trans hE hx220
                    replace hF70 := Mm.ext.trans hF70 hx220
                    replace hF132 := Mm.ext.trans hF132 hx220
                    replace hF183 := Mm.ext.trans hF183 hx220
                    replace hG207 := Mm.ext.trans hG207 hx220
                    replace hS : St w noX M220 [.row (.slice none 0 0) 3 1, .row (.slice none 0 0) 3 1, .row (.slice none 0 0) 3 1, .row (.slice none 0 0) 114 3, .box b32 cs200 50, .row v220 3 1, .row v196 3 1, .row v125 3 1, .row v58 114 3, .box b3 cs114 50] w219 := hS
                    have hR222 : Rd M196 [.box b32 cs200 50] w219 := Rd.of hS hG207 (by simp)
                    refine ⟨fun _ => hR222, ?_⟩
                    refine WB_y (i := 12) rfl (by kernel_rfl) rfl (Y_fa fa50_6 hT171_5) (fun _ => hR222) ?_
                    have hw224 : ([v220] : List Value).length = 1 := Rep.len (repL_rep hv220)
                    have hl224 : (cs200).length = 7 := Rep.len hb200
                    obtain ⟨d225, hd224, hz⟩ := bind_ok hz
                    have hb224 : rep M220 (pt cs200 (0 + 6) [v220]) d225 := rep_eq (rep_whole (k := 7) (by rw [pt_length (by omega)]; exact hl224) (GFrame.s6 (rep_root (k := 7) rfl hb200) (rep_leaf rfl (repL_rep hv220) (by omega)) (by omega) (by omega) (by omega))) hd224
                    have hp226 : sl (pt cs200 (0 + 6) [v220]) (0 + 3) 1 = [v58] := (sl_pt_apart (by omega) (by omega)).trans hp202
                    have hp227 : sl (pt cs200 (0 + 6) [v220]) (0 + 4) 1 = [v125] := (sl_pt_apart (by omega) (by omega)).trans hp203
                    have hp228 : sl (pt cs200 (0 + 6) [v220]) (0 + 5) 1 = [v196] := (sl_pt_apart (by omega) (by omega)).trans hp205
                    have hp229 : sl (pt cs200 (0 + 6) [v220]) (0 + 6) 1 = [v220] := sl_pt_same (by omega) rfl
                    generalize hg224 : (pt cs200 (0 + 6) [v220]) = cs224 at hb224 hp226 hp227 hp228 hp229
                    refine WB_one (i := 13) (by kernel_rfl) rfl (O_st (j := 4) (v := v220) (ws := [v220]) hS rfl (by kernel_rfl) rfl rfl (repL_cells hv220) hw224 (Rep.one (repL_rep hv220)) (by omega) ?_)
                    rw [hg224]
                    clear hg224
                    intro w223 hS
                    replace hS : St w noX M220 [.row (.slice none 0 0) 3 1, .row (.slice none 0 0) 3 1, .row (.slice none 0 0) 3 1, .row (.slice none 0 0) 114 3, .box b32 cs224 50, .row v220 3 1, .row v196 3 1, .row v125 3 1, .row v58 114 3, .box b3 cs114 50] w223 := hS
                    refine ⟨fun h => Bool.noConfusion (show false = true from h), ?_⟩
                    refine WB_done (by kernel_rfl) (nm_blk ?_)
                    refine (nm_then ?_)
                    refine W_reg ?_
                    refine WL_y (Y_add hT171_129 rfl) ?_
                    refine WL_y (Y_move (.int .i64 (IntKind.wrap .i64 (y180 + 1))) rfl) ?_
                    refine WL_nil (nm_then ?_)
                    exact ⟨M220, cs224, d225, v196, v220, (IntKind.wrap .i64 (y180 + 1)), hF183, hS, hb224, hp226, hp227, hp228, hp229, hT171_0, hT171_2, hT171_4, hT171_5, hT171_6, hT171_128, rfl, (by rw [← hrec181]; exact hz)⟩
                  · replace hz := bif_ok_f hz hc185
                    refine W_exit ?_
                    refine ex_then ?_
                    refine ex_then ?_
                    refine ex_hit ?_
                    refine (nm_then ?_)
                    refine W_seq ?_
                    refine W_seq ?_
                    refine W_reg ?_
                    have ha230 := (rep_root (k := 7) rfl hb172)
                    have hp231 : sl (sl cs172 (0) 7) 3 1 = [v58] := (sl_sub (by decide)).trans hp174
                    have hp232 : sl (sl cs172 (0) 7) 4 1 = [v125] := (sl_sub (by decide)).trans hp175
                    have hp233 : sl (sl cs172 (0) 7) 5 1 = [v176] := (sl_sub (by decide)).trans hp177
                    have hp234 : sl (sl cs172 (0) 7) 6 1 = [v178] := (sl_sub (by decide)).trans hp179
                    refine WL_y (Y_ldn ta50 hT171_5 (hS.bvB 4 rfl) (Rep.len ha230)) ?_
                    obtain ⟨r237, hr236, hz⟩ := bind_ok hz
                    replace hr236 := Option.some.inj hr236
                    refine WL_c (O_val (vs := [.agg (sl cs172 (0) 7).toArray]) (v := .int .i64 r237) cb70 (args1 rfl) hS (hr236 ▸ (c_isFrame hS.agree ha230)) ?_)
                    intro w235 hS
                    refine WL_y (Y_neq rfl rfl) ?_
                    refine WL_nil (nm_then ?_)
                    refine W_cond rfl (fun hc238 => ?_) (fun hc238 => ?_)
                    · replace hz := bif_ok_t hz hc238
                      refine W_seq ?_
                      refine W_reg ?_
                      refine WL_y (Y_move (evT (fun _ => undef) (.func 68)) hT171_4) ?_
                      obtain ⟨r242, hr241, hz⟩ := bind_ok hz
                      refine WL_c (OW_fn rfl (O_mem (vs := []) (rv := (fun M' u => ∃ c0, u = .tuple #[.agg c0.toArray, .int .i64 r242.2] ∧ rep M' c0 r242.1)) cb68 args0 hS (decodeNo_ok hS.agree hr241)) ?_)
                      intro u241 M241 w240 hx241 hu241 hS
                      obtain ⟨c241_0, hq241, f241_0⟩ := hu241
                      subst hq241
                      replace hb114 := Rep.mono hx241.1 hb114
                      replace hb172 := Rep.mono hx241.1 hb172
                      replace hE := Mm.ext.trans hE hx241
                      replace hF70 := Mm.ext.trans hF70 hx241
                      replace hF132 := Mm.ext.trans hF132 hx241
                      replace hF183 := Mm.ext.trans hF183 hx241
                      refine WL_y (Y_extract (v := .agg c241_0.toArray) rfl rfl) ?_
                      refine WL_y (Y_extract (v := .int .i64 r242.2) rfl rfl) ?_
                      have hw244 : (c241_0 : List Value).length = 7 := Rep.len f241_0
                      have hl244 : (cs114).length = 7 := Rep.len hb114
                      obtain ⟨d245, hd244, hz⟩ := bind_ok hz
                      have hb244 : rep M241 (pt cs114 (0) c241_0) d245 := rep_eq (rep_whole (k := 7) (by rw [pt_length (by omega)]; exact hl244) (rep_leaf rfl f241_0 (by omega))) hd244
                      generalize hg244 : (pt cs114 (0) c241_0) = cs244 at hb244
                      refine WL_c (O_st (j := 9) (v := .agg c241_0.toArray) (ws := c241_0) hS rfl (by kernel_rfl) hT171_2 rfl rfl hw244 (Rep.one f241_0) (by omega) ?_)
                      rw [hg244]
                      clear hg244
                      intro w243 hS
                      replace hS : St w noX M241 [.row (.slice none 0 0) 3 1, .row (.slice none 0 0) 3 1, .row (.slice none 0 0) 3 1, .row (.slice none 0 0) 114 3, .box b32 cs172 50, .row v178 3 1, .row v176 3 1, .row v125 3 1, .row v58 114 3, .box b3 cs244 50] w243 := hS
                      refine WL_y (Y_assign (.int .i64 r242.2) rfl) ?_
                      refine WL_nil (nm_then ?_)
                      cases hz
                      exact W_ret (rt_then (R_ct (j := 9) rfl hT171_2 rfl (by rw [Rep.len hb244]; exact ta50) hS rfl (Gives.mk (St.dropB (St.drop (St.drop (St.drop (St.drop (St.dropB (St.drop (St.drop (St.drop (St.drop hS)))) hb32))))) hb3) hE ⟨_, rfl, hb244⟩)))
                    · replace hz := bif_ok_f hz hc238
                      refine W_skip (nm_then ?_)
                      refine W_seq ?_
                      refine W_reg ?_
                      have ha246 := (rep_root (k := 7) rfl hb172)
                      have hp247 : sl (sl cs172 (0) 7) 3 1 = [v58] := (sl_sub (by decide)).trans hp174
                      have hp248 : sl (sl cs172 (0) 7) 4 1 = [v125] := (sl_sub (by decide)).trans hp175
                      have hp249 : sl (sl cs172 (0) 7) 5 1 = [v176] := (sl_sub (by decide)).trans hp177
                      have hp250 : sl (sl cs172 (0) 7) 6 1 = [v178] := (sl_sub (by decide)).trans hp179
                      refine WL_y (Y_ldn ta50 hT171_5 (hS.bvB 4 rfl) (Rep.len ha246)) ?_
                      have hw252 : ((sl cs172 (0) 7) : List Value).length = 7 := Rep.len ha246
                      have hl252 : (cs114).length = 7 := Rep.len hb114
                      obtain ⟨d253, hd252, hz⟩ := bind_ok hz
                      have hb252 : rep M170 (pt cs114 (0) (sl cs172 (0) 7)) d253 := rep_eq (rep_whole (k := 7) (by rw [pt_length (by omega)]; exact hl252) (rep_leaf rfl ha246 (by omega))) hd252
                      have hp254 : sl (pt cs114 (0) (sl cs172 (0) 7)) (0 + 3) 1 = [v58] := (sl_pt_sub (by omega) (by omega)).trans hp247
                      have hp255 : sl (pt cs114 (0) (sl cs172 (0) 7)) (0 + 4) 1 = [v125] := (sl_pt_sub (by omega) (by omega)).trans hp248
                      have hp256 : sl (pt cs114 (0) (sl cs172 (0) 7)) (0 + 5) 1 = [v176] := (sl_pt_sub (by omega) (by omega)).trans hp249
                      have hp257 : sl (pt cs114 (0) (sl cs172 (0) 7)) (0 + 6) 1 = [v178] := (sl_pt_sub (by omega) (by omega)).trans hp250
                      generalize hg252 : (pt cs114 (0) (sl cs172 (0) 7)) = cs252 at hb252 hp254 hp255 hp256 hp257
                      refine WL_c (O_st (j := 9) (v := .agg (sl cs172 (0) 7).toArray) (ws := (sl cs172 (0) 7)) hS rfl (by kernel_rfl) hT171_2 rfl rfl hw252 (Rep.one ha246) (by omega) ?_)
                      rw [hg252]
                      clear hg252
                      intro w251 hS
                      replace hS : St w noX M170 [.row (.slice none 0 0) 3 1, .row (.slice none 0 0) 3 1, .row (.slice none 0 0) 3 1, .row (.slice none 0 0) 114 3, .box b32 cs172 50, .row v178 3 1, .row v176 3 1, .row v125 3 1, .row v58 114 3, .box b3 cs252 50] w251 := hS
                      refine WL_y (Y_assign (.int .i64 0) rfl) ?_
                      refine WL_nil (nm_then ?_)
                      cases hz
                      exact W_ret (R_ct (j := 9) rfl hT171_2 rfl (by rw [Rep.len hb252]; exact ta50) hS rfl (Gives.mk (St.dropB (St.drop (St.drop (St.drop (St.drop (St.dropB (St.drop (St.drop (St.drop (St.drop hS)))) hb32))))) hb3) hE ⟨_, rfl, hb252⟩))

def wireReads_j1 (c21 : Bool) : Option Bool :=
    some c21

def wireReadsD (fu : Nat) (x1 : ByteArray) : Option Bool :=
    (decodeD fu x1).bind fun r4 =>
    (some r4.1).bind fun d9 =>
    (decodeFrameD fu x1).bind fun r12 =>
    (some r12.1).bind fun d17 =>
    (sameFrameD fu d9 d17).bind fun r28 =>
    (bif r28 then
    (bif r4.2 == r12.2 then
    (lawFramesD fu).bind fun r33 =>
    wireReads_j1 r33
    else
    wireReads_j1 false)
    else
    wireReads_j1 false)

set_option maxRecDepth 100000 in
set_option maxHeartbeats 4000000 in
theorem wireReads_ok {M : Mm} {w : World} {x1 : ByteArray} {fu : Nat} {r : Bool} (hA : Agree M w)  (hz : wireReadsD fu x1 = some r) :
    Calls Try.prog 7 #[.string x1] w (GivesV w (.bool r)) := by
  refine calls_W Try.func7 rfl 28 rfl rfl (by kernel_rfl) fun T hT => ?_
  have hT_0 : T 0 = .string x1 := hT 0
  clear hT
  have hE := Mm.ext.refl w.heap.size noX M
  have hS : St w noX M [] w := St.start hA
  rw [wireReadsD] at hz
  refine W_seq ?_
  refine W_reg ?_
  refine WL_y (Y_assign (.bool false) rfl) ?_
  refine WL_nil (nm_then ?_)
  refine W_seq ?_
  refine W_reg ?_
  refine WL_y (Y_move (.string x1) hT_0) ?_
  obtain ⟨r4, hr3, hz⟩ := bind_ok hz
  refine WL_c (O_mem (vs := [.string x1]) (rv := (fun M' u => ∃ c0, u = .tuple #[.agg c0.toArray, .int .i64 r4.2] ∧ rep M' c0 r4.1)) cb26 (args1 rfl) hS (decode_ok hS.agree hr3) ?_)
  intro u3 M3 w2 hx3 hu3 hS
  obtain ⟨c3_0, hq3, f3_0⟩ := hu3
  subst hq3
  replace hE := Mm.ext.trans hE hx3
  refine WL_y (Y_move (.tuple #[.agg c3_0.toArray, .int .i64 r4.2]) rfl) ?_
  refine WL_y (Y_extract (v := .agg c3_0.toArray) rfl rfl) ?_
  refine WL_y (Y_extract (v := .int .i64 r4.2) rfl rfl) ?_
  refine WL_c (O_alloc tz50 hS ?_)
  intro b6 w5 hb6 hS
  replace hS : St w noX M3 [.box b6 (Zr.zc GFrame) 50] w5 := hS
  have zb6 : rep M3 (Zr.zc GFrame) (Zr.zd : GFrame) := Zr.zr
  have hw8 : (c3_0 : List Value).length = 7 := Rep.len f3_0
  have hl8 : ((Zr.zc GFrame)).length = 7 := Rep.len zb6
  obtain ⟨d9, hd8, hz⟩ := bind_ok hz
  have hb8 : rep M3 (pt (Zr.zc GFrame) (0) c3_0) d9 := rep_eq (rep_whole (k := 7) (by rw [pt_length (by omega)]; exact hl8) (rep_leaf rfl f3_0 (by omega))) hd8
  generalize hg8 : (pt (Zr.zc GFrame) (0) c3_0) = cs8 at hb8
  refine WL_c (O_st (j := 0) (v := .agg c3_0.toArray) (ws := c3_0) hS rfl (by kernel_rfl) rfl rfl rfl hw8 (Rep.one f3_0) (by omega) ?_)
  rw [hg8]
  clear hg8
  intro w7 hS
  replace hS : St w noX M3 [.box b6 cs8 50] w7 := hS
  refine WL_y (Y_assign (.int .i64 r4.2) rfl) ?_
  refine WL_nil (nm_then ?_)
  refine W_seq ?_
  refine W_reg ?_
  refine WL_y (Y_move (.string x1) hT_0) ?_
  obtain ⟨r12, hr11, hz⟩ := bind_ok hz
  refine WL_c (O_mem (vs := [.string x1]) (rv := (fun M' u => ∃ c0, u = .tuple #[.agg c0.toArray, .int .i64 r12.2] ∧ rep M' c0 r12.1)) cb27 (args1 rfl) hS (decodeFrame_ok hS.agree hr11) ?_)
  intro u11 M11 w10 hx11 hu11 hS
  obtain ⟨c11_0, hq11, f11_0⟩ := hu11
  subst hq11
  replace hb8 := Rep.mono hx11.1 hb8
  replace hE := Mm.ext.trans hE hx11
  refine WL_y (Y_move (.tuple #[.agg c11_0.toArray, .int .i64 r12.2]) rfl) ?_
  refine WL_y (Y_extract (v := .agg c11_0.toArray) rfl rfl) ?_
  refine WL_y (Y_extract (v := .int .i64 r12.2) rfl rfl) ?_
  refine WL_c (O_alloc tz50 hS ?_)
  intro b14 w13 hb14 hS
  replace hS : St w noX M11 [.box b14 (Zr.zc GFrame) 50, .box b6 cs8 50] w13 := hS
  have zb14 : rep M11 (Zr.zc GFrame) (Zr.zd : GFrame) := Zr.zr
  have hw16 : (c11_0 : List Value).length = 7 := Rep.len f11_0
  have hl16 : ((Zr.zc GFrame)).length = 7 := Rep.len zb14
  obtain ⟨d17, hd16, hz⟩ := bind_ok hz
  have hb16 : rep M11 (pt (Zr.zc GFrame) (0) c11_0) d17 := rep_eq (rep_whole (k := 7) (by rw [pt_length (by omega)]; exact hl16) (rep_leaf rfl f11_0 (by omega))) hd16
  generalize hg16 : (pt (Zr.zc GFrame) (0) c11_0) = cs16 at hb16
  refine WL_c (O_st (j := 0) (v := .agg c11_0.toArray) (ws := c11_0) hS rfl (by kernel_rfl) rfl rfl rfl hw16 (Rep.one f11_0) (by omega) ?_)
  rw [hg16]
  clear hg16
  intro w15 hS
  replace hS : St w noX M11 [.box b14 cs16 50, .box b6 cs8 50] w15 := hS
  refine WL_y (Y_assign (.int .i64 r12.2) rfl) ?_
  refine WL_nil (nm_then ?_)
  refine W_seqJ (fun T' w' => ∃ M19 c21, Mm.ext w.heap.size noX M11 M19 ∧ St w noX M19 [.box b14 cs16 50, .box b6 cs8 50] w' ∧ T' 2 = .bool c21 ∧ wireReads_j1 c21 = some r) ?_ ?_
  · have hF23 := Mm.ext.refl w.heap.size noX M11
    refine W_reg ?_
    have ha24 := (rep_root (k := 7) rfl hb8)
    refine WL_y (Y_ldn ta50 rfl (hS.bvB 1 rfl) (Rep.len ha24)) ?_
    have ha25 := (rep_root (k := 7) rfl hb16)
    refine WL_y (Y_ldn ta50 rfl (hS.bvB 0 rfl) (Rep.len ha25)) ?_
    obtain ⟨r28, hr27, hz⟩ := bind_ok hz
    refine WL_c (O_val (vs := [.agg (sl cs8 (0) 7).toArray, .agg (sl cs16 (0) 7).toArray]) (v := .bool r28) cb28 (args2 rfl rfl) hS (sameFrame_ok hS.agree ha24 ha25 hr27) ?_)
    intro w26 hS
    refine WL_y (Y_move (.bool r28) rfl) ?_
    rcases Bool.eq_false_or_eq_true r28 with hc29 | hc29
    · replace hz := bif_ok_t hz hc29
      refine WL_gy rfl (bt hc29 rfl) (Y_move (.int .i64 r4.2) rfl) ?_
      refine WL_gy rfl (bt hc29 rfl) (Y_move (.int .i64 r12.2) rfl) ?_
      refine WL_gy rfl (bt hc29 rfl) (Y_eql rfl rfl) ?_
      refine WL_y (Y_pick_t (.bool (r4.2 == r12.2)) (bt hc29 rfl) rfl) ?_
      refine WL_y (Y_move (.bool (r4.2 == r12.2)) rfl) ?_
      rcases Bool.eq_false_or_eq_true (r4.2 == r12.2) with hc30 | hc30
      · replace hz := bif_ok_t hz hc30
        obtain ⟨r33, hr32, hz⟩ := bind_ok hz
        refine WL_g rfl (bt hc30 rfl) (O_val (vs := []) (v := .bool r33) cb29 args0 hS (lawFrames_ok hS.agree hr32) ?_)
        intro w31 hS
        refine WL_y (Y_pick_t (.bool r33) (bt hc30 rfl) rfl) ?_
        refine WL_y (Y_assign (.bool r33) rfl) ?_
        refine WL_nil (nm_then ?_)
        exact ⟨M11, r33, hF23, hS, rfl, hz⟩
      · replace hz := bif_ok_f hz hc30
        refine WL_s (j := 8) rfl (bf hc30 rfl) rfl ?_
        refine WL_y (Y_pick_f (.bool false) (bf hc30 rfl) rfl) ?_
        refine WL_y (Y_assign (.bool false) rfl) ?_
        refine WL_nil (nm_then ?_)
        exact ⟨M11, false, hF23, hS, rfl, hz⟩
    · replace hz := bif_ok_f hz hc29
      refine WL_s (j := 3) rfl (bf hc29 rfl) rfl ?_
      refine WL_s (j := 3) rfl (bf hc29 rfl) rfl ?_
      refine WL_s (j := 3) rfl (bf hc29 rfl) rfl ?_
      refine WL_y (Y_pick_f (.bool false) (bf hc29 rfl) rfl) ?_
      refine WL_y (Y_move (.bool false) rfl) ?_
      refine WL_s (j := 8) rfl rfl rfl ?_
      refine WL_y (Y_pick_f (.bool false) rfl rfl) ?_
      refine WL_y (Y_assign (.bool false) rfl) ?_
      refine WL_nil (nm_then ?_)
      exact ⟨M11, false, hF23, hS, rfl, hz⟩
  · rintro T20 w18 ⟨M19, c21, hx22, hS, hT20_2, hz⟩
    replace hb8 := Rep.mono hx22.1 hb8
    replace hb16 := Rep.mono hx22.1 hb16
    replace hE := Mm.ext.trans hE hx22
    rw [wireReads_j1] at hz
    cases hz
    exact W_ret (R_t1 rfl hT20_2 ⟨rfl, (St.dropB (St.dropB hS hb14) hb6).kept⟩)

end Go.Proofs.Ytnfdgjdnlikepab
