/- What the proof of NodeReplays rests on, part 7: rules of walks, what functions compute, and plain laws of it. -/
import Derived.Test.YtopgdemmdcipcaaNodeReplaysB6
namespace Go.Proofs.Ytopgdemmdcipcaa
open Go.RowKit
open Rep (rep)
set_option linter.unusedVariables false
def decodeNoD (fu : Nat) : Option (GFrame × Int) :=
 (some ({ kind := Zr.zd, node := Zr.zd, id := Zr.zd, ops := Zr.zd, deps := Zr.zd, at_ := Zr.zd, vals := Zr.zd } : GFrame)).bind fun d4 =>
 (some d4).bind fun d7 =>
 some (d7, 1)
set_option maxRecDepth 100000 in
set_option maxHeartbeats 4000000 in
theorem decodeNo_ok {M : Mm} {w : World} {fu : Nat} {r : GFrame × Int} (hA : Agree M w)  (hz : decodeNoD fu = some r) :
    Calls Try.prog 83 #[] w (Gives M w (fun M' u => ∃ c0, u = .tuple #[.agg c0.toArray, .int .i64 r.2] ∧ rep M' c0 r.1)) := by
 refine calls_W Try.func83 rfl 3 rfl rfl (by kernel_rfl) fun T hT => ?_
 clear hT
 have hE := Mm.ext.refl w.heap.size noX M
 have hS : St w noX M [] w := St.start hA
 rw [decodeNoD] at hz
 refine W_seq <|W_reg ?_
 refine WL_c (O_alloc tz38 hS ?_)
 intro b2 w1 hb2 hS
 have zb2 : rep M (Zr.zc GFrame) (Zr.zd : GFrame) := Zr.zr
 refine WL_y (Y_assign (.int .i64 0) rfl) ?_
 refine WL_nil (nm_then ?_)
 refine W_seq <|W_reg ?_
 obtain ⟨d4, hd3, hz⟩ := bind_ok hz
 obtain ⟨cs3, hf3, ha3⟩ : ∃ cs, fillZ (([(0, 1), (1, 1), (2, 1), (3, 1), (4, 1), (5, 1), (6, 1)] : List (Nat × Nat))[·]?) (Zr.zc GFrame) [] = some cs ∧ rep M cs d4 := ⟨_, fz_nil, rep_eq (x := ({ kind := Zr.zd, node := Zr.zd, id := Zr.zd, ops := Zr.zd, deps := Zr.zd, at_ := Zr.zd, vals := Zr.zd } : GFrame)) (Zr.zr : rep M (Zr.zc GFrame) (Zr.zd : GFrame)) hd3⟩
 refine WL_y (Y_build [] tb38 bp0 hf3) ?_
 obtain ⟨d7, hd6, hz⟩ := bind_ok hz
 refine WL_c (O_sx 0 7 hS rfl zb2 rfl rfl ha3 rfl rfl (Lf (rr zb2) ha3) hd6 ?_)
 intro cs6 w5 hb6 ha6 hs6 hS
 refine WL_y (Y_assign (.int .i64 1) rfl) ?_
 refine WL_nil (nm_then ?_)
 cases hz
 exact W_ret (R_ct (j := 0) rfl rfl rfl (by rw [Rep.len hb6]; exact ta38) hS rfl (Gives.mk (St.dropB hS hb2) hE ⟨_, rfl, hb6⟩))
def fromSix_l1 (x1 : ByteArray) : Nat → Int → Int → Option Int
 | 0, _, _ => none
 | n + 1, y5, y6 =>
 (bif decide (y6 < 6) then
 (idxS x1 y6).bind fun c12 =>
 (fromSix_l1 x1 n) (IntKind.wrap .i64 ((IntKind.wrap .i64 (256 * y5)) + (IntKind.wrap .i64 c12))) (IntKind.wrap .i64 (y6 + 1))
 else
 some (IntKind.wrap .i64 (y5 - 140737488355328)))
def fromSixD (fu : Nat) (x1 : ByteArray) : Option Int :=
 fromSix_l1 x1 fu 0 0
set_option maxRecDepth 100000 in
set_option maxHeartbeats 4000000 in
theorem fromSix_ok {M : Mm} {w : World} {x1 : ByteArray} {fu : Nat} {r : Int} (hA : Agree M w)  (hz : fromSixD fu x1 = some r) :
    Calls Try.prog 84 #[.string x1] w (GivesV w (.int .i64 r)) := by
 refine calls_W Try.func84 rfl 18 rfl rfl (by kernel_rfl) fun T hT => ?_
 have hT_0 : T 0 = .string x1 := hT 0
 clear hT
 have hE := Mm.ext.refl w.heap.size noX M
 have hS : St w noX M [] w := St.start hA
 rw [fromSixD] at hz
 refine W_seq <|W_reg <|WL_y (Y_assign (.int .i64 0) rfl) ?_
 refine WL_nil (nm_then ?_)
 refine W_seq <|W_reg <|WL_y (Y_assign (.int .i64 0) rfl) ?_
 refine WL_nil (nm_then ?_)
 refine W_seq <|W_seq <|W_reg <|WL_y (Y_move (.int .i64 0) rfl) ?_
 refine WL_nil (nm_then ?_)
 refine W_block ?_
 refine W_loop (fun k8 T' w' => ∃ M3 y5 y6, Mm.ext w.heap.size noX M M3 ∧ St w noX M3 [] w' ∧ T' 0 = .string x1 ∧ T' 3 = .int .i64 y5 ∧ T' 5 = .int .i64 y6 ∧ fromSix_l1 x1 k8 y5 y6 = some r) fu ?_ ?_ ?_
 exact ⟨M, (0 : Int), (0 : Int), (Mm.ext.refl _ _ _), hS, hT_0, rfl, rfl, hz⟩
 rintro T' w' ⟨_, _, _, _, _, _, _, _, hz⟩
 rw [fromSix_l1] at hz
 cases hz
 intro k8
 rintro T4 w2 ⟨M3, y5, y6, hx10, hS, hT4_0, hT4_3, hT4_5, hz⟩
 replace hE := Mm.ext.trans hE hx10
 have hF9 := hx10
 rw [fromSix_l1] at hz
 obtain ⟨rec7, hrec7⟩ : ∃ f, f = fromSix_l1 x1 k8 := ⟨_, rfl⟩
 rw [← hrec7] at hz
 refine W_seq <|W_reg <|WL_y (Y_lss hT4_5 rfl) ?_
 refine WL_nil (nm_then ?_)
 refine W_seq ?_
 refine W_cond rfl (fun hc11 => ?_) (fun hc11 => ?_)
 replace hz := bif_ok_t hz hc11
 refine W_skip (nm_then ?_)
 refine W_seq <|W_block <|W_seq <|W_reg <|WL_y (Y_move (.int .i64 y6) hT4_5) <|WL_y (Y_assign (.int .i64 y6) rfl) ?_
 refine WL_nil (nm_then ?_)
 refine W_reg <|WL_y (Y_move (.int .i64 y5) hT4_3) <|WL_y (Y_mul rfl rfl) <|WL_y (Y_move (.string x1) hT4_0) <|WL_y (Y_move (.int .i64 y6) rfl) ?_
 obtain ⟨c12, hx13, hz⟩ := bind_ok hz
 refine WL_y (Y_ixS Try.underlying9 rfl rfl hx13) <|WL_y (Y_conv ⟨_, Try.underlying5⟩ Try.underlying3 rfl) <|WL_y (Y_add rfl rfl) <|WL_y (Y_assign (.int .i64 (IntKind.wrap .i64 ((IntKind.wrap .i64 (256 * y5)) + (IntKind.wrap .i64 c12)))) rfl) ?_
 refine WL_nil (nm_blk ?_)
 refine (nm_then ?_)
 refine W_reg <|WL_y (Y_add hT4_5 rfl) <|WL_y (Y_move (.int .i64 (IntKind.wrap .i64 (y6 + 1))) rfl) ?_
 refine WL_nil (nm_then ?_)
 exact ⟨M3, (IntKind.wrap .i64 ((IntKind.wrap .i64 (256 * y5)) + (IntKind.wrap .i64 c12))), (IntKind.wrap .i64 (y6 + 1)), hF9, hS, hT4_0, rfl, rfl, (by rw [← hrec7]; exact hz)⟩
 replace hz := bif_ok_f hz hc11
 refine W_exit <|ex_then <|ex_then <|ex_hit ?_
 refine (nm_then ?_)
 refine W_seq <|W_reg <|WL_y (Y_move (.int .i64 y5) hT4_3) <|WL_y (Y_sub rfl rfl) <|WL_y (Y_assign (.int .i64 (IntKind.wrap .i64 (y5 - 140737488355328))) rfl) ?_
 refine WL_nil (nm_then ?_)
 cases hz
 exact W_ret (R_t1 rfl rfl ⟨rfl, hS.kept⟩)
def decodeFrame_l3 (fu : Nat) (x1 : ByteArray) (y67 : Int) (c156 : Int) (c168 : Int) : Nat → GFrame → Int → Option (GFrame × Int)
 | 0, _, _ => none
 | n + 1, d174, y181 =>
 (bif decide (y181 < (IntKind.wrap .i64 c168)) then
 (idxS x1 (IntKind.wrap .i64 ((IntKind.wrap .i64 ((IntKind.wrap .i64 (y67 + (IntKind.wrap .i64 (1 + (IntKind.wrap .i64 c156))))) + 1)) + (IntKind.wrap .i64 (7 * y181))))).bind fun c191 =>
 (app d174.at_ ([IntKind.wrap .i64 c191] : List Int)).bind fun l198 =>
 (some ({ d174 with at_ := l198 } : GFrame)).bind fun d202 =>
 (cutB x1 (some (IntKind.wrap .i64 ((IntKind.wrap .i64 ((IntKind.wrap .i64 (y67 + (IntKind.wrap .i64 (1 + (IntKind.wrap .i64 c156))))) + 2)) + (IntKind.wrap .i64 (7 * y181))))) none).bind fun s212 =>
 (fromSixD fu s212).bind fun r215 =>
 (app d202.vals ([r215] : List Int)).bind fun l222 =>
 (some ({ d202 with vals := l222 } : GFrame)).bind fun d226 =>
 (decodeFrame_l3 fu x1 y67 c156 c168 n) d226 (IntKind.wrap .i64 (y181 + 1))
 else
 (some (frameZ d174)).bind fun r238 =>
 (bif r238 != 0 then
 (decodeNoD fu).bind fun r243 =>
 (some r243.1).bind fun d246 =>
 some (d246, r243.2)
 else
 (some d174).bind fun d254 =>
 some (d254, 0)))
def decodeFrame_l2 (fu : Nat) (x1 : ByteArray) (y67 : Int) (c118 : Int) : Nat → GFrame → Int → Option (GFrame × Int)
 | 0, _, _ => none
 | n + 1, d124, y130 =>
 (bif decide (y130 < (IntKind.wrap .i64 c118)) then
 (idxS x1 (IntKind.wrap .i64 ((IntKind.wrap .i64 (y67 + 1)) + y130))).bind fun c140 =>
 (app d124.deps ([IntKind.wrap .i64 c140] : List Int)).bind fun l147 =>
 (some ({ d124 with deps := l147 } : GFrame)).bind fun d151 =>
 (decodeFrame_l2 fu x1 y67 c118 n) d151 (IntKind.wrap .i64 (y130 + 1))
 else
 (idxS x1 y67).bind fun c156 =>
 (idxS x1 (IntKind.wrap .i64 (y67 + (IntKind.wrap .i64 (1 + (IntKind.wrap .i64 c156)))))).bind fun c158 =>
 (bif (x1.size : Int) != (IntKind.wrap .i64 ((IntKind.wrap .i64 ((IntKind.wrap .i64 (y67 + (IntKind.wrap .i64 (1 + (IntKind.wrap .i64 c156))))) + 1)) + (IntKind.wrap .i64 (7 * (IntKind.wrap .i64 c158))))) then
 (decodeNoD fu).bind fun r164 =>
 (some r164.1).bind fun d167 =>
 some (d167, r164.2)
 else
 (idxS x1 (IntKind.wrap .i64 (y67 + (IntKind.wrap .i64 (1 + (IntKind.wrap .i64 c156)))))).bind fun c168 =>
 decodeFrame_l3 fu x1 y67 c156 c168 fu d124 0))
def decodeFrame_j1 (fu : Nat) (x1 : ByteArray) (d56 : GFrame) (y67 : Int) (d116 : GFrame) : Option (GFrame × Int) :=
 (idxS x1 y67).bind fun c118 =>
 decodeFrame_l2 fu x1 y67 c118 fu d56 0
def decodeFrame_j2 (fu : Nat) (x1 : ByteArray) (d56 : GFrame) (d58 : GFrame) (y67 : Int) (c263 : Bool) : Option (GFrame × Int) :=
 (bif c263 then
 (decodeNoD fu).bind fun r269 =>
 (some r269.1).bind fun d272 =>
 some (d272, r269.2)
 else
 decodeFrame_j1 fu x1 d56 y67 d58)
def decodeFrame_l1 (fu : Nat) (x1 : ByteArray) (c50 : Int) : Nat → GFrame → GFrame → Int → Int → Option (GFrame × Int)
 | 0, _, _, _, _ => none
 | n + 1, d56, d58, y67, y68 =>
 (bif decide (y68 < (IntKind.wrap .i64 c50)) then
 (bif decide ((x1.size : Int) < (IntKind.wrap .i64 (y67 + 8))) then
 (decodeNoD fu).bind fun r78 =>
 (some r78.1).bind fun d81 =>
 some (d81, r78.2)
 else
 (idxS x1 y67).bind fun c86 =>
 (idxS x1 (IntKind.wrap .i64 (y67 + 1))).bind fun c88 =>
 (cutB x1 (some (IntKind.wrap .i64 (y67 + 2))) none).bind fun s91 =>
 (fromSixD fu s91).bind fun r94 =>
 (some ({ kind := IntKind.wrap .i64 c86, key := IntKind.wrap .i64 c88, n := r94 } : GOp)).bind fun d97 =>
 (app d56.ops ([d97] : List GOp)).bind fun l103 =>
 (some ({ d56 with ops := l103 } : GFrame)).bind fun d107 =>
 (decodeFrame_l1 fu x1 c50 n) d107 d58 (IntKind.wrap .i64 (y67 + 8)) (IntKind.wrap .i64 (y68 + 1)))
 else
 (bif decide ((x1.size : Int) ≤ y67) then
 decodeFrame_j2 fu x1 d56 d58 y67 true
 else
 (idxS x1 y67).bind fun c275 =>
 decodeFrame_j2 fu x1 d56 d58 y67 (decide ((x1.size : Int) ≤ (IntKind.wrap .i64 ((IntKind.wrap .i64 (y67 + 1)) + (IntKind.wrap .i64 c275)))))))
def decodeFrameD (fu : Nat) (x1 : ByteArray) : Option (GFrame × Int) :=
 (bif decide ((x1.size : Int) < 6) then
 (decodeNoD fu).bind fun r8 =>
 (some r8.1).bind fun d11 =>
 some (d11, r8.2)
 else
 (idxS x1 0).bind fun c15 =>
 (idxS x1 1).bind fun c17 =>
 (idxS x1 2).bind fun c19 =>
 (some ({ kind := IntKind.wrap .i64 c15, node := IntKind.wrap .i64 c17, id := IntKind.wrap .i64 c19, ops := Zr.zd, deps := Zr.zd, at_ := Zr.zd, vals := Zr.zd } : GFrame)).bind fun d22 =>
 (some d22).bind fun d44 =>
 (idxS x1 3).bind fun c50 =>
 decodeFrame_l1 fu x1 c50 fu d44 (Zr.zd : GFrame) 4 0)
set_option maxRecDepth 100000 in
set_option maxHeartbeats 4000000 in
theorem decodeFrame_ok {M : Mm} {w : World} {x1 : ByteArray} {fu : Nat} {r : GFrame × Int} (hA : Agree M w)  (hz : decodeFrameD fu x1 = some r) :
    Calls Try.prog 69 #[.string x1] w (Gives M w (fun M' u => ∃ c0, u = .tuple #[.agg c0.toArray, .int .i64 r.2] ∧ rep M' c0 r.1)) := by
 refine calls_W Try.func69 rfl 167 rfl rfl (by kernel_rfl) fun T hT => ?_
 have hT_0 : T 0 = .string x1 := hT 0
 clear hT
 have hE := Mm.ext.refl w.heap.size noX M
 have hS : St w noX M [] w := St.start hA
 rw [decodeFrameD] at hz
 refine W_seq <|W_reg ?_
 refine WL_c (O_alloc tz38 hS ?_)
 intro b3 w2 hb3 hS
 have zb3 : rep M (Zr.zc GFrame) (Zr.zd : GFrame) := Zr.zr
 refine WL_y (Y_assign (.int .i64 0) rfl) ?_
 refine WL_nil (nm_then ?_)
 refine W_seq <|W_reg <|WL_y (Y_assign (evT (fun _ => undef) (.func 83)) rfl) ?_
 refine WL_nil (nm_then ?_)
 refine W_seq <|W_seq <|W_reg <|WL_y (Y_move (.string x1) hT_0) <|WL_y (Y_lenS Try.underlying9 rfl) <|WL_y (Y_lss rfl rfl) ?_
 refine WL_nil (nm_then ?_)
 refine W_cond rfl (fun hc4 => ?_) (fun hc4 => ?_)
 replace hz := bif_ok_t hz hc4
 refine W_seq <|W_reg <|WL_y (Y_move (evT (fun _ => undef) (.func 83)) rfl) ?_
 obtain ⟨r8, hr7, hz⟩ := bind_ok hz
 refine WL_c (OW_fn rfl (O_mem (vs := []) (rv := (fun M' u => ∃ c0, u = .tuple #[.agg c0.toArray, .int .i64 r8.2] ∧ rep M' c0 r8.1)) cb83 args0 hS (decodeNo_ok hS.agree hr7)) ?_)
 intro u7 M7 w6 hx7 hu7 hS
 obtain ⟨c7_0, hq7, f7_0⟩ := hu7
 subst hq7
 replace zb3 := Rep.mono hx7.1 zb3
 replace hE := Mm.ext.trans hE hx7
 refine WL_y (Y_extract (v := .agg c7_0.toArray) rfl rfl) <|WL_y (Y_extract (v := .int .i64 r8.2) rfl rfl) ?_
 obtain ⟨d11, hd10, hz⟩ := bind_ok hz
 refine WL_c (O_sx 0 7 hS rfl zb3 rfl rfl f7_0 rfl rfl (Lf (rr zb3) f7_0) hd10 ?_)
 intro cs10 w9 hb10 ha10 hs10 hS
 refine WL_y (Y_assign (.int .i64 r8.2) rfl) ?_
 refine WL_nil (nm_then ?_)
 cases hz
 exact W_ret (rt_then (R_ct (j := 0) rfl rfl rfl (by rw [Rep.len hb10]; exact ta38) hS rfl (Gives.mk (St.dropB hS hb3) hE ⟨_, rfl, hb10⟩)))
 replace hz := bif_ok_f hz hc4
 refine W_skip (nm_then ?_)
 refine W_seq <|W_drawB (Rd M []) (inL []) mixed hS fun w12 hS => ?_
 have hG13 := Mm.ext.refl w.heap.size noX M
 have hR14 : Rd M [] w12 := Rd.of hS hG13 (by simp)
 refine WB_y (i := 0) rfl (by kernel_rfl) rfl (Y_move (.string x1) hT_0) (fun _ => hR14) ?_
 obtain ⟨c15, hx16, hz⟩ := bind_ok hz
 refine WB_y (i := 1) rfl (by kernel_rfl) rfl (Y_ixS Try.underlying9 rfl rfl hx16) (fun _ => hR14) <|WB_y (i := 2) rfl (by kernel_rfl) rfl (Y_conv ⟨_, Try.underlying5⟩ Try.underlying3 rfl) (fun _ => hR14) <|WB_y (i := 3) rfl (by kernel_rfl) rfl (Y_move (.string x1) hT_0) (fun _ => hR14) ?_
 obtain ⟨c17, hx18, hz⟩ := bind_ok hz
 refine WB_y (i := 4) rfl (by kernel_rfl) rfl (Y_ixS Try.underlying9 rfl rfl hx18) (fun _ => hR14) <|WB_y (i := 5) rfl (by kernel_rfl) rfl (Y_conv ⟨_, Try.underlying5⟩ Try.underlying3 rfl) (fun _ => hR14) <|WB_y (i := 6) rfl (by kernel_rfl) rfl (Y_move (.string x1) hT_0) (fun _ => hR14) ?_
 obtain ⟨c19, hx20, hz⟩ := bind_ok hz
 refine WB_y (i := 7) rfl (by kernel_rfl) rfl (Y_ixS Try.underlying9 rfl rfl hx20) (fun _ => hR14) <|WB_y (i := 8) rfl (by kernel_rfl) rfl (Y_conv ⟨_, Try.underlying5⟩ Try.underlying3 rfl) (fun _ => hR14) ?_
 have k21_0 := GFrame.w0 (Zr.zr : rep M (Zr.zc GFrame) (Zr.zd : GFrame)) (ri (IntKind.wrap .i64 c15) : rep M _ _)
 have k21_1 := GFrame.w1 k21_0 (ri (IntKind.wrap .i64 c17) : rep M _ _)
 have k21_2 := GFrame.w2 k21_1 (ri (IntKind.wrap .i64 c19) : rep M _ _)
 obtain ⟨d22, hd21, hz⟩ := bind_ok hz
 obtain ⟨cs21, hf21, ha21⟩ : ∃ cs, fillZ (([(0, 1), (1, 1), (2, 1), (3, 1), (4, 1), (5, 1), (6, 1)] : List (Nat × Nat))[·]?) (Zr.zc GFrame) [(0, .int .i64 (IntKind.wrap .i64 c15)), (1, .int .i64 (IntKind.wrap .i64 c17)), (2, .int .i64 (IntKind.wrap .i64 c19))] = some cs ∧ rep M cs d22 := ⟨_, (fz_cons (Zr.zr : rep M (Zr.zc GFrame) (Zr.zd : GFrame)) rfl rfl (Rep.len (ri (IntKind.wrap .i64 c15) : rep M _ _)) (by decide) (fz_cons k21_0 rfl rfl (Rep.len (ri (IntKind.wrap .i64 c17) : rep M _ _)) (by decide) (fz_cons k21_1 rfl rfl (Rep.len (ri (IntKind.wrap .i64 c19) : rep M _ _)) (by decide) fz_nil))), rep_eq (x := ({ kind := IntKind.wrap .i64 c15, node := IntKind.wrap .i64 c17, id := IntKind.wrap .i64 c19, ops := Zr.zd, deps := Zr.zd, at_ := Zr.zd, vals := Zr.zd } : GFrame)) k21_2 hd21⟩
 have hp23 : sl cs21 3 1 = [.slice none 0 0] := (fillZ_apart hf21 (by rfl)).trans (by rfl)
 replace hS := hS.nilRow 78 3
 have hp25 : sl cs21 4 1 = [.slice none 0 0] := (fillZ_apart hf21 (by rfl)).trans (by rfl)
 replace hS := hS.nilRow 3 1
 have hp27 : sl cs21 5 1 = [.slice none 0 0] := (fillZ_apart hf21 (by rfl)).trans (by rfl)
 replace hS := hS.nilRow 3 1
 have hp29 : sl cs21 6 1 = [.slice none 0 0] := (fillZ_apart hf21 (by rfl)).trans (by rfl)
 replace hS := hS.nilRow 3 1
 refine WB_y (i := 9) rfl (by kernel_rfl) rfl (Y_build [(0, .int .i64 (IntKind.wrap .i64 c15)), (1, .int .i64 (IntKind.wrap .i64 c17)), (2, .int .i64 (IntKind.wrap .i64 c19))] tb38 (bpc rfl (bpc rfl (bpc rfl bp0))) hf21) (fun _ => hR14) ?_
 refine WB_one (i := 10) (by kernel_rfl) rfl (O_alloc tz38 hS ?_)
 intro b32 w31 hb32 hS
 have zb32 : rep M (Zr.zc GFrame) (Zr.zd : GFrame) := Zr.zr
 have hp33 : sl (Zr.zc GFrame) 3 1 = [.slice none 0 0] := by rfl
 replace hS := hS.nilRow 78 3
 have hp35 : sl (Zr.zc GFrame) 4 1 = [.slice none 0 0] := by rfl
 replace hS := hS.nilRow 3 1
 have hp37 : sl (Zr.zc GFrame) 5 1 = [.slice none 0 0] := by rfl
 replace hS := hS.nilRow 3 1
 have hp39 : sl (Zr.zc GFrame) 6 1 = [.slice none 0 0] := by rfl
 replace hS := hS.nilRow 3 1
 have hR41 : Rd M [] w31 := Rd.of hS hG13 (by simp)
 refine ⟨fun _ => hR41, ?_⟩
 obtain ⟨d44, hd43, hz⟩ := bind_ok hz
 refine WB_one (i := 11) (by kernel_rfl) rfl (O_sx 4 7 hS rfl zb32 rfl rfl ha21 rfl rfl (Lf (rr zb32) ha21) hd43 ?_)
 intro cs43 w42 hb43 ha43 hs43 hS
 have hp45 : sl cs43 (0 + 3) 1 = [(.slice none 0 0)] := sl_in hs43 hp23 (by decide)
 have hp46 : sl cs43 (0 + 4) 1 = [(.slice none 0 0)] := sl_in hs43 hp25 (by decide)
 have hp47 : sl cs43 (0 + 5) 1 = [(.slice none 0 0)] := sl_in hs43 hp27 (by decide)
 have hp48 : sl cs43 (0 + 6) 1 = [(.slice none 0 0)] := sl_in hs43 hp29 (by decide)
 have hR49 : Rd M [] w42 := Rd.of hS hG13 (by simp)
 refine ⟨fun _ => hR49, ?_⟩
 refine WB_done (by kernel_rfl) (nm_then ?_)
 refine W_seq <|W_reg <|WL_y (Y_assign (.int .i64 4) rfl) ?_
 refine WL_nil (nm_then ?_)
 refine W_seq <|W_seq <|W_reg <|WL_y (Y_move (.string x1) hT_0) ?_
 obtain ⟨c50, hx51, hz⟩ := bind_ok hz
 refine WL_y (Y_ixS Try.underlying9 rfl rfl hx51) <|WL_y (Y_conv ⟨_, Try.underlying5⟩ Try.underlying3 rfl) <|WL_y (Y_move (.int .i64 0) rfl) ?_
 refine WL_nil (nm_then ?_)
 refine W_block ?_
 refine W_loop (fun k70 T' w' => ∃ M53 cs55 d56 cs57 d58 v59 v61 v63 v65 y67 y68, Mm.ext w.heap.size noX M M53 ∧ St w noX M53 [.row (.slice none 0 0) 3 1, .row (.slice none 0 0) 3 1, .row (.slice none 0 0) 3 1, .row (.slice none 0 0) 78 3, .box b32 cs55 38, .row v65 3 1, .row v63 3 1, .row v61 3 1, .row v59 78 3, .box b3 cs57 38] w' ∧ rep M53 cs55 d56 ∧ rep M53 cs57 d58 ∧ sl cs55 (0 + 3) 1 = [v59] ∧ sl cs55 (0 + 4) 1 = [v61] ∧ sl cs55 (0 + 5) 1 = [v63] ∧ sl cs55 (0 + 6) 1 = [v65] ∧ T' 0 = .string x1 ∧ T' 2 = .pointer (some ⟨b3, 0, none⟩) ∧ T' 4 = evT (fun _ => undef) (.func 83) ∧ T' 5 = .pointer (some ⟨b32, 0, none⟩) ∧ T' 6 = .int .i64 y67 ∧ T' 28 = .int .i64 (IntKind.wrap .i64 c50) ∧ T' 29 = .int .i64 y68 ∧ decodeFrame_l1 fu x1 c50 k70 d56 d58 y67 y68 = some r) fu ?_ ?_ ?_
 exact ⟨M, cs43, d44, (Zr.zc GFrame), (Zr.zd : GFrame), (.slice none 0 0), (.slice none 0 0), (.slice none 0 0), (.slice none 0 0), (4 : Int), (0 : Int), (Mm.ext.refl _ _ _), hS, hb43, zb3, hp45, hp46, hp47, hp48, hT_0, rfl, rfl, rfl, rfl, rfl, rfl, hz⟩
 rintro T' w' ⟨_, _, _, _, _, _, _, _, _, _, _, _, _, _, _, _, _, _, _, _, _, _, _, _, _, _, hz⟩
 rw [decodeFrame_l1] at hz
 cases hz
 intro k70
 rintro T54 w52 ⟨M53, cs55, d56, cs57, d58, v59, v61, v63, v65, y67, y68, hx72, hS, hb55, hb57, hp60, hp62, hp64, hp66, hT54_0, hT54_2, hT54_4, hT54_5, hT54_6, hT54_28, hT54_29, hz⟩
 replace hE := Mm.ext.trans hE hx72
 have hF71 := hx72
 rw [decodeFrame_l1] at hz
 obtain ⟨rec69, hrec69⟩ : ∃ f, f = decodeFrame_l1 fu x1 c50 k70 := ⟨_, rfl⟩
 rw [← hrec69] at hz
 refine W_seq <|W_reg <|WL_y (Y_lss hT54_29 hT54_28) ?_
 refine WL_nil (nm_then ?_)
 refine W_seq ?_
 refine W_cond rfl (fun hc73 => ?_) (fun hc73 => ?_)
 replace hz := bif_ok_t hz hc73
 refine W_skip (nm_then ?_)
 refine W_seq <|W_block <|W_seq <|W_seq <|W_reg <|WL_y (Y_move (.string x1) hT54_0) <|WL_y (Y_lenS Try.underlying9 rfl) <|WL_y (Y_move (.int .i64 y67) hT54_6) <|WL_y (Y_add rfl rfl) <|WL_y (Y_lss rfl rfl) ?_
 refine WL_nil (nm_then ?_)
 refine W_cond rfl (fun hc74 => ?_) (fun hc74 => ?_)
 replace hz := bif_ok_t hz hc74
 refine W_seq <|W_reg <|WL_y (Y_move (evT (fun _ => undef) (.func 83)) hT54_4) ?_
 obtain ⟨r78, hr77, hz⟩ := bind_ok hz
 refine WL_c (OW_fn rfl (O_mem (vs := []) (rv := (fun M' u => ∃ c0, u = .tuple #[.agg c0.toArray, .int .i64 r78.2] ∧ rep M' c0 r78.1)) cb83 args0 hS (decodeNo_ok hS.agree hr77)) ?_)
 intro u77 M77 w76 hx77 hu77 hS
 obtain ⟨c77_0, hq77, f77_0⟩ := hu77
 subst hq77
 replace hb55 := Rep.mono hx77.1 hb55
 replace hb57 := Rep.mono hx77.1 hb57
 replace hE := Mm.ext.trans hE hx77
 replace hF71 := Mm.ext.trans hF71 hx77
 refine WL_y (Y_extract (v := .agg c77_0.toArray) rfl rfl) <|WL_y (Y_extract (v := .int .i64 r78.2) rfl rfl) ?_
 obtain ⟨d81, hd80, hz⟩ := bind_ok hz
 refine WL_c (O_sx 9 7 hS rfl hb57 hT54_2 rfl f77_0 rfl rfl (Lf (rr hb57) f77_0) hd80 ?_)
 intro cs80 w79 hb80 ha80 hs80 hS
 refine WL_y (Y_assign (.int .i64 r78.2) rfl) ?_
 refine WL_nil (nm_then ?_)
 cases hz
 exact W_ret (rt_then (rt_blk (rt_then (rt_then (rt_blk (rt_then (R_ct (j := 9) rfl hT54_2 rfl (by rw [Rep.len hb80]; exact ta38) hS rfl (Gives.mk (St.dropB (St.drop (St.drop (St.drop (St.drop (St.dropB (St.drop (St.drop (St.drop (St.drop hS)))) hb32))))) hb3) hE ⟨_, rfl, hb80⟩))))))))
 replace hz := bif_ok_f hz hc74
 refine W_skip (nm_then ?_)
 refine W_seq <|W_drawB (Rd M53 [.box b32 cs55 38]) (inL [20]) mixed hS fun w82 hS => ?_
 have hG83 := Mm.ext.refl w.heap.size noX M53
 have hR84 : Rd M53 [.box b32 cs55 38] w82 := Rd.of hS hG83 (by simp)
 refine WB_y (i := 0) rfl (by kernel_rfl) rfl (Y_fa fa38_3 hT54_5) (fun _ => hR84) ?_
 obtain ⟨v85, ev85, hv85⟩ := (GFrame.p3 (rr hb55))
 rw [sl_one_eq ev85 hp60] at hv85
 refine WB_ld (i := 1) rfl (by kernel_rfl) rfl (inL_lt rfl) (by kernel_rfl) (by kernel_rfl) (Y_ld1 v59 ts22 rfl (bvR 0 rfl) hp60) hR84 <|WB_y (i := 2) rfl (by kernel_rfl) rfl (Y_move (.string x1) hT54_0) (fun _ => hR84) <|WB_y (i := 3) rfl (by kernel_rfl) rfl (Y_move (.int .i64 y67) hT54_6) (fun _ => hR84) ?_
 obtain ⟨c86, hx87, hz⟩ := bind_ok hz
 refine WB_y (i := 4) rfl (by kernel_rfl) rfl (Y_ixS Try.underlying9 rfl rfl hx87) (fun _ => hR84) <|WB_y (i := 5) rfl (by kernel_rfl) rfl (Y_conv ⟨_, Try.underlying5⟩ Try.underlying3 rfl) (fun _ => hR84) <|WB_y (i := 6) rfl (by kernel_rfl) rfl (Y_move (.string x1) hT54_0) (fun _ => hR84) <|WB_y (i := 7) rfl (by kernel_rfl) rfl (Y_move (.int .i64 y67) hT54_6) (fun _ => hR84) <|WB_y (i := 8) rfl (by kernel_rfl) rfl (Y_add rfl rfl) (fun _ => hR84) ?_
 obtain ⟨c88, hx89, hz⟩ := bind_ok hz
 refine WB_y (i := 9) rfl (by kernel_rfl) rfl (Y_ixS Try.underlying9 rfl rfl hx89) (fun _ => hR84) <|WB_y (i := 10) rfl (by kernel_rfl) rfl (Y_conv ⟨_, Try.underlying5⟩ Try.underlying3 rfl) (fun _ => hR84) <|WB_y (i := 11) rfl (by kernel_rfl) rfl (Y_move (.string x1) hT54_0) (fun _ => hR84) <|WB_y (i := 12) rfl (by kernel_rfl) rfl (Y_move (.int .i64 y67) hT54_6) (fun _ => hR84) <|WB_y (i := 13) rfl (by kernel_rfl) rfl (Y_add rfl rfl) (fun _ => hR84) ?_
 obtain ⟨s91, hx90, hz⟩ := bind_ok hz
 obtain ⟨⟨pp90, qq90⟩, hc90, hx90⟩ := Option.map_eq_some_iff.1 hx90
 refine WB_y (i := 14) rfl (by kernel_rfl) rfl ((hx90 ▸ Y_cutS (l := (some (IntKind.wrap .i64 (y67 + 2)))) (h := none) Try.underlying9 rfl (evs rfl) evn hc90)) (fun _ => hR84) ?_
 obtain ⟨r94, hr93, hz⟩ := bind_ok hz
 refine WB_one (i := 15) (by kernel_rfl) rfl (O_val (vs := [.string s91]) (v := .int .i64 r94) cb84 (args1 rfl) hS (fromSix_ok hS.agree hr93) ?_)
 intro w92 hS
 have hR95 : Rd M53 [.box b32 cs55 38] w92 := Rd.of hS hG83 (by simp)
 refine ⟨fun _ => hR95, ?_⟩
 have k96_0 := GOp.w0 (Zr.zr : rep M53 (Zr.zc GOp) (Zr.zd : GOp)) (ri (IntKind.wrap .i64 c86) : rep M53 _ _)
 have k96_1 := GOp.w1 k96_0 (ri (IntKind.wrap .i64 c88) : rep M53 _ _)
 have k96_2 := GOp.w2 k96_1 (ri r94 : rep M53 _ _)
 obtain ⟨d97, hd96, hz⟩ := bind_ok hz
 obtain ⟨cs96, hf96, ha96⟩ : ∃ cs, fillZ (([(0, 1), (1, 1), (2, 1)] : List (Nat × Nat))[·]?) (Zr.zc GOp) [(0, .int .i64 (IntKind.wrap .i64 c86)), (1, .int .i64 (IntKind.wrap .i64 c88)), (2, .int .i64 r94)] = some cs ∧ rep M53 cs d97 := ⟨_, (fz_cons (Zr.zr : rep M53 (Zr.zc GOp) (Zr.zd : GOp)) rfl rfl (Rep.len (ri (IntKind.wrap .i64 c86) : rep M53 _ _)) (by decide) (fz_cons k96_0 rfl rfl (Rep.len (ri (IntKind.wrap .i64 c88) : rep M53 _ _)) (by decide) (fz_cons k96_1 rfl rfl (Rep.len (ri r94 : rep M53 _ _)) (by decide) fz_nil))), rep_eq (x := ({ kind := IntKind.wrap .i64 c86, key := IntKind.wrap .i64 c88, n := r94 } : GOp)) k96_2 hd96⟩
 refine WB_y (i := 16) rfl (by kernel_rfl) rfl (Y_build [(0, .int .i64 (IntKind.wrap .i64 c86)), (1, .int .i64 (IntKind.wrap .i64 c88)), (2, .int .i64 r94)] tb78 (bpc rfl (bpc rfl (bpc rfl bp0))) hf96) (fun _ => hR95) ?_
 refine WB_one (i := 17) (by kernel_rfl) rfl (O_bslice (α := GOp) (l := ([d97] : List GOp)) [.agg cs96.toArray] tl22 (bpc rfl bp0) rfl rfl (by decide) (by decide) (by decide) hS (brc ha96 br0) ?_)
 intro v99 M99 w98 hx99 hv99 hS
 replace hb55 := Rep.mono hx99.1 hb55
 replace hb57 := Rep.mono hx99.1 hb57
 replace hv85 := repL.mono hx99.1 hv85
 replace ha96 := Rep.mono hx99.1 ha96
 replace hE := Mm.ext.trans hE hx99
 replace hF71 := Mm.ext.trans hF71 hx99
 replace hG83 := Mm.ext.trans hG83 hx99
 have hR100 : Rd M53 [.box b32 cs55 38] w98 := Rd.of hS hG83 (by simp)
 refine ⟨fun _ => hR100, ?_⟩
 obtain ⟨l103, hr102, hz⟩ := bind_ok hz
 obtain ⟨hy102, hs102⟩ := app_some hr102
 refine WB_one (i := 18) (by kernel_rfl) rfl (O_app (α := GOp) (j := 8) tp22 hS rfl rfl rfl hv85 hv99 hy102 ?_)
 intro v102 M102 w101 hx102 hv102 hS
 rw [← hs102] at hv102
 clear hr102 hs102
 replace hb55 := Rep.mono hx102.1 hb55
 replace hb57 := Rep.mono hx102.1 hb57
 replace hv85 := repL.mono hx102.1 hv85
 replace ha96 := Rep.mono hx102.1 ha96
 replace hv99 := repL.mono hx102.1 hv99
 replace hE := Mm.ext.trans hE hx102
 replace hF71 := Mm.ext.trans hF71 hx102
 replace hG83 := Mm.ext.trans hG83 hx102
 have hR104 : Rd M53 [.box b32 cs55 38] w101 := Rd.of hS hG83 (by simp)
 refine ⟨fun _ => hR104, ?_⟩
 refine WB_y (i := 19) rfl (by kernel_rfl) rfl (Y_fa fa38_3 hT54_5) (fun _ => hR104) ?_
 obtain ⟨d107, hd106, hz⟩ := bind_ok hz
 refine WB_one (i := 20) (by kernel_rfl) rfl (O_sx 4 1 hS rfl hb55 rfl rfl (repL_rep hv102) (repL_cells hv102) rfl (GFrame.u3 (rr hb55) (Lf (GFrame.p3 (rr hb55)) (repL_rep hv102))) hd106 ?_)
 intro cs106 w105 hb106 ha106 hs106 hS
 have hp108 := (ha106 (by omega)).trans hp62
 have hp109 := (ha106 (by omega)).trans hp64
 have hp110 := (ha106 (by omega)).trans hp66
 have hp111 := hs106
 refine ⟨fun h => Bool.noConfusion (show false = true from h), ?_⟩
 refine WB_done (by kernel_rfl) (nm_then ?_)
 refine W_reg <|WL_y (Y_move (.int .i64 y67) hT54_6) <|WL_y (Y_add rfl rfl) <|WL_y (Y_assign (.int .i64 (IntKind.wrap .i64 (y67 + 8))) rfl) ?_
 refine WL_nil (nm_blk ?_)
 refine (nm_then ?_)
 refine W_reg <|WL_y (Y_add hT54_29 rfl) <|WL_y (Y_move (.int .i64 (IntKind.wrap .i64 (y68 + 1))) rfl) ?_
 refine WL_nil (nm_then ?_)
 exact ⟨M102, cs106, d107, cs57, d58, v102, v61, v63, v65, (IntKind.wrap .i64 (y67 + 8)), (IntKind.wrap .i64 (y68 + 1)), hF71, hS, hb106, hb57, hp111, hp108, hp109, hp110, hT54_0, hT54_2, hT54_4, hT54_5, rfl, hT54_28, rfl, (by rw [← hrec69]; exact hz)⟩
 replace hz := bif_ok_f hz hc73
 refine W_exit <|ex_then <|ex_then <|ex_hit ?_
 refine (nm_then ?_)
 refine W_seqJ (fun T' w' => ∃ M113 cs115 d116, Mm.ext w.heap.size noX M53 M113 ∧ St w noX M113 [.row (.slice none 0 0) 3 1, .row (.slice none 0 0) 3 1, .row (.slice none 0 0) 3 1, .row (.slice none 0 0) 78 3, .box b32 cs55 38, .row v65 3 1, .row v63 3 1, .row v61 3 1, .row v59 78 3, .box b3 cs115 38] w' ∧ rep M113 cs115 d116 ∧ T' 0 = .string x1 ∧ T' 2 = .pointer (some ⟨b3, 0, none⟩) ∧ T' 4 = evT (fun _ => undef) (.func 83) ∧ T' 5 = .pointer (some ⟨b32, 0, none⟩) ∧ T' 6 = .int .i64 y67 ∧ decodeFrame_j1 fu x1 d56 y67 d116 = some r) ?_ ?_
 have hF259 := Mm.ext.refl w.heap.size noX M53
 refine W_seqJ (fun T' w' => ∃ M261 c263, Mm.ext w.heap.size noX M53 M261 ∧ St w noX M261 [.row (.slice none 0 0) 3 1, .row (.slice none 0 0) 3 1, .row (.slice none 0 0) 3 1, .row (.slice none 0 0) 78 3, .box b32 cs55 38, .row v65 3 1, .row v63 3 1, .row v61 3 1, .row v59 78 3, .box b3 cs57 38] w' ∧ T' 0 = .string x1 ∧ T' 2 = .pointer (some ⟨b3, 0, none⟩) ∧ T' 4 = evT (fun _ => undef) (.func 83) ∧ T' 5 = .pointer (some ⟨b32, 0, none⟩) ∧ T' 6 = .int .i64 y67 ∧ T' 78 = .bool c263 ∧ decodeFrame_j2 fu x1 d56 d58 y67 c263 = some r) ?_ ?_
 have hF273 := Mm.ext.refl w.heap.size noX M53
 refine W_reg <|WL_y (Y_move (.string x1) hT54_0) <|WL_y (Y_lenS Try.underlying9 rfl) <|WL_y (Y_move (.int .i64 y67) hT54_6) <|WL_y (Y_leq rfl rfl) <|WL_y (Y_move (.bool (decide ((x1.size : Int) ≤ y67))) rfl) ?_
 rcases ic hz with ⟨hc274, hz⟩ | ⟨hc274, hz⟩ <;> rw [hc274]
 refine WL_d 11 rfl ?_
 refine WL_nil (nm_then ?_)
 exact ⟨M53, true, hF273, hS, hT54_0, hT54_2, hT54_4, hT54_5, hT54_6, rfl, hz⟩
 refine WL_gy rfl rfl (Y_move (.string x1) hT54_0) <|WL_gy rfl rfl (Y_lenS Try.underlying9 rfl) <|WL_gy rfl rfl (Y_move (.int .i64 y67) hT54_6) <|WL_gy rfl rfl (Y_add rfl rfl) <|WL_gy rfl rfl (Y_move (.string x1) hT54_0) <|WL_gy rfl rfl (Y_move (.int .i64 y67) hT54_6) ?_
 obtain ⟨c275, hx276, hz⟩ := bind_ok hz
 refine WL_gy rfl rfl (Y_ixS Try.underlying9 rfl rfl hx276) <|WL_gy rfl rfl (Y_conv ⟨_, Try.underlying5⟩ Try.underlying3 rfl) <|WL_gy rfl rfl (Y_add rfl rfl) <|WL_gy rfl rfl (Y_leq rfl rfl) <|WL_y (Y_pick_f (.bool (decide ((x1.size : Int) ≤ (IntKind.wrap .i64 ((IntKind.wrap .i64 (y67 + 1)) + (IntKind.wrap .i64 c275)))))) rfl rfl) ?_
 refine WL_nil (nm_then ?_)
 exact ⟨M53, (decide ((x1.size : Int) ≤ (IntKind.wrap .i64 ((IntKind.wrap .i64 (y67 + 1)) + (IntKind.wrap .i64 c275))))), hF273, hS, hT54_0, hT54_2, hT54_4, hT54_5, hT54_6, rfl, hz⟩
 rintro T262 w260 ⟨M261, c263, hx264, hS, hT262_0, hT262_2, hT262_4, hT262_5, hT262_6, hT262_78, hz⟩
 replace hb55 := Rep.mono hx264.1 hb55
 replace hb57 := Rep.mono hx264.1 hb57
 replace hE := Mm.ext.trans hE hx264
 replace hF71 := Mm.ext.trans hF71 hx264
 replace hF259 := Mm.ext.trans hF259 hx264
 rw [decodeFrame_j2] at hz
 refine W_cond hT262_78 (fun hc265 => ?_) (fun hc265 => ?_)
 replace hz := bif_ok_t hz hc265
 refine W_seq <|W_reg <|WL_y (Y_move (evT (fun _ => undef) (.func 83)) hT262_4) ?_
 obtain ⟨r269, hr268, hz⟩ := bind_ok hz
 refine WL_c (OW_fn rfl (O_mem (vs := []) (rv := (fun M' u => ∃ c0, u = .tuple #[.agg c0.toArray, .int .i64 r269.2] ∧ rep M' c0 r269.1)) cb83 args0 hS (decodeNo_ok hS.agree hr268)) ?_)
 intro u268 M268 w267 hx268 hu268 hS
 obtain ⟨c268_0, hq268, f268_0⟩ := hu268
 subst hq268
 replace hb55 := Rep.mono hx268.1 hb55
 replace hb57 := Rep.mono hx268.1 hb57
 replace hE := Mm.ext.trans hE hx268
 replace hF71 := Mm.ext.trans hF71 hx268
 replace hF259 := Mm.ext.trans hF259 hx268
 refine WL_y (Y_extract (v := .agg c268_0.toArray) rfl rfl) <|WL_y (Y_extract (v := .int .i64 r269.2) rfl rfl) ?_
 obtain ⟨d272, hd271, hz⟩ := bind_ok hz
 refine WL_c (O_sx 9 7 hS rfl hb57 hT262_2 rfl f268_0 rfl rfl (Lf (rr hb57) f268_0) hd271 ?_)
 intro cs271 w270 hb271 ha271 hs271 hS
 refine WL_y (Y_assign (.int .i64 r269.2) rfl) ?_
 refine WL_nil (nm_then ?_)
 cases hz
 exact W_ret (rt_then (R_ct (j := 9) rfl hT262_2 rfl (by rw [Rep.len hb271]; exact ta38) hS rfl (Gives.mk (St.dropB (St.drop (St.drop (St.drop (St.drop (St.dropB (St.drop (St.drop (St.drop (St.drop hS)))) hb32))))) hb3) hE ⟨_, rfl, hb271⟩)))
 replace hz := bif_ok_f hz hc265
 refine W_skip (nm_then ?_)
 exact ⟨M261, cs57, d58, hF259, hS, hb57, hT262_0, hT262_2, hT262_4, hT262_5, hT262_6, hz⟩
 rintro T114 w112 ⟨M113, cs115, d116, hx117, hS, hb115, hT114_0, hT114_2, hT114_4, hT114_5, hT114_6, hz⟩
 replace hb55 := Rep.mono hx117.1 hb55
 replace hE := Mm.ext.trans hE hx117
 replace hF71 := Mm.ext.trans hF71 hx117
 rw [decodeFrame_j1] at hz
 refine W_seq <|W_seq <|W_reg <|WL_y (Y_move (.string x1) hT114_0) <|WL_y (Y_move (.int .i64 y67) hT114_6) ?_
 obtain ⟨c118, hx119, hz⟩ := bind_ok hz
 refine WL_y (Y_ixS Try.underlying9 rfl rfl hx119) <|WL_y (Y_conv ⟨_, Try.underlying5⟩ Try.underlying3 rfl) <|WL_y (Y_move (.int .i64 0) rfl) ?_
 refine WL_nil (nm_then ?_)
 refine W_block ?_
 refine W_loop (fun k132 T' w' => ∃ M121 cs123 d124 v126 y130, Mm.ext w.heap.size noX M113 M121 ∧ St w noX M121 [.row (.slice none 0 0) 3 1, .row (.slice none 0 0) 3 1, .row (.slice none 0 0) 3 1, .row (.slice none 0 0) 78 3, .box b32 cs123 38, .row v65 3 1, .row v63 3 1, .row v126 3 1, .row v59 78 3, .box b3 cs115 38] w' ∧ rep M121 cs123 d124 ∧ sl cs123 (0 + 3) 1 = [v59] ∧ sl cs123 (0 + 4) 1 = [v126] ∧ sl cs123 (0 + 5) 1 = [v63] ∧ sl cs123 (0 + 6) 1 = [v65] ∧ T' 0 = .string x1 ∧ T' 2 = .pointer (some ⟨b3, 0, none⟩) ∧ T' 4 = evT (fun _ => undef) (.func 83) ∧ T' 5 = .pointer (some ⟨b32, 0, none⟩) ∧ T' 6 = .int .i64 y67 ∧ T' 86 = .int .i64 (IntKind.wrap .i64 c118) ∧ T' 87 = .int .i64 y130 ∧ decodeFrame_l2 fu x1 y67 c118 k132 d124 y130 = some r) fu ?_ ?_ ?_
 exact ⟨M113, cs55, d56, v61, (0 : Int), (Mm.ext.refl _ _ _), hS, hb55, hp60, hp62, hp64, hp66, hT114_0, hT114_2, hT114_4, hT114_5, hT114_6, rfl, rfl, hz⟩
 rintro T' w' ⟨_, _, _, _, _, _, _, _, _, _, _, _, _, _, _, _, _, _, _, hz⟩
 rw [decodeFrame_l2] at hz
 cases hz
 intro k132
 rintro T122 w120 ⟨M121, cs123, d124, v126, y130, hx134, hS, hb123, hp125, hp127, hp128, hp129, hT122_0, hT122_2, hT122_4, hT122_5, hT122_6, hT122_86, hT122_87, hz⟩
 replace hb115 := Rep.mono hx134.1 hb115
 replace hE := Mm.ext.trans hE hx134
 replace hF71 := Mm.ext.trans hF71 hx134
 have hF133 := hx134
 rw [decodeFrame_l2] at hz
 obtain ⟨rec131, hrec131⟩ : ∃ f, f = decodeFrame_l2 fu x1 y67 c118 k132 := ⟨_, rfl⟩
 rw [← hrec131] at hz
 refine W_seq <|W_reg <|WL_y (Y_lss hT122_87 hT122_86) ?_
 refine WL_nil (nm_then ?_)
 refine W_seq ?_
 refine W_cond rfl (fun hc135 => ?_) (fun hc135 => ?_)
 replace hz := bif_ok_t hz hc135
 refine W_skip (nm_then ?_)
 refine W_seq <|W_block <|W_seq <|W_reg <|WL_y (Y_move (.int .i64 y130) hT122_87) <|WL_y (Y_assign (.int .i64 y130) rfl) ?_
 refine WL_nil (nm_then ?_)
 refine W_drawB (Rd M121 [.box b32 cs123 38]) (inL [12]) mixed hS fun w136 hS => ?_
 have hG137 := Mm.ext.refl w.heap.size noX M121
 have hR138 : Rd M121 [.box b32 cs123 38] w136 := Rd.of hS hG137 (by simp)
 refine WB_y (i := 0) rfl (by kernel_rfl) rfl (Y_fa fa38_4 hT122_5) (fun _ => hR138) ?_
 obtain ⟨v139, ev139, hv139⟩ := (GFrame.p4 (rr hb123))
 rw [sl_one_eq ev139 hp127] at hv139
 refine WB_ld (i := 1) rfl (by kernel_rfl) rfl (inL_lt rfl) (by kernel_rfl) (by kernel_rfl) (Y_ld1 v126 ts27 rfl (bvR 0 rfl) hp127) hR138 <|WB_y (i := 2) rfl (by kernel_rfl) rfl (Y_move (.string x1) hT122_0) (fun _ => hR138) <|WB_y (i := 3) rfl (by kernel_rfl) rfl (Y_move (.int .i64 y67) hT122_6) (fun _ => hR138) <|WB_y (i := 4) rfl (by kernel_rfl) rfl (Y_add rfl rfl) (fun _ => hR138) <|WB_y (i := 5) rfl (by kernel_rfl) rfl (Y_move (.int .i64 y130) rfl) (fun _ => hR138) <|WB_y (i := 6) rfl (by kernel_rfl) rfl (Y_add rfl rfl) (fun _ => hR138) ?_
 obtain ⟨c140, hx141, hz⟩ := bind_ok hz
 refine WB_y (i := 7) rfl (by kernel_rfl) rfl (Y_ixS Try.underlying9 rfl rfl hx141) (fun _ => hR138) <|WB_y (i := 8) rfl (by kernel_rfl) rfl (Y_conv ⟨_, Try.underlying5⟩ Try.underlying3 rfl) (fun _ => hR138) ?_
 refine WB_one (i := 9) (by kernel_rfl) rfl (O_bslice (α := Int) (l := ([IntKind.wrap .i64 c140] : List Int)) [.int .i64 (IntKind.wrap .i64 c140)] tl27 (bpc rfl bp0) rfl rfl (by decide) (by decide) (by decide) hS (brc (ri (IntKind.wrap .i64 c140) : rep M121 _ _) br0) ?_)
 intro v143 M143 w142 hx143 hv143 hS
 replace hb115 := Rep.mono hx143.1 hb115
 replace hb123 := Rep.mono hx143.1 hb123
 replace hv139 := repL.mono hx143.1 hv139
 replace hE := Mm.ext.trans hE hx143
 replace hF71 := Mm.ext.trans hF71 hx143
 replace hF133 := Mm.ext.trans hF133 hx143
 replace hG137 := Mm.ext.trans hG137 hx143
 have hR144 : Rd M121 [.box b32 cs123 38] w142 := Rd.of hS hG137 (by simp)
 refine ⟨fun _ => hR144, ?_⟩
 obtain ⟨l147, hr146, hz⟩ := bind_ok hz
 obtain ⟨hy146, hs146⟩ := app_some hr146
 refine WB_one (i := 10) (by kernel_rfl) rfl (O_app (α := Int) (j := 7) tp27 hS rfl rfl rfl hv139 hv143 hy146 ?_)
 intro v146 M146 w145 hx146 hv146 hS
 rw [← hs146] at hv146
 clear hr146 hs146
 replace hb115 := Rep.mono hx146.1 hb115
 replace hb123 := Rep.mono hx146.1 hb123
 replace hv139 := repL.mono hx146.1 hv139
 replace hv143 := repL.mono hx146.1 hv143
 replace hE := Mm.ext.trans hE hx146
 replace hF71 := Mm.ext.trans hF71 hx146
 replace hF133 := Mm.ext.trans hF133 hx146
 replace hG137 := Mm.ext.trans hG137 hx146
 have hR148 : Rd M121 [.box b32 cs123 38] w145 := Rd.of hS hG137 (by simp)
 refine ⟨fun _ => hR148, ?_⟩
 refine WB_y (i := 11) rfl (by kernel_rfl) rfl (Y_fa fa38_4 hT122_5) (fun _ => hR148) ?_
 obtain ⟨d151, hd150, hz⟩ := bind_ok hz
 refine WB_one (i := 12) (by kernel_rfl) rfl (O_sx 4 1 hS rfl hb123 rfl rfl (repL_rep hv146) (repL_cells hv146) rfl (GFrame.u4 (rr hb123) (Lf (GFrame.p4 (rr hb123)) (repL_rep hv146))) hd150 ?_)
 intro cs150 w149 hb150 ha150 hs150 hS
 have hp152 := (ha150 (by omega)).trans hp125
 have hp153 := (ha150 (by omega)).trans hp128
 have hp154 := (ha150 (by omega)).trans hp129
 have hp155 := hs150
 refine ⟨fun h => Bool.noConfusion (show false = true from h), ?_⟩
 refine WB_done (by kernel_rfl) (nm_blk ?_)
 refine (nm_then ?_)
 refine W_reg <|WL_y (Y_add hT122_87 rfl) <|WL_y (Y_move (.int .i64 (IntKind.wrap .i64 (y130 + 1))) rfl) ?_
 refine WL_nil (nm_then ?_)
 exact ⟨M146, cs150, d151, v146, (IntKind.wrap .i64 (y130 + 1)), hF133, hS, hb150, hp152, hp155, hp153, hp154, hT122_0, hT122_2, hT122_4, hT122_5, hT122_6, hT122_86, rfl, (by rw [← hrec131]; exact hz)⟩
 replace hz := bif_ok_f hz hc135
 refine W_exit <|ex_then <|ex_then <|ex_hit ?_
 refine (nm_then ?_)
 refine W_seq <|W_reg <|WL_y (Y_move (.int .i64 y67) hT122_6) <|WL_y (Y_move (.string x1) hT122_0) <|WL_y (Y_move (.int .i64 y67) hT122_6) ?_
 obtain ⟨c156, hx157, hz⟩ := bind_ok hz
 refine WL_y (Y_ixS Try.underlying9 rfl rfl hx157) <|WL_y (Y_conv ⟨_, Try.underlying5⟩ Try.underlying3 rfl) <|WL_y (Y_add rfl rfl) <|WL_y (Y_add rfl rfl) <|WL_y (Y_assign (.int .i64 (IntKind.wrap .i64 (y67 + (IntKind.wrap .i64 (1 + (IntKind.wrap .i64 c156)))))) rfl) ?_
 refine WL_nil (nm_then ?_)
 refine W_seq <|W_seq <|W_reg <|WL_y (Y_move (.string x1) hT122_0) <|WL_y (Y_lenS Try.underlying9 rfl) <|WL_y (Y_move (.int .i64 (IntKind.wrap .i64 (y67 + (IntKind.wrap .i64 (1 + (IntKind.wrap .i64 c156)))))) rfl) <|WL_y (Y_add rfl rfl) <|WL_y (Y_move (.string x1) hT122_0) <|WL_y (Y_move (.int .i64 (IntKind.wrap .i64 (y67 + (IntKind.wrap .i64 (1 + (IntKind.wrap .i64 c156)))))) rfl) ?_
 obtain ⟨c158, hx159, hz⟩ := bind_ok hz
 refine WL_y (Y_ixS Try.underlying9 rfl rfl hx159) <|WL_y (Y_conv ⟨_, Try.underlying5⟩ Try.underlying3 rfl) <|WL_y (Y_mul rfl rfl) <|WL_y (Y_add rfl rfl) <|WL_y (Y_neq rfl rfl) ?_
 refine WL_nil (nm_then ?_)
 refine W_cond rfl (fun hc160 => ?_) (fun hc160 => ?_)
 replace hz := bif_ok_t hz hc160
 refine W_seq <|W_reg <|WL_y (Y_move (evT (fun _ => undef) (.func 83)) hT122_4) ?_
 obtain ⟨r164, hr163, hz⟩ := bind_ok hz
 refine WL_c (OW_fn rfl (O_mem (vs := []) (rv := (fun M' u => ∃ c0, u = .tuple #[.agg c0.toArray, .int .i64 r164.2] ∧ rep M' c0 r164.1)) cb83 args0 hS (decodeNo_ok hS.agree hr163)) ?_)
 intro u163 M163 w162 hx163 hu163 hS
 obtain ⟨c163_0, hq163, f163_0⟩ := hu163
 subst hq163
 replace hb115 := Rep.mono hx163.1 hb115
 replace hb123 := Rep.mono hx163.1 hb123
 replace hE := Mm.ext.trans hE hx163
 replace hF71 := Mm.ext.trans hF71 hx163
 replace hF133 := Mm.ext.trans hF133 hx163
 refine WL_y (Y_extract (v := .agg c163_0.toArray) rfl rfl) <|WL_y (Y_extract (v := .int .i64 r164.2) rfl rfl) ?_
 obtain ⟨d167, hd166, hz⟩ := bind_ok hz
 refine WL_c (O_sx 9 7 hS rfl hb115 hT122_2 rfl f163_0 rfl rfl (Lf (rr hb115) f163_0) hd166 ?_)
 intro cs166 w165 hb166 ha166 hs166 hS
 refine WL_y (Y_assign (.int .i64 r164.2) rfl) ?_
 refine WL_nil (nm_then ?_)
 cases hz
 exact W_ret (rt_then (R_ct (j := 9) rfl hT122_2 rfl (by rw [Rep.len hb166]; exact ta38) hS rfl (Gives.mk (St.dropB (St.drop (St.drop (St.drop (St.drop (St.dropB (St.drop (St.drop (St.drop (St.drop hS)))) hb32))))) hb3) hE ⟨_, rfl, hb166⟩)))
 replace hz := bif_ok_f hz hc160
 refine W_skip (nm_then ?_)
 refine W_seq <|W_seq <|W_reg <|WL_y (Y_move (.string x1) hT122_0) <|WL_y (Y_move (.int .i64 (IntKind.wrap .i64 (y67 + (IntKind.wrap .i64 (1 + (IntKind.wrap .i64 c156)))))) rfl) ?_
 obtain ⟨c168, hx169, hz⟩ := bind_ok hz
 refine WL_y (Y_ixS Try.underlying9 rfl rfl hx169) <|WL_y (Y_conv ⟨_, Try.underlying5⟩ Try.underlying3 rfl) <|WL_y (Y_move (.int .i64 0) rfl) ?_
 refine WL_nil (nm_then ?_)
 refine W_block ?_
 refine W_loop (fun k183 T' w' => ∃ M171 cs173 d174 v177 v179 y181, Mm.ext w.heap.size noX M121 M171 ∧ St w noX M171 [.row (.slice none 0 0) 3 1, .row (.slice none 0 0) 3 1, .row (.slice none 0 0) 3 1, .row (.slice none 0 0) 78 3, .box b32 cs173 38, .row v179 3 1, .row v177 3 1, .row v126 3 1, .row v59 78 3, .box b3 cs115 38] w' ∧ rep M171 cs173 d174 ∧ sl cs173 (0 + 3) 1 = [v59] ∧ sl cs173 (0 + 4) 1 = [v126] ∧ sl cs173 (0 + 5) 1 = [v177] ∧ sl cs173 (0 + 6) 1 = [v179] ∧ T' 0 = .string x1 ∧ T' 2 = .pointer (some ⟨b3, 0, none⟩) ∧ T' 4 = evT (fun _ => undef) (.func 83) ∧ T' 5 = .pointer (some ⟨b32, 0, none⟩) ∧ T' 6 = .int .i64 (IntKind.wrap .i64 (y67 + (IntKind.wrap .i64 (1 + (IntKind.wrap .i64 c156))))) ∧ T' 128 = .int .i64 (IntKind.wrap .i64 c168) ∧ T' 129 = .int .i64 y181 ∧ decodeFrame_l3 fu x1 y67 c156 c168 k183 d174 y181 = some r) fu ?_ ?_ ?_
 exact ⟨M121, cs123, d124, v63, v65, (0 : Int), (Mm.ext.refl _ _ _), hS, hb123, hp125, hp127, hp128, hp129, hT122_0, hT122_2, hT122_4, hT122_5, rfl, rfl, rfl, hz⟩
 rintro T' w' ⟨_, _, _, _, _, _, _, _, _, _, _, _, _, _, _, _, _, _, _, _, hz⟩
 rw [decodeFrame_l3] at hz
 cases hz
 intro k183
 rintro T172 w170 ⟨M171, cs173, d174, v177, v179, y181, hx185, hS, hb173, hp175, hp176, hp178, hp180, hT172_0, hT172_2, hT172_4, hT172_5, hT172_6, hT172_128, hT172_129, hz⟩
 replace hb115 := Rep.mono hx185.1 hb115
 replace hE := Mm.ext.trans hE hx185
 replace hF71 := Mm.ext.trans hF71 hx185
 replace hF133 := Mm.ext.trans hF133 hx185
 have hF184 := hx185
 rw [decodeFrame_l3] at hz
 obtain ⟨rec182, hrec182⟩ : ∃ f, f = decodeFrame_l3 fu x1 y67 c156 c168 k183 := ⟨_, rfl⟩
 rw [← hrec182] at hz
 refine W_seq <|W_reg <|WL_y (Y_lss hT172_129 hT172_128) ?_
 refine WL_nil (nm_then ?_)
 refine W_seq ?_
 refine W_cond rfl (fun hc186 => ?_) (fun hc186 => ?_)
 replace hz := bif_ok_t hz hc186
 refine W_skip (nm_then ?_)
 refine W_seq <|W_block <|W_seq <|W_reg <|WL_y (Y_move (.int .i64 y181) hT172_129) <|WL_y (Y_assign (.int .i64 y181) rfl) ?_
 refine WL_nil (nm_then ?_)
 refine W_seq <|W_drawB (Rd M171 [.box b32 cs173 38]) (inL [13]) mixed hS fun w187 hS => ?_
 have hG188 := Mm.ext.refl w.heap.size noX M171
 have hR189 : Rd M171 [.box b32 cs173 38] w187 := Rd.of hS hG188 (by simp)
 refine WB_y (i := 0) rfl (by kernel_rfl) rfl (Y_fa fa38_5 hT172_5) (fun _ => hR189) ?_
 obtain ⟨v190, ev190, hv190⟩ := (GFrame.p5 (rr hb173))
 rw [sl_one_eq ev190 hp178] at hv190
 refine WB_ld (i := 1) rfl (by kernel_rfl) rfl (inL_lt rfl) (by kernel_rfl) (by kernel_rfl) (Y_ld1 v177 ts27 rfl (bvR 0 rfl) hp178) hR189 <|WB_y (i := 2) rfl (by kernel_rfl) rfl (Y_move (.string x1) hT172_0) (fun _ => hR189) <|WB_y (i := 3) rfl (by kernel_rfl) rfl (Y_move (.int .i64 (IntKind.wrap .i64 (y67 + (IntKind.wrap .i64 (1 + (IntKind.wrap .i64 c156)))))) hT172_6) (fun _ => hR189) <|WB_y (i := 4) rfl (by kernel_rfl) rfl (Y_add rfl rfl) (fun _ => hR189) <|WB_y (i := 5) rfl (by kernel_rfl) rfl (Y_move (.int .i64 y181) rfl) (fun _ => hR189) <|WB_y (i := 6) rfl (by kernel_rfl) rfl (Y_mul rfl rfl) (fun _ => hR189) <|WB_y (i := 7) rfl (by kernel_rfl) rfl (Y_add rfl rfl) (fun _ => hR189) ?_
 obtain ⟨c191, hx192, hz⟩ := bind_ok hz
 refine WB_y (i := 8) rfl (by kernel_rfl) rfl (Y_ixS Try.underlying9 rfl rfl hx192) (fun _ => hR189) <|WB_y (i := 9) rfl (by kernel_rfl) rfl (Y_conv ⟨_, Try.underlying5⟩ Try.underlying3 rfl) (fun _ => hR189) ?_
 refine WB_one (i := 10) (by kernel_rfl) rfl (O_bslice (α := Int) (l := ([IntKind.wrap .i64 c191] : List Int)) [.int .i64 (IntKind.wrap .i64 c191)] tl27 (bpc rfl bp0) rfl rfl (by decide) (by decide) (by decide) hS (brc (ri (IntKind.wrap .i64 c191) : rep M171 _ _) br0) ?_)
 intro v194 M194 w193 hx194 hv194 hS
 replace hb115 := Rep.mono hx194.1 hb115
 replace hb173 := Rep.mono hx194.1 hb173
 replace hv190 := repL.mono hx194.1 hv190
 replace hE := Mm.ext.trans hE hx194
 replace hF71 := Mm.ext.trans hF71 hx194
 replace hF133 := Mm.ext.trans hF133 hx194
 replace hF184 := Mm.ext.trans hF184 hx194
 replace hG188 := Mm.ext.trans hG188 hx194
 have hR195 : Rd M171 [.box b32 cs173 38] w193 := Rd.of hS hG188 (by simp)
 refine ⟨fun _ => hR195, ?_⟩
 obtain ⟨l198, hr197, hz⟩ := bind_ok hz
 obtain ⟨hy197, hs197⟩ := app_some hr197
 refine WB_one (i := 11) (by kernel_rfl) rfl (O_app (α := Int) (j := 6) tp27 hS rfl rfl rfl hv190 hv194 hy197 ?_)
 intro v197 M197 w196 hx197 hv197 hS
 rw [← hs197] at hv197
 clear hr197 hs197
 replace hb115 := Rep.mono hx197.1 hb115
 replace hb173 := Rep.mono hx197.1 hb173
 replace hv190 := repL.mono hx197.1 hv190
 replace hv194 := repL.mono hx197.1 hv194
 replace hE := Mm.ext.trans hE hx197
 replace hF71 := Mm.ext.trans hF71 hx197
 replace hF133 := Mm.ext.trans hF133 hx197
 replace hF184 := Mm.ext.trans hF184 hx197
 replace hG188 := Mm.ext.trans hG188 hx197
 have hR199 : Rd M171 [.box b32 cs173 38] w196 := Rd.of hS hG188 (by simp)
 refine ⟨fun _ => hR199, ?_⟩
 refine WB_y (i := 12) rfl (by kernel_rfl) rfl (Y_fa fa38_5 hT172_5) (fun _ => hR199) ?_
 obtain ⟨d202, hd201, hz⟩ := bind_ok hz
 refine WB_one (i := 13) (by kernel_rfl) rfl (O_sx 4 1 hS rfl hb173 rfl rfl (repL_rep hv197) (repL_cells hv197) rfl (GFrame.u5 (rr hb173) (Lf (GFrame.p5 (rr hb173)) (repL_rep hv197))) hd201 ?_)
 intro cs201 w200 hb201 ha201 hs201 hS
 have hp203 := (ha201 (by omega)).trans hp175
 have hp204 := (ha201 (by omega)).trans hp176
 have hp205 := (ha201 (by omega)).trans hp180
 have hp206 := hs201
 refine ⟨fun h => Bool.noConfusion (show false = true from h), ?_⟩
 refine WB_done (by kernel_rfl) (nm_then ?_)
 refine W_drawB (Rd M197 [.box b32 cs201 38]) (inL [13]) mixed hS fun w207 hS => ?_
 have hG208 := Mm.ext.refl w.heap.size noX M197
 have hR209 : Rd M197 [.box b32 cs201 38] w207 := Rd.of hS hG208 (by simp)
 refine WB_y (i := 0) rfl (by kernel_rfl) rfl (Y_fa fa38_6 hT172_5) (fun _ => hR209) ?_
 obtain ⟨v210, ev210, hv210⟩ := (GFrame.p6 (rr hb201))
 rw [sl_one_eq ev210 hp205] at hv210
 refine WB_ld (i := 1) rfl (by kernel_rfl) rfl (inL_lt rfl) (by kernel_rfl) (by kernel_rfl) (Y_ld1 v179 ts27 rfl (bvR 0 rfl) hp205) hR209 <|WB_y (i := 2) rfl (by kernel_rfl) rfl (Y_move (.string x1) hT172_0) (fun _ => hR209) <|WB_y (i := 3) rfl (by kernel_rfl) rfl (Y_move (.int .i64 (IntKind.wrap .i64 (y67 + (IntKind.wrap .i64 (1 + (IntKind.wrap .i64 c156)))))) hT172_6) (fun _ => hR209) <|WB_y (i := 4) rfl (by kernel_rfl) rfl (Y_add rfl rfl) (fun _ => hR209) <|WB_y (i := 5) rfl (by kernel_rfl) rfl (Y_move (.int .i64 y181) rfl) (fun _ => hR209) <|WB_y (i := 6) rfl (by kernel_rfl) rfl (Y_mul rfl rfl) (fun _ => hR209) <|WB_y (i := 7) rfl (by kernel_rfl) rfl (Y_add rfl rfl) (fun _ => hR209) ?_
 obtain ⟨s212, hx211, hz⟩ := bind_ok hz
 obtain ⟨⟨pp211, qq211⟩, hc211, hx211⟩ := Option.map_eq_some_iff.1 hx211
 refine WB_y (i := 8) rfl (by kernel_rfl) rfl ((hx211 ▸ Y_cutS (l := (some (IntKind.wrap .i64 ((IntKind.wrap .i64 ((IntKind.wrap .i64 (y67 + (IntKind.wrap .i64 (1 + (IntKind.wrap .i64 c156))))) + 2)) + (IntKind.wrap .i64 (7 * y181)))))) (h := none) Try.underlying9 rfl (evs rfl) evn hc211)) (fun _ => hR209) ?_
 obtain ⟨r215, hr214, hz⟩ := bind_ok hz
 refine WB_one (i := 9) (by kernel_rfl) rfl (O_val (vs := [.string s212]) (v := .int .i64 r215) cb84 (args1 rfl) hS (fromSix_ok hS.agree hr214) ?_)
 intro w213 hS
 have hR216 : Rd M197 [.box b32 cs201 38] w213 := Rd.of hS hG208 (by simp)
 refine ⟨fun _ => hR216, ?_⟩
 refine WB_one (i := 10) (by kernel_rfl) rfl (O_bslice (α := Int) (l := ([r215] : List Int)) [.int .i64 r215] tl27 (bpc rfl bp0) rfl rfl (by decide) (by decide) (by decide) hS (brc (ri r215 : rep M197 _ _) br0) ?_)
 intro v218 M218 w217 hx218 hv218 hS
 replace hb115 := Rep.mono hx218.1 hb115
 replace hb201 := Rep.mono hx218.1 hb201
 replace hv210 := repL.mono hx218.1 hv210
 replace hE := Mm.ext.trans hE hx218
 replace hF71 := Mm.ext.trans hF71 hx218
 replace hF133 := Mm.ext.trans hF133 hx218
 replace hF184 := Mm.ext.trans hF184 hx218
 replace hG208 := Mm.ext.trans hG208 hx218
 have hR219 : Rd M197 [.box b32 cs201 38] w217 := Rd.of hS hG208 (by simp)
 refine ⟨fun _ => hR219, ?_⟩
 obtain ⟨l222, hr221, hz⟩ := bind_ok hz
 obtain ⟨hy221, hs221⟩ := app_some hr221
 refine WB_one (i := 11) (by kernel_rfl) rfl (O_app (α := Int) (j := 5) tp27 hS rfl rfl rfl hv210 hv218 hy221 ?_)
 intro v221 M221 w220 hx221 hv221 hS
 rw [← hs221] at hv221
 clear hr221 hs221
 replace hb115 := Rep.mono hx221.1 hb115
 replace hb201 := Rep.mono hx221.1 hb201
 replace hv210 := repL.mono hx221.1 hv210
 replace hv218 := repL.mono hx221.1 hv218
 replace hE := Mm.ext.trans hE hx221
 replace hF71 := Mm.ext.trans hF71 hx221
 replace hF133 := Mm.ext.trans hF133 hx221
 replace hF184 := Mm.ext.trans hF184 hx221
 replace hG208 := Mm.ext.trans hG208 hx221
 have hR223 : Rd M197 [.box b32 cs201 38] w220 := Rd.of hS hG208 (by simp)
 refine ⟨fun _ => hR223, ?_⟩
 refine WB_y (i := 12) rfl (by kernel_rfl) rfl (Y_fa fa38_6 hT172_5) (fun _ => hR223) ?_
 obtain ⟨d226, hd225, hz⟩ := bind_ok hz
 refine WB_one (i := 13) (by kernel_rfl) rfl (O_sx 4 1 hS rfl hb201 rfl rfl (repL_rep hv221) (repL_cells hv221) rfl (GFrame.u6 (rr hb201) (Lf (GFrame.p6 (rr hb201)) (repL_rep hv221))) hd225 ?_)
 intro cs225 w224 hb225 ha225 hs225 hS
 have hp227 := (ha225 (by omega)).trans hp203
 have hp228 := (ha225 (by omega)).trans hp204
 have hp229 := (ha225 (by omega)).trans hp206
 have hp230 := hs225
 refine ⟨fun h => Bool.noConfusion (show false = true from h), ?_⟩
 refine WB_done (by kernel_rfl) (nm_blk ?_)
 refine (nm_then ?_)
 refine W_reg <|WL_y (Y_add hT172_129 rfl) <|WL_y (Y_move (.int .i64 (IntKind.wrap .i64 (y181 + 1))) rfl) ?_
 refine WL_nil (nm_then ?_)
 exact ⟨M221, cs225, d226, v197, v221, (IntKind.wrap .i64 (y181 + 1)), hF184, hS, hb225, hp227, hp228, hp229, hp230, hT172_0, hT172_2, hT172_4, hT172_5, hT172_6, hT172_128, rfl, (by rw [← hrec182]; exact hz)⟩
 replace hz := bif_ok_f hz hc186
 refine W_exit <|ex_then <|ex_then <|ex_hit ?_
 refine (nm_then ?_)
 refine W_seq <|W_seq <|W_reg ?_
 have ha231 := (rr hb173)
 have hp232 : sl (sl cs173 (0) 7) 3 1 = [v59] := (sl_sub (by decide)).trans hp175
 have hp233 : sl (sl cs173 (0) 7) 4 1 = [v126] := (sl_sub (by decide)).trans hp176
 have hp234 : sl (sl cs173 (0) 7) 5 1 = [v177] := (sl_sub (by decide)).trans hp178
 have hp235 : sl (sl cs173 (0) 7) 6 1 = [v179] := (sl_sub (by decide)).trans hp180
 refine WL_y (Y_ldn ta38 hT172_5 (hS.bvB 4 rfl) (Rep.len ha231)) ?_
 obtain ⟨r238, hr237, hz⟩ := bind_ok hz
 replace hr237 := Option.some.inj hr237
 refine WL_c (O_val (vs := [.agg (sl cs173 (0) 7).toArray]) (v := .int .i64 r238) cb54 (args1 rfl) hS (hr237 ▸ (c_isFrame hS.agree ha231)) ?_)
 intro w236 hS
 refine WL_y (Y_neq rfl rfl) ?_
 refine WL_nil (nm_then ?_)
 refine W_cond rfl (fun hc239 => ?_) (fun hc239 => ?_)
 replace hz := bif_ok_t hz hc239
 refine W_seq <|W_reg <|WL_y (Y_move (evT (fun _ => undef) (.func 83)) hT172_4) ?_
 obtain ⟨r243, hr242, hz⟩ := bind_ok hz
 refine WL_c (OW_fn rfl (O_mem (vs := []) (rv := (fun M' u => ∃ c0, u = .tuple #[.agg c0.toArray, .int .i64 r243.2] ∧ rep M' c0 r243.1)) cb83 args0 hS (decodeNo_ok hS.agree hr242)) ?_)
 intro u242 M242 w241 hx242 hu242 hS
 obtain ⟨c242_0, hq242, f242_0⟩ := hu242
 subst hq242
 replace hb115 := Rep.mono hx242.1 hb115
 replace hb173 := Rep.mono hx242.1 hb173
 replace hE := Mm.ext.trans hE hx242
 replace hF71 := Mm.ext.trans hF71 hx242
 replace hF133 := Mm.ext.trans hF133 hx242
 replace hF184 := Mm.ext.trans hF184 hx242
 refine WL_y (Y_extract (v := .agg c242_0.toArray) rfl rfl) <|WL_y (Y_extract (v := .int .i64 r243.2) rfl rfl) ?_
 obtain ⟨d246, hd245, hz⟩ := bind_ok hz
 refine WL_c (O_sx 9 7 hS rfl hb115 hT172_2 rfl f242_0 rfl rfl (Lf (rr hb115) f242_0) hd245 ?_)
 intro cs245 w244 hb245 ha245 hs245 hS
 refine WL_y (Y_assign (.int .i64 r243.2) rfl) ?_
 refine WL_nil (nm_then ?_)
 cases hz
 exact W_ret (rt_then (R_ct (j := 9) rfl hT172_2 rfl (by rw [Rep.len hb245]; exact ta38) hS rfl (Gives.mk (St.dropB (St.drop (St.drop (St.drop (St.drop (St.dropB (St.drop (St.drop (St.drop (St.drop hS)))) hb32))))) hb3) hE ⟨_, rfl, hb245⟩)))
 replace hz := bif_ok_f hz hc239
 refine W_skip (nm_then ?_)
 refine W_seq <|W_reg ?_
 have ha247 := (rr hb173)
 have hp248 : sl (sl cs173 (0) 7) 3 1 = [v59] := (sl_sub (by decide)).trans hp175
 have hp249 : sl (sl cs173 (0) 7) 4 1 = [v126] := (sl_sub (by decide)).trans hp176
 have hp250 : sl (sl cs173 (0) 7) 5 1 = [v177] := (sl_sub (by decide)).trans hp178
 have hp251 : sl (sl cs173 (0) 7) 6 1 = [v179] := (sl_sub (by decide)).trans hp180
 refine WL_y (Y_ldn ta38 hT172_5 (hS.bvB 4 rfl) (Rep.len ha247)) ?_
 obtain ⟨d254, hd253, hz⟩ := bind_ok hz
 refine WL_c (O_sx 9 7 hS rfl hb115 hT172_2 rfl ha247 rfl rfl (Lf (rr hb115) ha247) hd253 ?_)
 intro cs253 w252 hb253 ha253 hs253 hS
 have hp255 : sl cs253 (0 + 3) 1 = [v59] := sl_in hs253 hp248 (by decide)
 have hp256 : sl cs253 (0 + 4) 1 = [v126] := sl_in hs253 hp249 (by decide)
 have hp257 : sl cs253 (0 + 5) 1 = [v177] := sl_in hs253 hp250 (by decide)
 have hp258 : sl cs253 (0 + 6) 1 = [v179] := sl_in hs253 hp251 (by decide)
 refine WL_y (Y_assign (.int .i64 0) rfl) ?_
 refine WL_nil (nm_then ?_)
 cases hz
 exact W_ret (R_ct (j := 9) rfl hT172_2 rfl (by rw [Rep.len hb253]; exact ta38) hS rfl (Gives.mk (St.dropB (St.drop (St.drop (St.drop (St.drop (St.dropB (St.drop (St.drop (St.drop (St.drop hS)))) hb32))))) hb3) hE ⟨_, rfl, hb253⟩))
end Go.Proofs.Ytopgdemmdcipcaa
namespace Go.Proofs.Ytopgdemmdcipcaa
open Go.RowKit
open Rep (rep)
set_option linter.unusedVariables false
theorem fromSix_step {s : ByteArray} {n k : Nat} {y c : Int} (hk : k < 6) (h0 : 0 ≤ y) (h1 : y < 1099511627776) (hc : (byL s)[k]? = some c) (h2 : 0 ≤ c) (h3 : c < 256) : fromSix_l1 s (n + 1) y k = fromSix_l1 s n (y * 256 + c) ((k + 1 : Nat) : Int) := by
  rw [fromSix_l1, bif_t (dec_t (by omega)), byL_idx, hc, some_bind, wr64 (x := 256 * y) (by omega) (by omega), wr64 (x := c) (by omega) (by omega), wr64 (x := 256 * y + c) (by omega) (by omega), wr64 (x := (k : Int) + 1) (by omega) (by omega), Int.mul_comm 256 y]
  rfl
theorem fromSixD_eq {s : ByteArray} {fu : Nat} (hf : 8 ≤ fu) {a b c d e f : Int} {t : List Int} (h : byL s = a :: b :: c :: d :: e :: f :: t) : fromSixD fu s = some (sixV a b c d e f) := by
  have hr : ∀ z ∈ [a, b, c, d, e, f], 0 ≤ z ∧ z < 256 := fun z hz => byL_range (s := s) (by rw [h]; simp at hz ⊢; rcases hz with rfl | rfl | rfl | rfl | rfl | rfl <;> simp)
  have ha := hr a (by simp)
  have hb := hr b (by simp)
  have hc := hr c (by simp)
  have hd := hr d (by simp)
  have he := hr e (by simp)
  have hff := hr f (by simp)
  obtain ⟨n, rfl⟩ : ∃ n, fu = n + 7 := ⟨fu - 7, by omega⟩
  have e0 : fromSix_l1 s (n + 7) 0 0 = _ := fromSix_step (s := s) (n := n + 6) (k := 0) (y := 0) (c := a) (by omega) (by omega) (by omega) (by rw [h]; rfl) ha.1 ha.2
  have e1 := fromSix_step (s := s) (n := n + 5) (k := 1) (y := 0 * 256 + a) (c := b) (by omega) (by omega) (by omega) (by rw [h]; rfl) hb.1 hb.2
  have e2 := fromSix_step (s := s) (n := n + 4) (k := 2) (y := (0 * 256 + a) * 256 + b) (c := c) (by omega) (by omega) (by omega) (by rw [h]; rfl) hc.1 hc.2
  have e3 := fromSix_step (s := s) (n := n + 3) (k := 3) (y := ((0 * 256 + a) * 256 + b) * 256 + c) (c := d) (by omega) (by omega) (by omega) (by rw [h]; rfl) hd.1 hd.2
  have e4 := fromSix_step (s := s) (n := n + 2) (k := 4) (y := (((0 * 256 + a) * 256 + b) * 256 + c) * 256 + d) (c := e) (by omega) (by omega) (by omega) (by rw [h]; rfl) he.1 he.2
  have e5 := fromSix_step (s := s) (n := n + 1) (k := 5) (y := ((((0 * 256 + a) * 256 + b) * 256 + c) * 256 + d) * 256 + e) (c := f) (by omega) (by omega) (by omega) (by rw [h]; rfl) hff.1 hff.2
  unfold fromSixD
  rw [e0]
  have e1 : fromSix_l1 s (n + 6) (0 * 256 + a) ((0 + 1 : Nat) : Int) = _ := e1
  rw [e1]
  have e2 : fromSix_l1 s (n + 5) _ ((1 + 1 : Nat) : Int) = _ := e2
  rw [e2]
  have e3 : fromSix_l1 s (n + 4) _ ((2 + 1 : Nat) : Int) = _ := e3
  rw [e3]
  have e4 : fromSix_l1 s (n + 3) _ ((3 + 1 : Nat) : Int) = _ := e4
  rw [e4]
  have e5 : fromSix_l1 s (n + 2) _ ((4 + 1 : Nat) : Int) = _ := e5
  rw [e5, fromSix_l1, bif_f (by rfl), wr64 (by omega) (by omega)]
  unfold sixV
  rw [Int.zero_mul, Int.zero_add]
theorem decodeNoD_eq {fu : Nat} : decodeNoD fu = some (noF, 1) := rfl
theorem pAts_len : ∀ (n : Nat) (u : List Int) (z : List Int × List Int × List Int), pAts n u = some z → u.length = 7 * n + z.2.2.length
  | 0, u, z, h => by simp [pAts] at h; rw [← h]; simp
  | n + 1, u, z, h => by
    by_cases h7 : u.length < 7
    · match u, h7 with
      | [], _ => simp [pAts] at h
      | [_], _ => simp [pAts] at h
      | [_, _], _ => simp [pAts] at h
      | [_, _, _], _ => simp [pAts] at h
      | [_, _, _, _], _ => simp [pAts] at h
      | [_, _, _, _, _], _ => simp [pAts] at h
      | [_, _, _, _, _, _], _ => simp [pAts] at h
      | _ :: _ :: _ :: _ :: _ :: _ :: _ :: _, h => simp at h; omega
    · match u, h7 with
      | [], h => simp at h
      | [_], h => simp at h
      | [_, _], h => simp at h
      | [_, _, _], h => simp at h
      | [_, _, _, _], h => simp at h
      | [_, _, _, _, _], h => simp at h
      | [_, _, _, _, _, _], h => simp at h
      | k :: a :: b :: c :: d :: e :: f :: t, _ =>
        rw [pAts] at h
        cases hp : pAts n t with
        | none => rw [hp] at h; cases h
        | some p =>
          rw [hp] at h
          simp only [Option.map_some, Option.some.injEq] at h
          have := pAts_len n t p hp
          rw [← h]
          simp only [List.length_cons]
          omega
theorem pAts_some : ∀ (n : Nat) (u : List Int), 7 * n ≤ u.length → ∃ z, pAts n u = some z
  | 0, u, _ => ⟨_, rfl⟩
  | n + 1, u, h => by
    match u, h with
    | [], h => simp at h
    | [_], h => simp at h; omega
    | [_, _], h => simp at h; omega
    | [_, _, _], h => simp at h; omega
    | [_, _, _, _], h => simp at h; omega
    | [_, _, _, _, _], h => simp at h; omega
    | [_, _, _, _, _, _], h => simp at h; omega
    | k :: a :: b :: c :: d :: e :: f :: t, h =>
      obtain ⟨z, hz⟩ := pAts_some n t (by simp at h; omega)
      exact ⟨_, by rw [pAts, hz]; rfl⟩
section
variable {fu : Nat} {s : ByteArray}
theorem at_idx {p j : Nat} {u : List Int} (hu : (byL s).drop p = u) {c : Int} (hc : u[j]? = some c) : idxS s ((p + j : Nat) : Int) = some c := by
  rw [byL_idx, ← hc, ← hu, List.getElem?_drop]
theorem decF_l3_eq (hf : 20 ≤ fu) {p nd na : Nat} {u : List Int} (hp : p ≤ 5000) (hnd : nd < 256) (hna : na < 256) (hu : (byL s).drop (p + (1 + nd) + 1) = u) (hul : u.length = 7 * na) : ∀ (q m j : Nat) (d : GFrame), j + m = na → m < q → d.at_.length = j → d.vals.length = j →
    ∀ ats vs, pAts m (u.drop (7 * j)) = some (ats, vs, []) → decodeFrame_l3 fu s p nd na q d j = some (bif frameZ { d with at_ := d.at_ ++ ats, vals := d.vals ++ vs } == 0 then ({ d with at_ := d.at_ ++ ats, vals := d.vals ++ vs }, 0) else (noF, 1))
  | 0, m, j, d, _, h, _, _, _, _, _ => absurd h (by omega)
  | q + 1, 0, j, d, hj, _, _, _, ats, vs, hz => by
    rw [pAts] at hz
    simp only [Option.some.injEq, Prod.mk.injEq] at hz
    obtain ⟨rfl, rfl, _⟩ := hz
    rw [decodeFrame_l3, wr64 (x := (na : Int)) (by omega) (by omega), bif_f (dec_f (by omega)), some_bind]
    have e : ({ d with at_ := d.at_ ++ [], vals := d.vals ++ [] } : GFrame) = d := by simp
    rw [e]
    by_cases h : frameZ d = 0
    · rw [h]; rfl
    · have e1 : (frameZ d != 0) = true := by simp [h]
      have e2 : (frameZ d == 0) = false := by simp [h]
      rw [e1, e2]; rfl
  | q + 1, m + 1, j, d, hj, hq, hda, hdv, ats, vs, hz => by
    have hlen : (u.drop (7 * j)).length = 7 * (m + 1) := by rw [List.length_drop]; omega
    obtain ⟨k, a, b, c, e, f, g, t, ht⟩ : ∃ k a b c e f g t, u.drop (7 * j) = k :: a :: b :: c :: e :: f :: g :: t := by
      match u.drop (7 * j), hlen with
      | [], h => simp at h
      | [_], h => simp at h; omega
      | [_, _], h => simp at h; omega
      | [_, _, _], h => simp at h; omega
      | [_, _, _, _], h => simp at h; omega
      | [_, _, _, _, _], h => simp at h; omega
      | [_, _, _, _, _, _], h => simp at h; omega
      | k :: a :: b :: c :: e :: f :: g :: t, _ => exact ⟨k, a, b, c, e, f, g, t, rfl⟩
    have hd2 : u.drop (7 * (j + 1)) = t := by
      have := congrArg (List.drop 7) ht
      rw [List.drop_drop] at this
      rw [show 7 * (j + 1) = 7 * j + 7 from by omega, this]
      rfl
    rw [ht, pAts] at hz
    cases hp2 : pAts m t with
    | none => rw [hp2] at hz; cases hz
    | some z =>
      rw [hp2] at hz
      simp only [Option.map_some, Option.some.injEq, Prod.mk.injEq] at hz
      obtain ⟨rfl, rfl, hz3⟩ := hz
      have hdrop : (byL s).drop (p + (1 + nd) + 1 + 7 * j) = k :: a :: b :: c :: e :: f :: g :: t := by rw [← ht, ← hu, List.drop_drop]
      have w0 : IntKind.wrap .i64 (nd : Int) = (nd : Int) := wr64 (by omega) (by omega)
      have w1 : IntKind.wrap .i64 (1 + (nd : Int)) = ((1 + nd : Nat) : Int) := by rw [wr64 (by omega) (by omega)]; omega
      have w2 : IntKind.wrap .i64 ((p : Int) + ((1 + nd : Nat) : Int)) = ((p + (1 + nd) : Nat) : Int) := by rw [wr64 (by omega) (by omega)]; omega
      have w3 : IntKind.wrap .i64 (((p + (1 + nd) : Nat) : Int) + 1) = ((p + (1 + nd) + 1 : Nat) : Int) := by rw [wr64 (by omega) (by omega)]; omega
      have w4 : IntKind.wrap .i64 (7 * (j : Int)) = ((7 * j : Nat) : Int) := by rw [wr64 (by omega) (by omega)]; omega
      have w5 : IntKind.wrap .i64 (((p + (1 + nd) + 1 : Nat) : Int) + ((7 * j : Nat) : Int)) = ((p + (1 + nd) + 1 + 7 * j : Nat) : Int) := by rw [wr64 (by omega) (by omega)]; omega
      have w6 : IntKind.wrap .i64 (((p + (1 + nd) : Nat) : Int) + 2) = ((p + (1 + nd) + 2 : Nat) : Int) := by rw [wr64 (by omega) (by omega)]; omega
      have w7 : IntKind.wrap .i64 (((p + (1 + nd) + 2 : Nat) : Int) + ((7 * j : Nat) : Int)) = ((p + (1 + nd) + 2 + 7 * j : Nat) : Int) := by rw [wr64 (by omega) (by omega)]; omega
      have w8 : IntKind.wrap .i64 ((j : Int) + 1) = ((j + 1 : Nat) : Int) := by rw [wr64 (by omega) (by omega)]; omega
      have hk : idxS s ((p + (1 + nd) + 1 + 7 * j : Nat) : Int) = some k := at_idx (p := p + (1 + nd) + 1 + 7 * j) (j := 0) hdrop rfl
      have hkr : 0 ≤ k ∧ k < 256 := byL_range (s := s) (List.mem_of_mem_drop (by rw [hdrop]; exact List.mem_cons_self))
      have hbl := byL_len s
      have hsz : p + (1 + nd) + 2 + 7 * j ≤ s.size := by
        have := congrArg List.length hdrop
        rw [List.length_drop, hbl] at this
        simp at this
        omega
      obtain ⟨s', hs1, hs2⟩ := byL_cut hsz
      have hs3 : byL s' = a :: b :: c :: e :: f :: g :: t := by
        rw [hs2, show p + (1 + nd) + 2 + 7 * j = p + (1 + nd) + 1 + 7 * j + 1 from by omega, ← List.drop_drop, hdrop]
        rfl
      rw [decodeFrame_l3, wr64 (x := (na : Int)) (by omega) (by omega), bif_t (dec_t (by omega)), w0, w1, w2, w3, w4, w5, w6, w7, w8, hk, some_bind, wr64 (x := k) (by omega) (by omega),
        app_ok (by have : Rep.bytes Int = 8 := rfl; rw [this]; simp; omega), some_bind, some_bind, hs1, some_bind, fromSixD_eq (by omega) hs3, some_bind, app_ok (by have : Rep.bytes Int = 8 := rfl; rw [this]; simp; omega), some_bind, some_bind]
      have ih := decF_l3_eq hf hp hnd hna hu hul q m (j + 1) { d with at_ := d.at_ ++ [k], vals := d.vals ++ [sixV a b c e f g] } (by omega) (by omega) (by simp; omega) (by simp; omega) z.1 z.2.1 (by rw [hd2, hp2, ← hz3])
      rw [ih]
      simp [List.append_assoc]
theorem decF_l2_eq (hf : 300 ≤ fu) {p nd : Nat} {r : List Int} (hp : p ≤ 4000) (hnd : nd < 256) (hsz : s.size ≤ 140737488351232) (hr : (byL s).drop p = (nd : Int) :: r) (hrl : nd < r.length) : ∀ (q m j : Nat) (d : GFrame), j + m = nd → m < q → d.deps = r.take j → d.at_ = [] → d.vals = [] →
    decodeFrame_l2 fu s p nd q d j = some (finZ (pTail d.kind d.node d.id d.ops (r.take nd) (r.drop nd)))
  | 0, m, j, d, _, h, _, _, _ => absurd h (by omega)
  | q + 1, 0, j, d, hj, _, hdd, ha, hv => by
    have hj : j = nd := by omega
    subst hj
    have hbl := byL_len s
    have hlen := congrArg List.length hr
    rw [List.length_drop, hbl, List.length_cons] at hlen
    obtain ⟨na, u, hu⟩ : ∃ na u, r.drop j = na :: u := by
      rw [List.drop_eq_getElem_cons hrl]
      exact ⟨_, _, rfl⟩
    have hul := congrArg List.length hu
    rw [List.length_drop, List.length_cons] at hul
    have hpos : idxS s (p : Int) = some (j : Int) := by
      have := at_idx (s := s) (p := p) (j := 0) hr rfl
      rwa [Nat.add_zero] at this
    have hdr : (byL s).drop (p + (1 + j)) = na :: u := by
      rw [← hu, ← List.drop_drop, hr, show 1 + j = j + 1 from by omega, List.drop_succ_cons]
    have hna : idxS s ((p + (1 + j) : Nat) : Int) = some na := by
      have := at_idx (s := s) (p := p + (1 + j)) (j := 0) hdr rfl
      rwa [Nat.add_zero] at this
    have hnar : 0 ≤ na ∧ na < 256 := byL_range (s := s) (List.mem_of_mem_drop (by rw [hdr]; exact List.mem_cons_self))
    have hdr2 : (byL s).drop (p + (1 + j) + 1) = u := by rw [← List.drop_drop, hdr]; rfl
    have w0 : IntKind.wrap .i64 (j : Int) = (j : Int) := wr64 (by omega) (by omega)
    have w1 : IntKind.wrap .i64 (1 + (j : Int)) = ((1 + j : Nat) : Int) := by rw [wr64 (by omega) (by omega)]; omega
    have w2 : IntKind.wrap .i64 ((p : Int) + ((1 + j : Nat) : Int)) = ((p + (1 + j) : Nat) : Int) := by rw [wr64 (by omega) (by omega)]; omega
    have w3 : IntKind.wrap .i64 (((p + (1 + j) : Nat) : Int) + 1) = ((p + (1 + j) + 1 : Nat) : Int) := by rw [wr64 (by omega) (by omega)]; omega
    have hnn : na = ((na.toNat : Nat) : Int) := by omega
    generalize na.toNat = nb at hnn
    subst hnn
    have w4 : IntKind.wrap .i64 (nb : Int) = (nb : Int) := wr64 (by omega) (by omega)
    have w5 : IntKind.wrap .i64 (7 * (nb : Int)) = ((7 * nb : Nat) : Int) := by rw [wr64 (by omega) (by omega)]; omega
    have w6 : IntKind.wrap .i64 (((p + (1 + j) + 1 : Nat) : Int) + ((7 * nb : Nat) : Int)) = ((p + (1 + j) + 1 + 7 * nb : Nat) : Int) := by rw [wr64 (by omega) (by omega)]; omega
    rw [decodeFrame_l2, w0, bif_f (dec_f (by omega)), hpos, some_bind, w0, w1, w2, hna, some_bind, w3, w4, w5, w6, some_bind, hu]
    have htn : ((nb : Int)).toNat = nb := rfl
    by_cases h7 : u.length = 7 * nb
    · rw [bif_f (by simp; omega)]
      obtain ⟨z, hz⟩ := pAts_some nb u (by omega)
      have hzl := pAts_len nb u z hz
      obtain ⟨z1, z2, z3⟩ := z
      have hz3 : z3 = [] := List.length_eq_zero_iff.1 (by simp at hzl; omega)
      subst hz3
      have h3 := decF_l3_eq (fu := fu) (s := s) (by omega) (p := p) (nd := j) (na := nb) (u := u) (by omega) (by omega) (by omega) hdr2 h7 fu nb 0 d (by omega) (by omega) (by rw [ha]; rfl) (by rw [hv]; rfl) z1 z2 (by simpa using hz)
      have h3 : decodeFrame_l3 fu s p j nb fu d 0 = _ := h3
      rw [h3, pTail, htn, hz, ha, hv, List.nil_append, List.nil_append, ← hdd]
      rfl
    · rw [bif_t (by simp; omega)]
      rw [decodeNoD_eq, some_bind, some_bind, pTail, htn]
      cases hz : pAts nb u with
      | none => rfl
      | some z =>
        have hzl := pAts_len nb u z hz
        obtain ⟨z1, z2, z3⟩ := z
        cases z3 with
        | nil => simp at hzl; omega
        | cons _ _ => rfl
  | q + 1, m + 1, j, d, hj, hq, hdd, ha, hv => by
    have hlt : j < r.length := by omega
    have hc : idxS s ((p + 1 + j : Nat) : Int) = some r[j] := by
      have := at_idx (s := s) (p := p) (j := j + 1) hr (c := r[j]) (by simp)
      rwa [show p + (j + 1) = p + 1 + j from by omega] at this
    have hcr : 0 ≤ r[j] ∧ r[j] < 256 := byL_range (s := s) (List.mem_of_mem_drop (by rw [hr]; exact List.mem_cons_of_mem _ (List.getElem_mem _)))
    have w0 : IntKind.wrap .i64 (nd : Int) = (nd : Int) := wr64 (by omega) (by omega)
    have w1 : IntKind.wrap .i64 ((p : Int) + 1) = ((p + 1 : Nat) : Int) := by rw [wr64 (by omega) (by omega)]; omega
    have w2 : IntKind.wrap .i64 (((p + 1 : Nat) : Int) + (j : Int)) = ((p + 1 + j : Nat) : Int) := by rw [wr64 (by omega) (by omega)]; omega
    have w3 : IntKind.wrap .i64 ((j : Int) + 1) = ((j + 1 : Nat) : Int) := by rw [wr64 (by omega) (by omega)]; omega
    have hdl : d.deps.length ≤ 300 := by rw [hdd, List.length_take]; omega
    rw [decodeFrame_l2, w0, bif_t (dec_t (by omega)), w1, w2, hc, some_bind, wr64 (x := r[j]) (by omega) (by omega), app_ok (by have : Rep.bytes Int = 8 := rfl; rw [this]; simp; omega), some_bind, some_bind, w3]
    exact decF_l2_eq hf hp hnd hsz hr hrl q m (j + 1) { d with deps := d.deps ++ [r[j]] } (by omega) (by omega) (by rw [hdd]; exact (List.take_succ_eq_append_getElem hlt).symm) ha hv
theorem decF_l1_eq (hf : 300 ≤ fu) (hsz : s.size ≤ 140737488351232) {no : Nat} (hno : no < 256) {d57 : GFrame} : ∀ (q m i : Nat) (d : GFrame), i + m = no → m < q → 4 + 8 * i ≤ s.size → d.ops.length = i → d.deps = [] → d.at_ = [] → d.vals = [] →
    decodeFrame_l1 fu s no q d d57 ((4 + 8 * i : Nat) : Int) i = some (finZ ((pOps m ((byL s).drop (4 + 8 * i))).bind fun p => pRest d.kind d.node d.id (d.ops ++ p.1) p.2))
  | 0, m, i, d, _, h, _, _, _, _, _ => absurd h (by omega)
  | q + 1, 0, i, d, hi, _, hs, ho, hdd, ha, hv => by
    have hbl := byL_len s
    have w0 : IntKind.wrap .i64 (no : Int) = (no : Int) := wr64 (by omega) (by omega)
    rw [decodeFrame_l1, w0, bif_f (dec_f (by omega)), pOps]
    simp only [Option.bind_some, List.append_nil]
    unfold decodeFrame_j2 decodeFrame_j1
    generalize hp : 4 + 8 * i = p at hs ⊢
    have hlen : ((byL s).drop p).length = s.size - p := by rw [List.length_drop, hbl]
    cases hr : (byL s).drop p with
    | nil =>
      rw [hr] at hlen
      simp at hlen
      rw [bif_t (dec_t (by omega)), bif_t rfl, decodeNoD_eq, some_bind, some_bind]
      rfl
    | cons nd r =>
      rw [hr, List.length_cons] at hlen
      have hndr : 0 ≤ nd ∧ nd < 256 := byL_range (s := s) (List.mem_of_mem_drop (by rw [hr]; exact List.mem_cons_self))
      have hnn : nd = ((nd.toNat : Nat) : Int) := by omega
      generalize nd.toNat = nb at hnn
      subst hnn
      have hidx : idxS s (p : Int) = some (nb : Int) := by
        have := at_idx (s := s) (p := p) (j := 0) hr rfl
        rwa [Nat.add_zero] at this
      have w1 : IntKind.wrap .i64 ((p : Int) + 1) = ((p + 1 : Nat) : Int) := by rw [wr64 (by omega) (by omega)]; omega
      have w2 : IntKind.wrap .i64 (((p + 1 : Nat) : Int) + IntKind.wrap .i64 (nb : Int)) = ((p + 1 + nb : Nat) : Int) := by rw [wr64 (x := (nb : Int)) (by omega) (by omega), wr64 (by omega) (by omega)]; omega
      have htn : ((nb : Int)).toNat = nb := rfl
      rw [bif_f (dec_f (by omega)), hidx, some_bind, w1, w2, pRest, htn]
      unfold pDeps
      by_cases hle : nb < r.length
      · rw [bif_f (dec_f (by omega)), some_bind, if_pos (by omega)]
        have h2 := decF_l2_eq (fu := fu) (s := s) hf (p := p) (nd := nb) (r := r) (by omega) (by omega) hsz hr hle fu nb 0 d (by omega) (by omega) (by rw [hdd]; rfl) ha hv
        have h2 : decodeFrame_l2 fu s p nb fu d 0 = _ := h2
        rw [h2]
        rfl
      · rw [bif_t (dec_t (by omega)), decodeNoD_eq, some_bind, some_bind]
        by_cases he : nb ≤ r.length
        · rw [if_pos he]
          have : r.drop nb = [] := List.drop_of_length_le (by omega)
          simp only [Option.bind_some]
          rw [this]
          rfl
        · rw [if_neg he]
          rfl
  | q + 1, m + 1, i, d, hi, hq, hs, ho, hdd, ha, hv => by
    have hbl := byL_len s
    have w0 : IntKind.wrap .i64 (no : Int) = (no : Int) := wr64 (by omega) (by omega)
    have w8 : IntKind.wrap .i64 (((4 + 8 * i : Nat) : Int) + 8) = ((4 + 8 * (i + 1) : Nat) : Int) := by rw [wr64 (by omega) (by omega)]; omega
    have wi : IntKind.wrap .i64 ((i : Int) + 1) = ((i + 1 : Nat) : Int) := by rw [wr64 (by omega) (by omega)]; omega
    rw [decodeFrame_l1, w0, bif_t (dec_t (by omega)), w8]
    have hlen : ((byL s).drop (4 + 8 * i)).length = s.size - (4 + 8 * i) := by rw [List.length_drop, hbl]
    by_cases h8 : s.size < 4 + 8 * (i + 1)
    · rw [bif_t (dec_t (by omega)), decodeNoD_eq, some_bind, some_bind, pOps_short (by omega)]
      rfl
    · rw [bif_f (dec_f (by omega))]
      obtain ⟨k, y, a, b, c, dd, e, f, u, hu⟩ := eight_of (t := (byL s).drop (4 + 8 * i)) (by omega)
      have w1 : IntKind.wrap .i64 (((4 + 8 * i : Nat) : Int) + 1) = ((4 + 8 * i + 1 : Nat) : Int) := by rw [wr64 (by omega) (by omega)]; omega
      have w2 : IntKind.wrap .i64 (((4 + 8 * i : Nat) : Int) + 2) = ((4 + 8 * i + 2 : Nat) : Int) := by rw [wr64 (by omega) (by omega)]; omega
      have hk : idxS s ((4 + 8 * i : Nat) : Int) = some k := by
        have := at_idx (s := s) (p := 4 + 8 * i) (j := 0) hu rfl
        rwa [Nat.add_zero] at this
      have hy : idxS s ((4 + 8 * i + 1 : Nat) : Int) = some y := at_idx (s := s) (p := 4 + 8 * i) (j := 1) hu rfl
      have hkr : 0 ≤ k ∧ k < 256 := byL_range (s := s) (c := k) (List.mem_of_mem_drop (i := 4 + 8 * i) (by rw [hu]; exact List.mem_cons_self))
      have hyr : 0 ≤ y ∧ y < 256 := byL_range (s := s) (c := y) (List.mem_of_mem_drop (i := 4 + 8 * i) (by rw [hu]; exact List.mem_cons_of_mem _ List.mem_cons_self))
      obtain ⟨s', hs1, hs2⟩ := byL_cut (s := s) (k := 4 + 8 * i + 2) (by omega)
      have hs3 : byL s' = a :: b :: c :: dd :: e :: f :: u := by
        rw [hs2, ← List.drop_drop, hu]
        rfl
      have hnext : (byL s).drop (4 + 8 * (i + 1)) = u := by
        rw [show 4 + 8 * (i + 1) = 4 + 8 * i + 8 from by omega, ← List.drop_drop, hu]
        rfl
      rw [hk, some_bind, w1, hy, some_bind, w2, hs1, some_bind, fromSixD_eq (by omega) hs3, some_bind, wr64 (x := k) (by omega) (by omega), wr64 (x := y) (by omega) (by omega), some_bind, app_ok (by have : Rep.bytes GOp = 24 := rfl; rw [this]; simp; omega), some_bind, some_bind, wi, hu, pOps]
      rw [decF_l1_eq hf hsz hno q m (i + 1) { d with ops := d.ops ++ [⟨k, y, sixV a b c dd e f⟩] } (by omega) (by omega) (by omega) (by simp; omega) hdd ha hv, hnext]
      cases hp : pOps m u with
      | none => rfl
      | some z => simp [List.append_assoc]
theorem decodeFrameD_eq (hf : 300 ≤ fu) (hs : s.size ≤ 140737488351232) : decodeFrameD fu s = some (decZ (byL s)) := by
  have hbl := byL_len s
  unfold decodeFrameD
  by_cases h6 : s.size < 6
  · rw [bif_t (dec_t (by omega)), decodeNoD_eq, some_bind, some_bind]
    congr 1
    unfold decZ
    have hnone : ∀ l : List Int, l.length < 6 → finZ (parseR l) = (noF, 1) := by
      intro l hl
      match l, hl with
      | [], _ => rfl
      | [_], _ => rfl
      | [_, _], _ => rfl
      | [_, _, _], _ => rfl
      | kd :: nd :: id :: no :: t, hl =>
        rw [parseR]
        cases hn : no.toNat with
        | zero =>
          rw [pOps]
          simp only [Option.bind_some]
          match t, hl with
          | [], _ => rfl
          | [m], _ =>
            rw [pRest]
            unfold pDeps
            by_cases hm : m.toNat ≤ ([] : List Int).length
            · rw [if_pos hm]
              simp [pTail, finZ]
            · rw [if_neg hm]; rfl
          | _ :: _ :: _, hl => simp at hl; omega
        | succ n =>
          rw [pOps_short (by simp at hl; omega)]
          rfl
    exact (hnone (byL s) (by omega)).symm
  · rw [bif_f (dec_f (by omega))]
    match hl : byL s with
    | [] => rw [hl] at hbl; simp at hbl; omega
    | [_] => rw [hl] at hbl; simp at hbl; omega
    | [_, _] => rw [hl] at hbl; simp at hbl; omega
    | [_, _, _] => rw [hl] at hbl; simp at hbl; omega
    | a :: b :: c :: no :: t =>
      have i0 : idxS s 0 = some a := by have := byL_idx s 0; rw [hl] at this; exact this
      have i1 : idxS s 1 = some b := by have := byL_idx s 1; rw [hl] at this; exact this
      have i2 : idxS s 2 = some c := by have := byL_idx s 2; rw [hl] at this; exact this
      have i3 : idxS s 3 = some no := by have := byL_idx s 3; rw [hl] at this; exact this
      have hr : ∀ z ∈ byL s, 0 ≤ z ∧ z < 256 := fun z hz => byL_range hz
      rw [hl] at hr
      have ha := hr a (by simp)
      have hb := hr b (by simp)
      have hc := hr c (by simp)
      have hno := hr no (by simp)
      have hnn : no = ((no.toNat : Nat) : Int) := by omega
      rw [i0, some_bind, i1, some_bind, i2, some_bind, wr64 (x := a) (by omega) (by omega), wr64 (x := b) (by omega) (by omega), wr64 (x := c) (by omega) (by omega), some_bind, some_bind, i3, some_bind]
      have h1 := decF_l1_eq (fu := fu) (s := s) hf hs (no := no.toNat) (by omega) (d57 := (Zr.zd : GFrame)) fu no.toNat 0 { kind := a, node := b, id := c, ops := Zr.zd, deps := Zr.zd, at_ := Zr.zd, vals := Zr.zd } (by omega) (by omega) (by omega) rfl rfl rfl rfl
      rw [← hnn] at h1
      have h1 : decodeFrame_l1 fu s no fu _ (Zr.zd : GFrame) 4 0 = _ := h1
      rw [h1, show 4 + 8 * 0 = 4 from rfl, hl]
      rfl
end
end Go.Proofs.Ytopgdemmdcipcaa
namespace Go.Proofs.Ytopgdemmdcipcaa
open Go.RowKit
open Rep (rep)
set_option linter.unusedVariables false
def nodeReplay_l1 (fu : Nat) (x1 : Int) (x2 : List ByteArray) : Nat → GNode → GNode → Int → Option (GNode × Int)
 | 0, _, _, _ => none
 | n + 1, d20, d22, y23 =>
 (bif decide (y23 < (x2.length : Int)) then
 (idx x2 y23).bind fun x30 =>
 (decodeD fu x30).bind fun r33 =>
 (some r33.1).bind fun d38 =>
 (bif r33.2 != 0 then
 (some ({ entries := Zr.zd, order := Zr.zd, values := Zr.zd } : GNode)).bind fun d41 =>
 (some d41).bind fun d44 =>
 some (d44, r33.2)
 else
 (nodeTakeD fu d20 x1 d38).bind fun r49 =>
 (some r49.1).bind fun d52 =>
 (bif r49.2.2 != 0 then
 (some ({ entries := Zr.zd, order := Zr.zd, values := Zr.zd } : GNode)).bind fun d55 =>
 (some d55).bind fun d58 =>
 some (d58, r49.2.2)
 else
 (nodeReplay_l1 fu x1 x2 n) d52 d22 (IntKind.wrap .i64 (y23 + 1))))
 else
 (some d20).bind fun d62 =>
 some (d62, 0))
def nodeReplayD (fu : Nat) (x1 : Int) (x2 : List ByteArray) : Option (GNode × Int) :=
 (nodeIsD fu x1).bind fun r9 =>
 (bif !r9 then
 (some (Zr.zd : GNode)).bind fun d14 =>
 some (d14, 2)
 else
 nodeReplay_l1 fu x1 x2 fu (Zr.zd : GNode) (Zr.zd : GNode) 0)
set_option maxRecDepth 100000 in
set_option maxHeartbeats 4000000 in
theorem nodeReplay_ok {M : Mm} {w : World} {vx2 : Value} {x1 : Int} {x2 : List ByteArray} {fu : Nat} {r : GNode × Int} (hA : Agree M w) (hvx2 : repL M vx2 x2) (hz : nodeReplayD fu x1 x2 = some r) :
    Calls Try.prog 33 #[.int .i64 x1, vx2] w (Gives M w (fun M' u => ∃ c0, u = .tuple #[.agg c0.toArray, .int .i64 r.2] ∧ rep M' c0 r.1)) := by
 refine calls_W Try.func33 rfl 44 rfl rfl (by kernel_rfl) fun T hT => ?_
 have hT_0 : T 0 = .int .i64 x1 := hT 0
 have hT_1 : T 1 = vx2 := hT 1
 clear hT
 have hE := Mm.ext.refl w.heap.size noX M
 have hS : St w noX M [] w := St.start hA
 rw [nodeReplayD] at hz
 refine W_seq <|W_reg ?_
 refine WL_c (O_alloc tz48 hS ?_)
 intro b4 w3 hb4 hS
 have zb4 : rep M (Zr.zc GNode) (Zr.zd : GNode) := Zr.zr
 refine WL_y (Y_assign (.int .i64 0) rfl) ?_
 refine WL_nil (nm_then ?_)
 refine W_seq <|W_reg ?_
 refine WL_c (O_alloc tz48 hS ?_)
 intro b6 w5 hb6 hS
 have zb6 : rep M (Zr.zc GNode) (Zr.zd : GNode) := Zr.zr
 refine WL_nil (nm_then ?_)
 refine W_seq <|W_seq <|W_reg <|WL_y (Y_move (.int .i64 x1) hT_0) ?_
 obtain ⟨r9, hr8, hz⟩ := bind_ok hz
 refine WL_c (O_val (vs := [.int .i64 x1]) (v := .bool r9) cb51 (args1 rfl) hS (nodeIs_ok hS.agree hr8) ?_)
 intro w7 hS
 refine WL_y (Y_not rfl) ?_
 refine WL_nil (nm_then ?_)
 refine W_cond rfl (fun hc10 => ?_) (fun hc10 => ?_)
 replace hz := bif_ok_t hz hc10
 refine W_seq <|W_reg ?_
 have ha11 := (rr zb6)
 refine WL_y (Y_ldn ta48 rfl (hS.bvB 0 rfl) (Rep.len ha11)) ?_
 obtain ⟨d14, hd13, hz⟩ := bind_ok hz
 refine WL_c (O_sx 1 201 hS rfl zb4 rfl rfl ha11 rfl rfl (Lf (rr zb4) ha11) hd13 ?_)
 intro cs13 w12 hb13 ha13 hs13 hS
 refine WL_y (Y_assign (.int .i64 2) rfl) ?_
 refine WL_nil (nm_then ?_)
 cases hz
 exact W_ret (rt_then (R_ct (j := 1) rfl rfl rfl (by rw [Rep.len hb13]; exact ta48) hS rfl (Gives.mk (St.dropB (St.dropB hS hb6) hb4) hE ⟨_, rfl, hb13⟩)))
 replace hz := bif_ok_f hz hc10
 refine W_skip (nm_then ?_)
 refine W_seq <|W_seq <|W_reg <|WL_y (Y_move (vx2) hT_1) ?_
 obtain ⟨a15, c15, hv15, _⟩ := repL_shape hvx2
 refine WL_y (Y_lenL Try.underlying69 (tr2 hv15 rfl)) <|WL_y (Y_move (.int .i64 0) rfl) ?_
 refine WL_nil (nm_then ?_)
 refine W_block ?_
 refine W_loop (fun k25 T' w' => ∃ M17 cs19 d20 cs21 d22 y23, Mm.ext w.heap.size noX M M17 ∧ St w noX M17 [.box b6 cs19 48, .box b4 cs21 48] w' ∧ rep M17 cs19 d20 ∧ rep M17 cs21 d22 ∧ T' 0 = .int .i64 x1 ∧ T' 4 = .pointer (some ⟨b4, 0, none⟩) ∧ T' 6 = .pointer (some ⟨b6, 0, none⟩) ∧ T' 15 = vx2 ∧ T' 16 = .int .i64 (x2.length : Int) ∧ T' 17 = .int .i64 y23 ∧ nodeReplay_l1 fu x1 x2 k25 d20 d22 y23 = some r) fu ?_ ?_ ?_
 exact ⟨M, (Zr.zc GNode), (Zr.zd : GNode), (Zr.zc GNode), (Zr.zd : GNode), (0 : Int), (Mm.ext.refl _ _ _), hS, zb6, zb4, hT_0, rfl, rfl, rfl, rfl, rfl, hz⟩
 rintro T' w' ⟨_, _, _, _, _, _, _, _, _, _, _, _, _, _, _, _, hz⟩
 rw [nodeReplay_l1] at hz
 cases hz
 intro k25
 rintro T18 w16 ⟨M17, cs19, d20, cs21, d22, y23, hx27, hS, hb19, hb21, hT18_0, hT18_4, hT18_6, hT18_15, hT18_16, hT18_17, hz⟩
 replace hvx2 := repL.mono hx27.1 hvx2
 replace hE := Mm.ext.trans hE hx27
 have hF26 := hx27
 rw [nodeReplay_l1] at hz
 obtain ⟨rec24, hrec24⟩ : ∃ f, f = nodeReplay_l1 fu x1 x2 k25 := ⟨_, rfl⟩
 rw [← hrec24] at hz
 refine W_seq <|W_reg <|WL_y (Y_lss hT18_17 hT18_16) ?_
 refine WL_nil (nm_then ?_)
 refine W_seq ?_
 refine W_cond rfl (fun hc28 => ?_) (fun hc28 => ?_)
 replace hz := bif_ok_t hz hc28
 refine W_skip (nm_then ?_)
 refine W_seq <|W_block <|W_seq <|W_reg ?_
 obtain ⟨x30, hx29, hz⟩ := bind_ok hz
 obtain ⟨b29, o29, c29, p29, hv29, hi29, hj29, hM29, hr29⟩ := repL_at hvx2 hx29
 replace hr29 : rep _ (sl p29 (o29 + Int.toNat y23 * 1) 1) x30 := hr29
 refine WL_y (Y_ixL il69 hT18_15 hv29 hT18_17 hi29 hj29) <|WL_y (Y_ld1 (.string x30) ts9 rfl (hS.bvM hM29) hr29.1) <|WL_y (Y_assign (.string x30) rfl) ?_
 refine WL_nil (nm_then ?_)
 refine W_seq <|W_reg <|WL_y (Y_move (.string x30) rfl) ?_
 obtain ⟨r33, hr32, hz⟩ := bind_ok hz
 refine WL_c (O_mem (vs := [.string x30]) (rv := (fun M' u => ∃ c0, u = .tuple #[.agg c0.toArray, .int .i64 r33.2] ∧ rep M' c0 r33.1)) cb68 (args1 rfl) hS (decode_ok hS.agree hr32) ?_)
 intro u32 M32 w31 hx32 hu32 hS
 obtain ⟨c32_0, hq32, f32_0⟩ := hu32
 subst hq32
 replace hvx2 := repL.mono hx32.1 hvx2
 replace hb19 := Rep.mono hx32.1 hb19
 replace hb21 := Rep.mono hx32.1 hb21
 replace hE := Mm.ext.trans hE hx32
 replace hF26 := Mm.ext.trans hF26 hx32
 refine WL_y (Y_move (.tuple #[.agg c32_0.toArray, .int .i64 r33.2]) rfl) <|WL_y (Y_extract (v := .agg c32_0.toArray) rfl rfl) <|WL_y (Y_extract (v := .int .i64 r33.2) rfl rfl) ?_
 refine WL_c (O_alloc tz38 hS ?_)
 intro b35 w34 hb35 hS
 have zb35 : rep M32 (Zr.zc GFrame) (Zr.zd : GFrame) := Zr.zr
 obtain ⟨d38, hd37, hz⟩ := bind_ok hz
 refine WL_c (O_sx 0 7 hS rfl zb35 rfl rfl f32_0 rfl rfl (Lf (rr zb35) f32_0) hd37 ?_)
 intro cs37 w36 hb37 ha37 hs37 hS
 refine WL_y (Y_assign (.int .i64 r33.2) rfl) ?_
 refine WL_nil (nm_then ?_)
 refine W_seq <|W_seq <|W_reg <|WL_y (Y_move (.int .i64 r33.2) rfl) <|WL_y (Y_neq rfl rfl) ?_
 refine WL_nil (nm_then ?_)
 refine W_cond rfl (fun hc39 => ?_) (fun hc39 => ?_)
 replace hz := bif_ok_t hz hc39
 refine W_seq <|W_reg ?_
 obtain ⟨d41, hd40, hz⟩ := bind_ok hz
 obtain ⟨cs40, hf40, ha40⟩ : ∃ cs, fillZ (([(0, 192), (192, 1), (193, 8)] : List (Nat × Nat))[·]?) (Zr.zc GNode) [] = some cs ∧ rep M32 cs d41 := ⟨_, fz_nil, rep_eq (x := ({ entries := Zr.zd, order := Zr.zd, values := Zr.zd } : GNode)) (Zr.zr : rep M32 (Zr.zc GNode) (Zr.zd : GNode)) hd40⟩
 refine WL_y (Y_build [] tb48 bp0 hf40) <|WL_y (Y_move (.int .i64 r33.2) rfl) ?_
 obtain ⟨d44, hd43, hz⟩ := bind_ok hz
 refine WL_c (O_sx 2 201 hS rfl hb21 hT18_4 rfl ha40 rfl rfl (Lf (rr hb21) ha40) hd43 ?_)
 intro cs43 w42 hb43 ha43 hs43 hS
 refine WL_y (Y_assign (.int .i64 r33.2) rfl) ?_
 refine WL_nil (nm_then ?_)
 cases hz
 exact W_ret (rt_then (rt_blk (rt_then (rt_then (rt_blk (rt_then (R_ct (j := 2) rfl hT18_4 rfl (by rw [Rep.len hb43]; exact ta48) hS rfl (Gives.mk (St.dropB (St.dropB (St.dropB hS hb35) hb6) hb4) hE ⟨_, rfl, hb43⟩))))))))
 replace hz := bif_ok_f hz hc39
 refine W_skip (nm_then ?_)
 refine W_seq <|W_reg ?_
 have ha45 := (rr hb19)
 refine WL_y (Y_ldn ta48 hT18_6 (hS.bvB 1 rfl) (Rep.len ha45)) <|WL_y (Y_move (.int .i64 x1) hT18_0) ?_
 have ha46 := (rr hb37)
 refine WL_y (Y_ldn ta38 rfl (hS.bvB 0 rfl) (Rep.len ha46)) ?_
 obtain ⟨r49, hr48, hz⟩ := bind_ok hz
 refine WL_c (O_mem (vs := [.agg (sl cs19 (0) 201).toArray, .int .i64 x1, .agg (sl cs37 (0) 7).toArray]) (rv := (fun M' u => ∃ c0 v1, u = .tuple #[.agg c0.toArray, v1, .int .i64 r49.2.2] ∧ rep M' c0 r49.1 ∧ repL M' v1 r49.2.1)) cb17 (args3 rfl rfl rfl) hS (nodeTake_ok hS.agree ha45 ha46 hr48) ?_)
 intro u48 M48 w47 hx48 hu48 hS
 obtain ⟨c48_0, v48_1, hq48, f48_0, f48_1⟩ := hu48
 subst hq48
 replace hvx2 := repL.mono hx48.1 hvx2
 replace hb19 := Rep.mono hx48.1 hb19
 replace hb21 := Rep.mono hx48.1 hb21
 replace hb37 := Rep.mono hx48.1 hb37
 replace ha45 := Rep.mono hx48.1 ha45
 replace ha46 := Rep.mono hx48.1 ha46
 replace hE := Mm.ext.trans hE hx48
 replace hF26 := Mm.ext.trans hF26 hx48
 refine WL_y (Y_move (.tuple #[.agg c48_0.toArray, v48_1, .int .i64 r49.2.2]) rfl) <|WL_y (Y_extract (v := .agg c48_0.toArray) rfl rfl) <|WL_y (Y_extract (v := v48_1) rfl rfl) <|WL_y (Y_extract (v := .int .i64 r49.2.2) rfl rfl) ?_
 obtain ⟨d52, hd51, hz⟩ := bind_ok hz
 refine WL_c (O_sx 1 201 hS rfl hb19 hT18_6 rfl f48_0 rfl rfl (Lf (rr hb19) f48_0) hd51 ?_)
 intro cs51 w50 hb51 ha51 hs51 hS
 refine WL_y (Y_assign (.int .i64 r49.2.2) rfl) ?_
 refine WL_nil (nm_then ?_)
 refine W_seq <|W_reg <|WL_y (Y_move (.int .i64 r49.2.2) rfl) <|WL_y (Y_neq rfl rfl) ?_
 refine WL_nil (nm_then ?_)
 refine W_cond rfl (fun hc53 => ?_) (fun hc53 => ?_)
 replace hz := bif_ok_t hz hc53
 refine W_seq <|W_reg ?_
 obtain ⟨d55, hd54, hz⟩ := bind_ok hz
 obtain ⟨cs54, hf54, ha54⟩ : ∃ cs, fillZ (([(0, 192), (192, 1), (193, 8)] : List (Nat × Nat))[·]?) (Zr.zc GNode) [] = some cs ∧ rep M48 cs d55 := ⟨_, fz_nil, rep_eq (x := ({ entries := Zr.zd, order := Zr.zd, values := Zr.zd } : GNode)) (Zr.zr : rep M48 (Zr.zc GNode) (Zr.zd : GNode)) hd54⟩
 refine WL_y (Y_build [] tb48 bp0 hf54) <|WL_y (Y_move (.int .i64 r49.2.2) rfl) ?_
 obtain ⟨d58, hd57, hz⟩ := bind_ok hz
 refine WL_c (O_sx 2 201 hS rfl hb21 hT18_4 rfl ha54 rfl rfl (Lf (rr hb21) ha54) hd57 ?_)
 intro cs57 w56 hb57 ha57 hs57 hS
 refine WL_y (Y_assign (.int .i64 r49.2.2) rfl) ?_
 refine WL_nil (nm_then ?_)
 cases hz
 exact W_ret (rt_blk (rt_then (rt_then (rt_blk (rt_then (R_ct (j := 2) rfl hT18_4 rfl (by rw [Rep.len hb57]; exact ta48) hS rfl (Gives.mk (St.dropB (St.dropB (St.dropB hS hb35) hb6) hb4) hE ⟨_, rfl, hb57⟩)))))))
 replace hz := bif_ok_f hz hc53
 refine W_skip (nm_blk ?_)
 refine (nm_then ?_)
 refine W_reg <|WL_y (Y_add hT18_17 rfl) <|WL_y (Y_move (.int .i64 (IntKind.wrap .i64 (y23 + 1))) rfl) ?_
 refine WL_nil (nm_then ?_)
 exact ⟨M48, cs51, d52, cs21, d22, (IntKind.wrap .i64 (y23 + 1)), hF26, (St.dropB hS hb35), hb51, hb21, hT18_0, hT18_4, hT18_6, hT18_15, hT18_16, rfl, (by rw [← hrec24]; exact hz)⟩
 replace hz := bif_ok_f hz hc28
 refine W_exit <|ex_then <|ex_then <|ex_hit ?_
 refine (nm_then ?_)
 refine W_seq <|W_reg ?_
 have ha59 := (rr hb19)
 refine WL_y (Y_ldn ta48 hT18_6 (hS.bvB 0 rfl) (Rep.len ha59)) ?_
 obtain ⟨d62, hd61, hz⟩ := bind_ok hz
 refine WL_c (O_sx 1 201 hS rfl hb21 hT18_4 rfl ha59 rfl rfl (Lf (rr hb21) ha59) hd61 ?_)
 intro cs61 w60 hb61 ha61 hs61 hS
 refine WL_y (Y_assign (.int .i64 0) rfl) ?_
 refine WL_nil (nm_then ?_)
 cases hz
 exact W_ret (R_ct (j := 1) rfl hT18_4 rfl (by rw [Rep.len hb61]; exact ta48) hS rfl (Gives.mk (St.dropB (St.dropB hS hb6) hb4) hE ⟨_, rfl, hb61⟩))
def replayLog_j2 (y21 : Int) (rec22 : GNode → GNode → Int → Option (GNode × Int)) (d31 : GNode) (d33 : GNode) : Option (GNode × Int) :=
 rec22 d31 d33 (IntKind.wrap .i64 (y21 + 1))
def replayLog_j3 (d20 : GNode) (y21 : Int) (rec22 : GNode → GNode → Int → Option (GNode × Int)) (d50 : GNode) (y51 : Int) : Option (GNode × Int) :=
 (bif y51 != 0 then
 (some ({ entries := Zr.zd, order := Zr.zd, values := Zr.zd } : GNode)).bind fun d55 =>
 (some d55).bind fun d58 =>
 some (d58, y51)
 else
 replayLog_j2 y21 rec22 d50 d20)
def replayLog_l1 (fu : Nat) (x1 : Int) (x2 : List ByteArray) : Nat → GNode → GNode → Int → Option (GNode × Int)
 | 0, _, _, _ => none
 | n + 1, d18, d20, y21 =>
 (bif decide (y21 < (x2.length : Int)) then
 (idx x2 y21).bind fun x37 =>
 (decodeFrameD fu x37).bind fun r40 =>
 (some r40.1).bind fun d45 =>
 (bif r40.2 == 0 then
 (takeFrameD fu d18 x1 d45).bind fun r65 =>
 (some r65.1).bind fun d68 =>
 replayLog_j3 d20 y21 (replayLog_l1 fu x1 x2 n) d68 r65.2.2
 else
 replayLog_j3 d20 y21 (replayLog_l1 fu x1 x2 n) d18 r40.2)
 else
 (some d18).bind fun d72 =>
 some (d72, 0))
def replayLog_j1 (fu : Nat) (x1 : Int) (x2 : List ByteArray) (d9 : GNode) : Option (GNode × Int) :=
 replayLog_l1 fu x1 x2 fu (Zr.zd : GNode) d9 0
def replayLog_j4 (fu : Nat) (x1 : Int) (x2 : List ByteArray) (c77 : Bool) : Option (GNode × Int) :=
 (bif c77 then
 (some ({ entries := Zr.zd, order := Zr.zd, values := Zr.zd } : GNode)).bind fun d81 =>
 (some d81).bind fun d84 =>
 some (d84, 2)
 else
 replayLog_j1 fu x1 x2 (Zr.zd : GNode))
def replayLogD (fu : Nat) (x1 : Int) (x2 : List ByteArray) : Option (GNode × Int) :=
 (bif decide (x1 < 0) then
 replayLog_j4 fu x1 x2 true
 else
 replayLog_j4 fu x1 x2 (decide (x1 > 5)))
set_option maxRecDepth 100000 in
set_option maxHeartbeats 4000000 in
theorem replayLog_ok {M : Mm} {w : World} {vx2 : Value} {x1 : Int} {x2 : List ByteArray} {fu : Nat} {r : GNode × Int} (hA : Agree M w) (hvx2 : repL M vx2 x2) (hz : replayLogD fu x1 x2 = some r) :
    Calls Try.prog 34 #[.int .i64 x1, vx2] w (Gives M w (fun M' u => ∃ c0, u = .tuple #[.agg c0.toArray, .int .i64 r.2] ∧ rep M' c0 r.1)) := by
 refine calls_W Try.func34 rfl 45 rfl rfl (by kernel_rfl) fun T hT => ?_
 have hT_0 : T 0 = .int .i64 x1 := hT 0
 have hT_1 : T 1 = vx2 := hT 1
 clear hT
 have hE := Mm.ext.refl w.heap.size noX M
 have hS : St w noX M [] w := St.start hA
 rw [replayLogD] at hz
 refine W_seq <|W_reg ?_
 refine WL_c (O_alloc tz48 hS ?_)
 intro b4 w3 hb4 hS
 have zb4 : rep M (Zr.zc GNode) (Zr.zd : GNode) := Zr.zr
 refine WL_y (Y_assign (.int .i64 0) rfl) ?_
 refine WL_nil (nm_then ?_)
 refine W_seqJ (fun T' w' => ∃ M6 cs8 d9, Mm.ext w.heap.size noX M M6 ∧ St w noX M6 [.box b4 cs8 48] w' ∧ rep M6 cs8 d9 ∧ T' 0 = .int .i64 x1 ∧ T' 1 = vx2 ∧ T' 4 = .pointer (some ⟨b4, 0, none⟩) ∧ replayLog_j1 fu x1 x2 d9 = some r) ?_ ?_
 have hF73 := Mm.ext.refl w.heap.size noX M
 refine W_seqJ (fun T' w' => ∃ M75 c77, Mm.ext w.heap.size noX M M75 ∧ St w noX M75 [.box b4 (Zr.zc GNode) 48] w' ∧ T' 0 = .int .i64 x1 ∧ T' 1 = vx2 ∧ T' 4 = .pointer (some ⟨b4, 0, none⟩) ∧ T' 16 = .bool c77 ∧ replayLog_j4 fu x1 x2 c77 = some r) ?_ ?_
 have hF85 := Mm.ext.refl w.heap.size noX M
 refine W_reg <|WL_y (Y_move (.int .i64 x1) hT_0) <|WL_y (Y_lss rfl rfl) <|WL_y (Y_move (.bool (decide (x1 < 0))) rfl) ?_
 rcases ic hz with ⟨hc86, hz⟩ | ⟨hc86, hz⟩ <;> rw [hc86]
 refine WL_d 3 rfl ?_
 refine WL_nil (nm_then ?_)
 exact ⟨M, true, hF85, hS, hT_0, hT_1, rfl, rfl, hz⟩
 refine WL_gy rfl rfl (Y_move (.int .i64 x1) hT_0) <|WL_gy rfl rfl (Y_gtr rfl rfl) <|WL_y (Y_pick_f (.bool (decide (x1 > 5))) rfl rfl) ?_
 refine WL_nil (nm_then ?_)
 exact ⟨M, (decide (x1 > 5)), hF85, hS, hT_0, hT_1, rfl, rfl, hz⟩
 rintro T76 w74 ⟨M75, c77, hx78, hS, hT76_0, hT76_1, hT76_4, hT76_16, hz⟩
 replace hvx2 := repL.mono hx78.1 hvx2
 replace zb4 := Rep.mono hx78.1 zb4
 replace hE := Mm.ext.trans hE hx78
 replace hF73 := Mm.ext.trans hF73 hx78
 rw [replayLog_j4] at hz
 refine W_cond hT76_16 (fun hc79 => ?_) (fun hc79 => ?_)
 replace hz := bif_ok_t hz hc79
 refine W_seq <|W_reg ?_
 obtain ⟨d81, hd80, hz⟩ := bind_ok hz
 obtain ⟨cs80, hf80, ha80⟩ : ∃ cs, fillZ (([(0, 192), (192, 1), (193, 8)] : List (Nat × Nat))[·]?) (Zr.zc GNode) [] = some cs ∧ rep M75 cs d81 := ⟨_, fz_nil, rep_eq (x := ({ entries := Zr.zd, order := Zr.zd, values := Zr.zd } : GNode)) (Zr.zr : rep M75 (Zr.zc GNode) (Zr.zd : GNode)) hd80⟩
 refine WL_y (Y_build [] tb48 bp0 hf80) ?_
 obtain ⟨d84, hd83, hz⟩ := bind_ok hz
 refine WL_c (O_sx 0 201 hS rfl zb4 hT76_4 rfl ha80 rfl rfl (Lf (rr zb4) ha80) hd83 ?_)
 intro cs83 w82 hb83 ha83 hs83 hS
 refine WL_y (Y_assign (.int .i64 2) rfl) ?_
 refine WL_nil (nm_then ?_)
 cases hz
 exact W_ret (rt_then (R_ct (j := 0) rfl hT76_4 rfl (by rw [Rep.len hb83]; exact ta48) hS rfl (Gives.mk (St.dropB hS hb4) hE ⟨_, rfl, hb83⟩)))
 replace hz := bif_ok_f hz hc79
 refine W_skip (nm_then ?_)
 exact ⟨M75, (Zr.zc GNode), (Zr.zd : GNode), hF73, hS, zb4, hT76_0, hT76_1, hT76_4, hz⟩
 rintro T7 w5 ⟨M6, cs8, d9, hx10, hS, hb8, hT7_0, hT7_1, hT7_4, hz⟩
 replace hvx2 := repL.mono hx10.1 hvx2
 replace hE := Mm.ext.trans hE hx10
 rw [replayLog_j1] at hz
 refine W_seq <|W_reg ?_
 refine WL_c (O_alloc tz48 hS ?_)
 intro b12 w11 hb12 hS
 have zb12 : rep M6 (Zr.zc GNode) (Zr.zd : GNode) := Zr.zr
 refine WL_nil (nm_then ?_)
 refine W_seq <|W_seq <|W_reg <|WL_y (Y_move (vx2) hT7_1) ?_
 obtain ⟨a13, c13, hv13, _⟩ := repL_shape hvx2
 refine WL_y (Y_lenL Try.underlying69 (tr2 hv13 rfl)) <|WL_y (Y_move (.int .i64 0) rfl) ?_
 refine WL_nil (nm_then ?_)
 refine W_block ?_
 refine W_loop (fun k23 T' w' => ∃ M15 cs17 d18 cs19 d20 y21, Mm.ext w.heap.size noX M6 M15 ∧ St w noX M15 [.box b12 cs17 48, .box b4 cs19 48] w' ∧ rep M15 cs17 d18 ∧ rep M15 cs19 d20 ∧ T' 0 = .int .i64 x1 ∧ T' 4 = .pointer (some ⟨b4, 0, none⟩) ∧ T' 6 = .pointer (some ⟨b12, 0, none⟩) ∧ T' 18 = vx2 ∧ T' 19 = .int .i64 (x2.length : Int) ∧ T' 20 = .int .i64 y21 ∧ replayLog_l1 fu x1 x2 k23 d18 d20 y21 = some r) fu ?_ ?_ ?_
 exact ⟨M6, (Zr.zc GNode), (Zr.zd : GNode), cs8, d9, (0 : Int), (Mm.ext.refl _ _ _), hS, zb12, hb8, hT7_0, hT7_4, rfl, rfl, rfl, rfl, hz⟩
 rintro T' w' ⟨_, _, _, _, _, _, _, _, _, _, _, _, _, _, _, _, hz⟩
 rw [replayLog_l1] at hz
 cases hz
 intro k23
 rintro T16 w14 ⟨M15, cs17, d18, cs19, d20, y21, hx25, hS, hb17, hb19, hT16_0, hT16_4, hT16_6, hT16_18, hT16_19, hT16_20, hz⟩
 replace hvx2 := repL.mono hx25.1 hvx2
 replace hE := Mm.ext.trans hE hx25
 have hF24 := hx25
 rw [replayLog_l1] at hz
 obtain ⟨rec22, hrec22⟩ : ∃ f, f = replayLog_l1 fu x1 x2 k23 := ⟨_, rfl⟩
 rw [← hrec22] at hz
 refine W_seq <|W_reg <|WL_y (Y_lss hT16_20 hT16_19) ?_
 refine WL_nil (nm_then ?_)
 refine W_seq ?_
 refine W_cond rfl (fun hc26 => ?_) (fun hc26 => ?_)
 replace hz := bif_ok_t hz hc26
 refine W_skip (nm_then ?_)
 refine W_seqJ (fun T' w' => ∃ M28 cs30 d31 cs32 d33, Mm.ext w.heap.size noX M15 M28 ∧ St w noX M28 [.box b12 cs30 48, .box b4 cs32 48] w' ∧ rep M28 cs30 d31 ∧ rep M28 cs32 d33 ∧ T' 0 = .int .i64 x1 ∧ T' 4 = .pointer (some ⟨b4, 0, none⟩) ∧ T' 6 = .pointer (some ⟨b12, 0, none⟩) ∧ T' 18 = vx2 ∧ T' 19 = .int .i64 (x2.length : Int) ∧ T' 20 = .int .i64 y21 ∧ replayLog_j2 y21 rec22 d31 d33 = some r) ?_ ?_
 have hF35 := Mm.ext.refl w.heap.size noX M15
 refine W_block <|W_seq <|W_reg ?_
 obtain ⟨x37, hx36, hz⟩ := bind_ok hz
 obtain ⟨b36, o36, c36, p36, hv36, hi36, hj36, hM36, hr36⟩ := repL_at hvx2 hx36
 replace hr36 : rep _ (sl p36 (o36 + Int.toNat y21 * 1) 1) x37 := hr36
 refine WL_y (Y_ixL il69 hT16_18 hv36 hT16_20 hi36 hj36) <|WL_y (Y_ld1 (.string x37) ts9 rfl (hS.bvM hM36) hr36.1) <|WL_y (Y_assign (.string x37) rfl) ?_
 refine WL_nil (nm_then ?_)
 refine W_seq <|W_reg <|WL_y (Y_move (.string x37) rfl) ?_
 obtain ⟨r40, hr39, hz⟩ := bind_ok hz
 refine WL_c (O_mem (vs := [.string x37]) (rv := (fun M' u => ∃ c0, u = .tuple #[.agg c0.toArray, .int .i64 r40.2] ∧ rep M' c0 r40.1)) cb69 (args1 rfl) hS (decodeFrame_ok hS.agree hr39) ?_)
 intro u39 M39 w38 hx39 hu39 hS
 obtain ⟨c39_0, hq39, f39_0⟩ := hu39
 subst hq39
 replace hvx2 := repL.mono hx39.1 hvx2
 replace hb17 := Rep.mono hx39.1 hb17
 replace hb19 := Rep.mono hx39.1 hb19
 replace hE := Mm.ext.trans hE hx39
 replace hF24 := Mm.ext.trans hF24 hx39
 replace hF35 := Mm.ext.trans hF35 hx39
 refine WL_y (Y_move (.tuple #[.agg c39_0.toArray, .int .i64 r40.2]) rfl) <|WL_y (Y_extract (v := .agg c39_0.toArray) rfl rfl) <|WL_y (Y_extract (v := .int .i64 r40.2) rfl rfl) ?_
 refine WL_c (O_alloc tz38 hS ?_)
 intro b42 w41 hb42 hS
 have zb42 : rep M39 (Zr.zc GFrame) (Zr.zd : GFrame) := Zr.zr
 obtain ⟨d45, hd44, hz⟩ := bind_ok hz
 refine WL_c (O_sx 0 7 hS rfl zb42 rfl rfl f39_0 rfl rfl (Lf (rr zb42) f39_0) hd44 ?_)
 intro cs44 w43 hb44 ha44 hs44 hS
 refine WL_y (Y_assign (.int .i64 r40.2) rfl) ?_
 refine WL_nil (nm_then ?_)
 refine W_seqJ (fun T' w' => ∃ M47 cs49 d50 y51, Mm.ext w.heap.size noX M39 M47 ∧ St w noX M47 [.box b42 cs44 38, .box b12 cs49 48, .box b4 cs19 48] w' ∧ rep M47 cs49 d50 ∧ T' 0 = .int .i64 x1 ∧ T' 4 = .pointer (some ⟨b4, 0, none⟩) ∧ T' 6 = .pointer (some ⟨b12, 0, none⟩) ∧ T' 10 = .int .i64 y51 ∧ T' 18 = vx2 ∧ T' 19 = .int .i64 (x2.length : Int) ∧ T' 20 = .int .i64 y21 ∧ replayLog_j3 d20 y21 rec22 d50 y51 = some r) ?_ ?_
 have hF59 := Mm.ext.refl w.heap.size noX M39
 refine W_seq <|W_reg <|WL_y (Y_move (.int .i64 r40.2) rfl) <|WL_y (Y_eql rfl rfl) ?_
 refine WL_nil (nm_then ?_)
 refine W_cond rfl (fun hc60 => ?_) (fun hc60 => ?_)
 replace hz := bif_ok_t hz hc60
 refine W_reg ?_
 have ha61 := (rr hb17)
 refine WL_y (Y_ldn ta48 hT16_6 (hS.bvB 1 rfl) (Rep.len ha61)) <|WL_y (Y_move (.int .i64 x1) hT16_0) ?_
 have ha62 := (rr hb44)
 refine WL_y (Y_ldn ta38 rfl (hS.bvB 0 rfl) (Rep.len ha62)) ?_
 obtain ⟨r65, hr64, hz⟩ := bind_ok hz
 refine WL_c (O_mem (vs := [.agg (sl cs17 (0) 201).toArray, .int .i64 x1, .agg (sl cs44 (0) 7).toArray]) (rv := (fun M' u => ∃ c0 v1, u = .tuple #[.agg c0.toArray, v1, .int .i64 r65.2.2] ∧ rep M' c0 r65.1 ∧ repL M' v1 r65.2.1)) cb18 (args3 rfl rfl rfl) hS (takeFrame_ok hS.agree ha61 ha62 hr64) ?_)
 intro u64 M64 w63 hx64 hu64 hS
 obtain ⟨c64_0, v64_1, hq64, f64_0, f64_1⟩ := hu64
 subst hq64
 replace hvx2 := repL.mono hx64.1 hvx2
 replace hb17 := Rep.mono hx64.1 hb17
 replace hb19 := Rep.mono hx64.1 hb19
 replace hb44 := Rep.mono hx64.1 hb44
 replace ha61 := Rep.mono hx64.1 ha61
 replace ha62 := Rep.mono hx64.1 ha62
 replace hE := Mm.ext.trans hE hx64
 replace hF24 := Mm.ext.trans hF24 hx64
 replace hF35 := Mm.ext.trans hF35 hx64
 replace hF59 := Mm.ext.trans hF59 hx64
 refine WL_y (Y_move (.tuple #[.agg c64_0.toArray, v64_1, .int .i64 r65.2.2]) rfl) <|WL_y (Y_extract (v := .agg c64_0.toArray) rfl rfl) <|WL_y (Y_extract (v := v64_1) rfl rfl) <|WL_y (Y_extract (v := .int .i64 r65.2.2) rfl rfl) ?_
 obtain ⟨d68, hd67, hz⟩ := bind_ok hz
 refine WL_c (O_sx 1 201 hS rfl hb17 hT16_6 rfl f64_0 rfl rfl (Lf (rr hb17) f64_0) hd67 ?_)
 intro cs67 w66 hb67 ha67 hs67 hS
 refine WL_y (Y_assign (.int .i64 r65.2.2) rfl) ?_
 refine WL_nil (nm_then ?_)
 exact ⟨M64, cs67, d68, r65.2.2, hF59, hS, hb67, hT16_0, hT16_4, hT16_6, rfl, hT16_18, hT16_19, hT16_20, hz⟩
 replace hz := bif_ok_f hz hc60
 refine W_skip (nm_then ?_)
 exact ⟨M39, cs17, d18, r40.2, hF59, hS, hb17, hT16_0, hT16_4, hT16_6, rfl, hT16_18, hT16_19, hT16_20, hz⟩
 rintro T48 w46 ⟨M47, cs49, d50, y51, hx52, hS, hb49, hT48_0, hT48_4, hT48_6, hT48_10, hT48_18, hT48_19, hT48_20, hz⟩
 replace hvx2 := repL.mono hx52.1 hvx2
 replace hb19 := Rep.mono hx52.1 hb19
 replace hb44 := Rep.mono hx52.1 hb44
 replace hE := Mm.ext.trans hE hx52
 replace hF24 := Mm.ext.trans hF24 hx52
 replace hF35 := Mm.ext.trans hF35 hx52
 rw [replayLog_j3] at hz
 refine W_seq <|W_reg <|WL_y (Y_move (.int .i64 y51) hT48_10) <|WL_y (Y_neq rfl rfl) ?_
 refine WL_nil (nm_then ?_)
 refine W_cond rfl (fun hc53 => ?_) (fun hc53 => ?_)
 replace hz := bif_ok_t hz hc53
 refine W_seq <|W_reg ?_
 obtain ⟨d55, hd54, hz⟩ := bind_ok hz
 obtain ⟨cs54, hf54, ha54⟩ : ∃ cs, fillZ (([(0, 192), (192, 1), (193, 8)] : List (Nat × Nat))[·]?) (Zr.zc GNode) [] = some cs ∧ rep M47 cs d55 := ⟨_, fz_nil, rep_eq (x := ({ entries := Zr.zd, order := Zr.zd, values := Zr.zd } : GNode)) (Zr.zr : rep M47 (Zr.zc GNode) (Zr.zd : GNode)) hd54⟩
 refine WL_y (Y_build [] tb48 bp0 hf54) <|WL_y (Y_move (.int .i64 y51) hT48_10) ?_
 obtain ⟨d58, hd57, hz⟩ := bind_ok hz
 refine WL_c (O_sx 2 201 hS rfl hb19 hT48_4 rfl ha54 rfl rfl (Lf (rr hb19) ha54) hd57 ?_)
 intro cs57 w56 hb57 ha57 hs57 hS
 refine WL_y (Y_assign (.int .i64 y51) rfl) ?_
 refine WL_nil (nm_then ?_)
 cases hz
 exact W_ret (rt_blk (rt_then (rt_then (rt_blk (rt_then (R_ct (j := 2) rfl hT48_4 rfl (by rw [Rep.len hb57]; exact ta48) hS rfl (Gives.mk (St.dropB (St.dropB (St.dropB hS hb42) hb12) hb4) hE ⟨_, rfl, hb57⟩)))))))
 replace hz := bif_ok_f hz hc53
 refine W_skip (nm_blk ?_)
 refine (nm_then ?_)
 exact ⟨M47, cs49, d50, cs19, d20, hF35, (St.dropB hS hb42), hb49, hb19, hT48_0, hT48_4, hT48_6, hT48_18, hT48_19, hT48_20, hz⟩
 rintro T29 w27 ⟨M28, cs30, d31, cs32, d33, hx34, hS, hb30, hb32, hT29_0, hT29_4, hT29_6, hT29_18, hT29_19, hT29_20, hz⟩
 replace hvx2 := repL.mono hx34.1 hvx2
 replace hE := Mm.ext.trans hE hx34
 replace hF24 := Mm.ext.trans hF24 hx34
 rw [replayLog_j2] at hz
 refine W_reg <|WL_y (Y_add hT29_20 rfl) <|WL_y (Y_move (.int .i64 (IntKind.wrap .i64 (y21 + 1))) rfl) ?_
 refine WL_nil (nm_then ?_)
 exact ⟨M28, cs30, d31, cs32, d33, (IntKind.wrap .i64 (y21 + 1)), hF24, hS, hb30, hb32, hT29_0, hT29_4, hT29_6, hT29_18, hT29_19, rfl, (by rw [← hrec22]; exact hz)⟩
 replace hz := bif_ok_f hz hc26
 refine W_exit <|ex_then <|ex_then <|ex_hit ?_
 refine (nm_then ?_)
 refine W_seq <|W_reg ?_
 have ha69 := (rr hb17)
 refine WL_y (Y_ldn ta48 hT16_6 (hS.bvB 0 rfl) (Rep.len ha69)) ?_
 obtain ⟨d72, hd71, hz⟩ := bind_ok hz
 refine WL_c (O_sx 1 201 hS rfl hb19 hT16_4 rfl ha69 rfl rfl (Lf (rr hb19) ha69) hd71 ?_)
 intro cs71 w70 hb71 ha71 hs71 hS
 refine WL_y (Y_assign (.int .i64 0) rfl) ?_
 refine WL_nil (nm_then ?_)
 cases hz
 exact W_ret (R_ct (j := 1) rfl hT16_4 rfl (by rw [Rep.len hb71]; exact ta48) hS rfl (Gives.mk (St.dropB (St.dropB hS hb12) hb4) hE ⟨_, rfl, hb71⟩))
def nodeReplays_j2 (y37 : Int) (rec38 : Int → Option Bool) : Option Bool :=
 rec38 (IntKind.wrap .i64 (y37 + 1))
def nodeReplays_j3 (y37 : Int) (rec38 : Int → Option Bool) (c51 : Bool) : Option Bool :=
 (bif c51 then
 some false
 else
 nodeReplays_j2 y37 rec38)
def nodeReplays_j4 (c84 : Bool) : Option Bool :=
 some c84
def nodeReplays_l1 (fu : Nat) (r12 : GNode × Int) (d17 : GNode) (r20 : GNode × Int) (d25 : GNode) (d30 : GGraph) (d32 : GGraph) : Nat → Int → Option Bool
 | 0, _ => none
 | n + 1, y37 =>
 (bif decide (y37 < 32) then
 (inR y37 32).bind fun _ =>
 (idxV d30.known y37).bind fun x60 =>
 (inR y37 32).bind fun _ =>
 (idxV d32.known y37).bind fun x64 =>
 (bif !(x60 == x64) then
 nodeReplays_j3 y37 (nodeReplays_l1 fu r12 d17 r20 d25 d30 d32 n) true
 else
 (inR y37 32).bind fun _ =>
 (idxV d30.deps y37).bind fun x69 =>
 (inR y37 32).bind fun _ =>
 (idxV d32.deps y37).bind fun x74 =>
 (some (sameZ x69 x74)).bind fun r79 =>
 nodeReplays_j3 y37 (nodeReplays_l1 fu r12 d17 r20 d25 d30 d32 n) (!r79))
 else
 (sameNodeD fu d17 d25).bind fun r91 =>
 (bif r91 then
 (bif r12.2 == r20.2 then
 (lawTakesD fu).bind fun r96 =>
 nodeReplays_j4 r96
 else
 nodeReplays_j4 false)
 else
 nodeReplays_j4 false))
def nodeReplays_j1 (fu : Nat) (r12 : GNode × Int) (d17 : GNode) (r20 : GNode × Int) (d25 : GNode) (d30 : GGraph) (d32 : GGraph) : Option Bool :=
 nodeReplays_l1 fu r12 d17 r20 d25 d30 d32 fu 0
def nodeReplaysD (fu : Nat) (x1 : Int) (x2 : List ByteArray) (x3 : GNode) : Option Bool :=
 (app ([] : List ByteArray) x2).bind fun l9 =>
 (nodeReplayD fu x1 l9).bind fun r12 =>
 (some r12.1).bind fun d17 =>
 (replayLogD fu x1 x2).bind fun r20 =>
 (some r20.1).bind fun d25 =>
 (nodeGraphD fu x3).bind fun r105 =>
 (graphOfXD fu x3).bind fun r108 =>
 (some r105).bind fun d115 =>
 (some r108).bind fun d118 =>
 nodeReplays_j1 fu r12 d17 r20 d25 d115 d118
set_option maxRecDepth 100000 in
set_option maxHeartbeats 4000000 in
theorem nodeReplays_ok {M : Mm} {w : World} {vx2 : Value} {cx3 : List Value} {x1 : Int} {x2 : List ByteArray} {x3 : GNode} {fu : Nat} {r : Bool} (hA : Agree M w) (hvx2 : repL M vx2 x2) (hcx3 : rep M cx3 x3) (hz : nodeReplaysD fu x1 x2 x3 = some r) :
    Calls Try.prog 8 #[.int .i64 x1, vx2, .agg cx3.toArray] w (GivesV w (.bool r)) := by
 refine calls_W Try.func8 rfl 67 rfl rfl (by kernel_rfl) fun T hT => ?_
 have hT_0 : T 0 = .int .i64 x1 := hT 0
 have hT_1 : T 1 = vx2 := hT 1
 have hT_2 : T 2 = .agg cx3.toArray := hT 2
 clear hT
 have hE := Mm.ext.refl w.heap.size noX M
 have hS : St w noX M [] w := St.start hA
 rw [nodeReplaysD] at hz
 refine W_seq <|W_reg ?_
 refine WL_c (O_box (v := .agg cx3.toArray) (cs := cx3) hT_2 rfl hS ?_)
 intro b5 w4 hb5 hS
 refine WL_y (Y_assign (.bool false) rfl) ?_
 refine WL_nil (nm_then ?_)
 refine W_seq <|W_reg <|WL_y (Y_move (.int .i64 x1) hT_0) <|WL_y (Y_move (vx2) hT_1) ?_
 replace hS := hS.nilRow 9 1
 obtain ⟨l9, hr8, hz⟩ := bind_ok hz
 obtain ⟨hy8, hs8⟩ := app_some hr8
 refine WL_c (O_app (α := ByteArray) (j := 0) tp69 hS rfl rfl rfl (repL_nil _) hvx2 hy8 ?_)
 intro v8 M8 w6 hx8 hv8 hS
 rw [← hs8] at hv8
 clear hr8 hs8
 replace hvx2 := repL.mono hx8.1 hvx2
 replace hcx3 := Rep.mono hx8.1 hcx3
 replace hE := Mm.ext.trans hE hx8
 obtain ⟨r12, hr11, hz⟩ := bind_ok hz
 refine WL_c (O_mem (vs := [.int .i64 x1, v8]) (rv := (fun M' u => ∃ c0, u = .tuple #[.agg c0.toArray, .int .i64 r12.2] ∧ rep M' c0 r12.1)) cb33 (args2 rfl rfl) hS (nodeReplay_ok hS.agree hv8 hr11) ?_)
 intro u11 M11 w10 hx11 hu11 hS
 obtain ⟨c11_0, hq11, f11_0⟩ := hu11
 subst hq11
 replace hvx2 := repL.mono hx11.1 hvx2
 replace hcx3 := Rep.mono hx11.1 hcx3
 replace hv8 := repL.mono hx11.1 hv8
 replace hE := Mm.ext.trans hE hx11
 refine WL_y (Y_move (.tuple #[.agg c11_0.toArray, .int .i64 r12.2]) rfl) <|WL_y (Y_extract (v := .agg c11_0.toArray) rfl rfl) <|WL_y (Y_extract (v := .int .i64 r12.2) rfl rfl) ?_
 refine WL_c (O_alloc tz48 hS ?_)
 intro b14 w13 hb14 hS
 have zb14 : rep M11 (Zr.zc GNode) (Zr.zd : GNode) := Zr.zr
 obtain ⟨d17, hd16, hz⟩ := bind_ok hz
 refine WL_c (O_sx 0 201 hS rfl zb14 rfl rfl f11_0 rfl rfl (Lf (rr zb14) f11_0) hd16 ?_)
 intro cs16 w15 hb16 ha16 hs16 hS
 refine WL_y (Y_assign (.int .i64 r12.2) rfl) ?_
 refine WL_nil (nm_then ?_)
 refine W_seq <|W_reg <|WL_y (Y_move (.int .i64 x1) hT_0) <|WL_y (Y_move (vx2) hT_1) ?_
 obtain ⟨r20, hr19, hz⟩ := bind_ok hz
 refine WL_c (O_mem (vs := [.int .i64 x1, vx2]) (rv := (fun M' u => ∃ c0, u = .tuple #[.agg c0.toArray, .int .i64 r20.2] ∧ rep M' c0 r20.1)) cb34 (args2 rfl rfl) hS (replayLog_ok hS.agree hvx2 hr19) ?_)
 intro u19 M19 w18 hx19 hu19 hS
 obtain ⟨c19_0, hq19, f19_0⟩ := hu19
 subst hq19
 replace hvx2 := repL.mono hx19.1 hvx2
 replace hcx3 := Rep.mono hx19.1 hcx3
 replace hb16 := Rep.mono hx19.1 hb16
 replace hE := Mm.ext.trans hE hx19
 refine WL_y (Y_move (.tuple #[.agg c19_0.toArray, .int .i64 r20.2]) rfl) <|WL_y (Y_extract (v := .agg c19_0.toArray) rfl rfl) <|WL_y (Y_extract (v := .int .i64 r20.2) rfl rfl) ?_
 refine WL_c (O_alloc tz48 hS ?_)
 intro b22 w21 hb22 hS
 have zb22 : rep M19 (Zr.zc GNode) (Zr.zd : GNode) := Zr.zr
 obtain ⟨d25, hd24, hz⟩ := bind_ok hz
 refine WL_c (O_sx 0 201 hS rfl zb22 rfl rfl f19_0 rfl rfl (Lf (rr zb22) f19_0) hd24 ?_)
 intro cs24 w23 hb24 ha24 hs24 hS
 refine WL_y (Y_assign (.int .i64 r20.2) rfl) ?_
 refine WL_nil (nm_then ?_)
 refine W_seqJ (fun T' w' => ∃ M27 b29 cs29 d30 b31 cs31 d32, Mm.ext w.heap.size noX M19 M27 ∧ St w noX M27 [.box b31 cs31 64, .box b29 cs29 64, .box b22 cs24 48, .box b14 cs16 48, .row v8 9 1, .box b5 cx3 48] w' ∧ rep M27 cs29 d30 ∧ w.heap.size ≤ b29 ∧ rep M27 cs31 d32 ∧ w.heap.size ≤ b31 ∧ T' 11 = .pointer (some ⟨b29, 0, none⟩) ∧ T' 12 = .pointer (some ⟨b31, 0, none⟩) ∧ T' 7 = .pointer (some ⟨b14, 0, none⟩) ∧ T' 8 = .int .i64 r12.2 ∧ T' 9 = .pointer (some ⟨b22, 0, none⟩) ∧ T' 10 = .int .i64 r20.2 ∧ nodeReplays_j1 fu r12 d17 r20 d25 d30 d32 = some r) ?_ ?_
 have hF97 := Mm.ext.refl w.heap.size noX M19
 refine W_drawB (Rd M19 [.box b5 cx3 48]) (inL []) mixed hS fun w98 hS => ?_
 have hG99 := Mm.ext.refl w.heap.size noX M19
 have hR100 : Rd M19 [.box b5 cx3 48] w98 := Rd.of hS hG99 (by simp)
 have ha101 := (rr hcx3)
 refine WB_ld (i := 0) rfl (by kernel_rfl) rfl (inL_lt rfl) (by kernel_rfl) (by kernel_rfl) (Y_ldn ta48 rfl (bvR 0 rfl) (Rep.len ha101)) hR100 ?_
 have ha102 := (rr hcx3)
 refine WB_ld (i := 2) rfl (by kernel_rfl) rfl (inL_lt rfl) (by kernel_rfl) (by kernel_rfl) (Y_ldn ta48 rfl (bvR 0 rfl) (Rep.len ha102)) hR100 ?_
 obtain ⟨r105, hr104, hz⟩ := bind_ok hz
 obtain ⟨r108, hr107, hz⟩ := bind_ok hz
 obtain ⟨d115, hd114, hz⟩ := bind_ok hz
 obtain ⟨d118, hd117, hz⟩ := bind_ok hz
 refine WB_three (i := 1) (j := 4) (k := 5) (by kernel_rfl) rfl rfl rfl (O_mem (vs := [.agg (sl cx3 (0) 201).toArray]) (rv := (fun M' u => ∃ cs, u = .agg cs.toArray ∧ rep M' cs r105)) cb31 (args1 rfl) hS (nodeGraph_ok hS.agree ha101 hr104) ?_) (O_alloc tz64 hS ?_) (O_alloc tz64 hS ?_)
 intro u104 M104 w103 hx104 hu104 hS
 obtain ⟨c104, hq104, f104⟩ := hu104
 subst hq104
 replace hcx3 := Rep.mono hx104.1 hcx3
 replace hb16 := Rep.mono hx104.1 hb16
 replace hb24 := Rep.mono hx104.1 hb24
 replace ha101 := Rep.mono hx104.1 ha101
 replace ha102 := Rep.mono hx104.1 ha102
 replace hE := Mm.ext.trans hE hx104
 replace hF97 := Mm.ext.trans hF97 hx104
 replace hG99 := Mm.ext.trans hG99 hx104
 have hR119 : Rd M19 [.box b5 cx3 48] w103 := Rd.of hS hG99 (by simp)
 refine ⟨fun _ => hR119, ?_⟩
 refine WB_three (i := 3) (j := 4) (k := 5) (by kernel_rfl) rfl rfl rfl (O_mem (vs := [.agg (sl cx3 (0) 201).toArray]) (rv := (fun M' u => ∃ cs, u = .agg cs.toArray ∧ rep M' cs r108)) cb35 (args1 rfl) hS (graphOfX_ok hS.agree ha102 hr107) ?_) (O_alloc tz64 hS ?_) (O_alloc tz64 hS ?_)
 intro u107 M107 w106 hx107 hu107 hS
 obtain ⟨c107, hq107, f107⟩ := hu107
 subst hq107
 replace hcx3 := Rep.mono hx107.1 hcx3
 replace hb16 := Rep.mono hx107.1 hb16
 replace hb24 := Rep.mono hx107.1 hb24
 replace ha101 := Rep.mono hx107.1 ha101
 replace ha102 := Rep.mono hx107.1 ha102
 replace f104 := Rep.mono hx107.1 f104
 replace hE := Mm.ext.trans hE hx107
 replace hF97 := Mm.ext.trans hF97 hx107
 replace hG99 := Mm.ext.trans hG99 hx107
 have hR120 : Rd M19 [.box b5 cx3 48] w106 := Rd.of hS hG99 (by simp)
 refine ⟨fun _ => hR120, ?_⟩
 refine WB_two (i := 4) (j := 5) (by kernel_rfl) rfl rfl (O_alloc tz64 hS ?_) (O_alloc tz64 hS ?_)
 intro b110 w109 hb110 hS
 have zb110 : rep M107 (Zr.zc GGraph) (Zr.zd : GGraph) := Zr.zr
 have hR121 : Rd M19 [.box b5 cx3 48] w109 := Rd.of hS hG99 (by simp)
 refine ⟨fun _ => hR121, ?_⟩
 refine WB_one (i := 5) (by kernel_rfl) rfl (O_alloc tz64 hS ?_)
 intro b112 w111 hb112 hS
 have zb112 : rep M107 (Zr.zc GGraph) (Zr.zd : GGraph) := Zr.zr
 have hR122 : Rd M19 [.box b5 cx3 48] w111 := Rd.of hS hG99 (by simp)
 refine ⟨fun _ => hR122, ?_⟩
 refine WB_one (i := 6) (by kernel_rfl) rfl (O_sx 1 64 hS rfl zb110 rfl rfl f104 rfl rfl (Lf (rr zb110) f104) hd114 ?_)
 intro cs114 w113 hb114 ha114 hs114 hS
 have hR123 : Rd M19 [.box b5 cx3 48] w113 := Rd.of hS hG99 (by simp)
 refine ⟨fun _ => hR123, ?_⟩
 refine WB_one (i := 7) (by kernel_rfl) rfl (O_sx 0 64 hS rfl zb112 rfl rfl f107 rfl rfl (Lf (rr zb112) f107) hd117 ?_)
 intro cs117 w116 hb117 ha117 hs117 hS
 have hR124 : Rd M19 [.box b5 cx3 48] w116 := Rd.of hS hG99 (by simp)
 refine ⟨fun _ => hR124, ?_⟩
 refine WB_done (by kernel_rfl) (nm_then ?_)
 exact ⟨M107, b110, cs114, d115, b112, cs117, d118, hF97, hS, hb114, hb110, hb117, hb112, rfl, rfl, rfl, rfl, rfl, rfl, hz⟩
 intro b112 w111 hb112 hS
 have zb112 : rep M107 (Zr.zc GGraph) (Zr.zd : GGraph) := Zr.zr
 have hR125 : Rd M19 [.box b5 cx3 48] w111 := Rd.of hS hG99 (by simp)
 refine ⟨fun _ => hR125, ?_⟩
 refine WB_one (i := 4) (by kernel_rfl) rfl (O_alloc tz64 hS ?_)
 intro b110 w109 hb110 hS
 have zb110 : rep M107 (Zr.zc GGraph) (Zr.zd : GGraph) := Zr.zr
 have hR126 : Rd M19 [.box b5 cx3 48] w109 := Rd.of hS hG99 (by simp)
 refine ⟨fun _ => hR126, ?_⟩
 refine WB_one (i := 6) (by kernel_rfl) rfl (O_sx 0 64 hS rfl zb110 rfl rfl f104 rfl rfl (Lf (rr zb110) f104) hd114 ?_)
 intro cs114 w113 hb114 ha114 hs114 hS
 have hR127 : Rd M19 [.box b5 cx3 48] w113 := Rd.of hS hG99 (by simp)
 refine ⟨fun _ => hR127, ?_⟩
 refine WB_one (i := 7) (by kernel_rfl) rfl (O_sx 1 64 hS rfl zb112 rfl rfl f107 rfl rfl (Lf (rr zb112) f107) hd117 ?_)
 intro cs117 w116 hb117 ha117 hs117 hS
 have hR128 : Rd M19 [.box b5 cx3 48] w116 := Rd.of hS hG99 (by simp)
 refine ⟨fun _ => hR128, ?_⟩
 refine WB_done (by kernel_rfl) (nm_then ?_)
 exact ⟨M107, b110, cs114, d115, b112, cs117, d118, hF97, (hS.sel (H' := [.box b112 cs117 64, .box b110 cs114 64, .box b22 cs24 48, .box b14 cs16 48, .row v8 9 1, .box b5 cx3 48]) [1, 0, 2, 3, 4, 5] (by decide) rfl), hb114, hb110, hb117, hb112, rfl, rfl, rfl, rfl, rfl, rfl, hz⟩
 intro b110 w109 hb110 hS
 have zb110 : rep M104 (Zr.zc GGraph) (Zr.zd : GGraph) := Zr.zr
 have hR129 : Rd M19 [.box b5 cx3 48] w109 := Rd.of hS hG99 (by simp)
 refine ⟨fun _ => hR129, ?_⟩
 refine WB_two (i := 3) (j := 5) (by kernel_rfl) rfl rfl (O_mem (vs := [.agg (sl cx3 (0) 201).toArray]) (rv := (fun M' u => ∃ cs, u = .agg cs.toArray ∧ rep M' cs r108)) cb35 (args1 rfl) hS (graphOfX_ok hS.agree ha102 hr107) ?_) (O_alloc tz64 hS ?_)
 intro u107 M107 w106 hx107 hu107 hS
 obtain ⟨c107, hq107, f107⟩ := hu107
 subst hq107
 replace hcx3 := Rep.mono hx107.1 hcx3
 replace hb16 := Rep.mono hx107.1 hb16
 replace hb24 := Rep.mono hx107.1 hb24
 replace ha101 := Rep.mono hx107.1 ha101
 replace ha102 := Rep.mono hx107.1 ha102
 replace f104 := Rep.mono hx107.1 f104
 replace zb110 := Rep.mono hx107.1 zb110
 replace hE := Mm.ext.trans hE hx107
 replace hF97 := Mm.ext.trans hF97 hx107
 replace hG99 := Mm.ext.trans hG99 hx107
 have hR130 : Rd M19 [.box b5 cx3 48] w106 := Rd.of hS hG99 (by simp)
 refine ⟨fun _ => hR130, ?_⟩
 refine WB_one (i := 5) (by kernel_rfl) rfl (O_alloc tz64 hS ?_)
 intro b112 w111 hb112 hS
 have zb112 : rep M107 (Zr.zc GGraph) (Zr.zd : GGraph) := Zr.zr
 have hR131 : Rd M19 [.box b5 cx3 48] w111 := Rd.of hS hG99 (by simp)
 refine ⟨fun _ => hR131, ?_⟩
 refine WB_one (i := 6) (by kernel_rfl) rfl (O_sx 1 64 hS rfl zb110 rfl rfl f104 rfl rfl (Lf (rr zb110) f104) hd114 ?_)
 intro cs114 w113 hb114 ha114 hs114 hS
 have hR132 : Rd M19 [.box b5 cx3 48] w113 := Rd.of hS hG99 (by simp)
 refine ⟨fun _ => hR132, ?_⟩
 refine WB_one (i := 7) (by kernel_rfl) rfl (O_sx 0 64 hS rfl zb112 rfl rfl f107 rfl rfl (Lf (rr zb112) f107) hd117 ?_)
 intro cs117 w116 hb117 ha117 hs117 hS
 have hR133 : Rd M19 [.box b5 cx3 48] w116 := Rd.of hS hG99 (by simp)
 refine ⟨fun _ => hR133, ?_⟩
 refine WB_done (by kernel_rfl) (nm_then ?_)
 exact ⟨M107, b110, cs114, d115, b112, cs117, d118, hF97, hS, hb114, hb110, hb117, hb112, rfl, rfl, rfl, rfl, rfl, rfl, hz⟩
 intro b112 w111 hb112 hS
 have zb112 : rep M104 (Zr.zc GGraph) (Zr.zd : GGraph) := Zr.zr
 have hR134 : Rd M19 [.box b5 cx3 48] w111 := Rd.of hS hG99 (by simp)
 refine ⟨fun _ => hR134, ?_⟩
 refine WB_one (i := 3) (by kernel_rfl) rfl (O_mem (vs := [.agg (sl cx3 (0) 201).toArray]) (rv := (fun M' u => ∃ cs, u = .agg cs.toArray ∧ rep M' cs r108)) cb35 (args1 rfl) hS (graphOfX_ok hS.agree ha102 hr107) ?_)
 intro u107 M107 w106 hx107 hu107 hS
 obtain ⟨c107, hq107, f107⟩ := hu107
 subst hq107
 replace hcx3 := Rep.mono hx107.1 hcx3
 replace hb16 := Rep.mono hx107.1 hb16
 replace hb24 := Rep.mono hx107.1 hb24
 replace ha101 := Rep.mono hx107.1 ha101
 replace ha102 := Rep.mono hx107.1 ha102
 replace f104 := Rep.mono hx107.1 f104
 replace zb110 := Rep.mono hx107.1 zb110
 replace zb112 := Rep.mono hx107.1 zb112
 replace hE := Mm.ext.trans hE hx107
 replace hF97 := Mm.ext.trans hF97 hx107
 replace hG99 := Mm.ext.trans hG99 hx107
 have hR135 : Rd M19 [.box b5 cx3 48] w106 := Rd.of hS hG99 (by simp)
 refine ⟨fun _ => hR135, ?_⟩
 refine WB_one (i := 6) (by kernel_rfl) rfl (O_sx 1 64 hS rfl zb110 rfl rfl f104 rfl rfl (Lf (rr zb110) f104) hd114 ?_)
 intro cs114 w113 hb114 ha114 hs114 hS
 have hR136 : Rd M19 [.box b5 cx3 48] w113 := Rd.of hS hG99 (by simp)
 refine ⟨fun _ => hR136, ?_⟩
 refine WB_one (i := 7) (by kernel_rfl) rfl (O_sx 0 64 hS rfl zb112 rfl rfl f107 rfl rfl (Lf (rr zb112) f107) hd117 ?_)
 intro cs117 w116 hb117 ha117 hs117 hS
 have hR137 : Rd M19 [.box b5 cx3 48] w116 := Rd.of hS hG99 (by simp)
 refine ⟨fun _ => hR137, ?_⟩
 refine WB_done (by kernel_rfl) (nm_then ?_)
 exact ⟨M107, b110, cs114, d115, b112, cs117, d118, hF97, hS, hb114, hb110, hb117, hb112, rfl, rfl, rfl, rfl, rfl, rfl, hz⟩
 intro b112 w111 hb112 hS
 have zb112 : rep M104 (Zr.zc GGraph) (Zr.zd : GGraph) := Zr.zr
 have hR138 : Rd M19 [.box b5 cx3 48] w111 := Rd.of hS hG99 (by simp)
 refine ⟨fun _ => hR138, ?_⟩
 refine WB_two (i := 3) (j := 4) (by kernel_rfl) rfl rfl (O_mem (vs := [.agg (sl cx3 (0) 201).toArray]) (rv := (fun M' u => ∃ cs, u = .agg cs.toArray ∧ rep M' cs r108)) cb35 (args1 rfl) hS (graphOfX_ok hS.agree ha102 hr107) ?_) (O_alloc tz64 hS ?_)
 intro u107 M107 w106 hx107 hu107 hS
 obtain ⟨c107, hq107, f107⟩ := hu107
 subst hq107
 replace hcx3 := Rep.mono hx107.1 hcx3
 replace hb16 := Rep.mono hx107.1 hb16
 replace hb24 := Rep.mono hx107.1 hb24
 replace ha101 := Rep.mono hx107.1 ha101
 replace ha102 := Rep.mono hx107.1 ha102
 replace f104 := Rep.mono hx107.1 f104
 replace zb112 := Rep.mono hx107.1 zb112
 replace hE := Mm.ext.trans hE hx107
 replace hF97 := Mm.ext.trans hF97 hx107
 replace hG99 := Mm.ext.trans hG99 hx107
 have hR139 : Rd M19 [.box b5 cx3 48] w106 := Rd.of hS hG99 (by simp)
 refine ⟨fun _ => hR139, ?_⟩
 refine WB_one (i := 4) (by kernel_rfl) rfl (O_alloc tz64 hS ?_)
 intro b110 w109 hb110 hS
 have zb110 : rep M107 (Zr.zc GGraph) (Zr.zd : GGraph) := Zr.zr
 have hR140 : Rd M19 [.box b5 cx3 48] w109 := Rd.of hS hG99 (by simp)
 refine ⟨fun _ => hR140, ?_⟩
 refine WB_one (i := 6) (by kernel_rfl) rfl (O_sx 0 64 hS rfl zb110 rfl rfl f104 rfl rfl (Lf (rr zb110) f104) hd114 ?_)
 intro cs114 w113 hb114 ha114 hs114 hS
 have hR141 : Rd M19 [.box b5 cx3 48] w113 := Rd.of hS hG99 (by simp)
 refine ⟨fun _ => hR141, ?_⟩
 refine WB_one (i := 7) (by kernel_rfl) rfl (O_sx 1 64 hS rfl zb112 rfl rfl f107 rfl rfl (Lf (rr zb112) f107) hd117 ?_)
 intro cs117 w116 hb117 ha117 hs117 hS
 have hR142 : Rd M19 [.box b5 cx3 48] w116 := Rd.of hS hG99 (by simp)
 refine ⟨fun _ => hR142, ?_⟩
 refine WB_done (by kernel_rfl) (nm_then ?_)
 exact ⟨M107, b110, cs114, d115, b112, cs117, d118, hF97, (hS.sel (H' := [.box b112 cs117 64, .box b110 cs114 64, .box b22 cs24 48, .box b14 cs16 48, .row v8 9 1, .box b5 cx3 48]) [1, 0, 2, 3, 4, 5] (by decide) rfl), hb114, hb110, hb117, hb112, rfl, rfl, rfl, rfl, rfl, rfl, hz⟩
 intro b110 w109 hb110 hS
 have zb110 : rep M104 (Zr.zc GGraph) (Zr.zd : GGraph) := Zr.zr
 have hR143 : Rd M19 [.box b5 cx3 48] w109 := Rd.of hS hG99 (by simp)
 refine ⟨fun _ => hR143, ?_⟩
 refine WB_one (i := 3) (by kernel_rfl) rfl (O_mem (vs := [.agg (sl cx3 (0) 201).toArray]) (rv := (fun M' u => ∃ cs, u = .agg cs.toArray ∧ rep M' cs r108)) cb35 (args1 rfl) hS (graphOfX_ok hS.agree ha102 hr107) ?_)
 intro u107 M107 w106 hx107 hu107 hS
 obtain ⟨c107, hq107, f107⟩ := hu107
 subst hq107
 replace hcx3 := Rep.mono hx107.1 hcx3
 replace hb16 := Rep.mono hx107.1 hb16
 replace hb24 := Rep.mono hx107.1 hb24
 replace ha101 := Rep.mono hx107.1 ha101
 replace ha102 := Rep.mono hx107.1 ha102
 replace f104 := Rep.mono hx107.1 f104
 replace zb112 := Rep.mono hx107.1 zb112
 replace zb110 := Rep.mono hx107.1 zb110
 replace hE := Mm.ext.trans hE hx107
 replace hF97 := Mm.ext.trans hF97 hx107
 replace hG99 := Mm.ext.trans hG99 hx107
 have hR144 : Rd M19 [.box b5 cx3 48] w106 := Rd.of hS hG99 (by simp)
 refine ⟨fun _ => hR144, ?_⟩
 refine WB_one (i := 6) (by kernel_rfl) rfl (O_sx 0 64 hS rfl zb110 rfl rfl f104 rfl rfl (Lf (rr zb110) f104) hd114 ?_)
 intro cs114 w113 hb114 ha114 hs114 hS
 have hR145 : Rd M19 [.box b5 cx3 48] w113 := Rd.of hS hG99 (by simp)
 refine ⟨fun _ => hR145, ?_⟩
 refine WB_one (i := 7) (by kernel_rfl) rfl (O_sx 1 64 hS rfl zb112 rfl rfl f107 rfl rfl (Lf (rr zb112) f107) hd117 ?_)
 intro cs117 w116 hb117 ha117 hs117 hS
 have hR146 : Rd M19 [.box b5 cx3 48] w116 := Rd.of hS hG99 (by simp)
 refine ⟨fun _ => hR146, ?_⟩
 refine WB_done (by kernel_rfl) (nm_then ?_)
 exact ⟨M107, b110, cs114, d115, b112, cs117, d118, hF97, (hS.sel (H' := [.box b112 cs117 64, .box b110 cs114 64, .box b22 cs24 48, .box b14 cs16 48, .row v8 9 1, .box b5 cx3 48]) [1, 0, 2, 3, 4, 5] (by decide) rfl), hb114, hb110, hb117, hb112, rfl, rfl, rfl, rfl, rfl, rfl, hz⟩
 intro b110 w109 hb110 hS
 have zb110 : rep M19 (Zr.zc GGraph) (Zr.zd : GGraph) := Zr.zr
 have hR147 : Rd M19 [.box b5 cx3 48] w109 := Rd.of hS hG99 (by simp)
 refine ⟨fun _ => hR147, ?_⟩
 refine WB_two (i := 1) (j := 5) (by kernel_rfl) rfl rfl (O_mem (vs := [.agg (sl cx3 (0) 201).toArray]) (rv := (fun M' u => ∃ cs, u = .agg cs.toArray ∧ rep M' cs r105)) cb31 (args1 rfl) hS (nodeGraph_ok hS.agree ha101 hr104) ?_) (O_alloc tz64 hS ?_)
 intro u104 M104 w103 hx104 hu104 hS
 obtain ⟨c104, hq104, f104⟩ := hu104
 subst hq104
 replace hcx3 := Rep.mono hx104.1 hcx3
 replace hb16 := Rep.mono hx104.1 hb16
 replace hb24 := Rep.mono hx104.1 hb24
 replace ha101 := Rep.mono hx104.1 ha101
 replace ha102 := Rep.mono hx104.1 ha102
 replace zb110 := Rep.mono hx104.1 zb110
 replace hE := Mm.ext.trans hE hx104
 replace hF97 := Mm.ext.trans hF97 hx104
 replace hG99 := Mm.ext.trans hG99 hx104
 have hR148 : Rd M19 [.box b5 cx3 48] w103 := Rd.of hS hG99 (by simp)
 refine ⟨fun _ => hR148, ?_⟩
 refine WB_two (i := 3) (j := 5) (by kernel_rfl) rfl rfl (O_mem (vs := [.agg (sl cx3 (0) 201).toArray]) (rv := (fun M' u => ∃ cs, u = .agg cs.toArray ∧ rep M' cs r108)) cb35 (args1 rfl) hS (graphOfX_ok hS.agree ha102 hr107) ?_) (O_alloc tz64 hS ?_)
 intro u107 M107 w106 hx107 hu107 hS
 obtain ⟨c107, hq107, f107⟩ := hu107
 subst hq107
 replace hcx3 := Rep.mono hx107.1 hcx3
 replace hb16 := Rep.mono hx107.1 hb16
 replace hb24 := Rep.mono hx107.1 hb24
 replace ha101 := Rep.mono hx107.1 ha101
 replace ha102 := Rep.mono hx107.1 ha102
 replace zb110 := Rep.mono hx107.1 zb110
 replace f104 := Rep.mono hx107.1 f104
 replace hE := Mm.ext.trans hE hx107
 replace hF97 := Mm.ext.trans hF97 hx107
 replace hG99 := Mm.ext.trans hG99 hx107
 have hR149 : Rd M19 [.box b5 cx3 48] w106 := Rd.of hS hG99 (by simp)
 refine ⟨fun _ => hR149, ?_⟩
 refine WB_one (i := 5) (by kernel_rfl) rfl (O_alloc tz64 hS ?_)
 intro b112 w111 hb112 hS
 have zb112 : rep M107 (Zr.zc GGraph) (Zr.zd : GGraph) := Zr.zr
 have hR150 : Rd M19 [.box b5 cx3 48] w111 := Rd.of hS hG99 (by simp)
 refine ⟨fun _ => hR150, ?_⟩
 refine WB_one (i := 6) (by kernel_rfl) rfl (O_sx 1 64 hS rfl zb110 rfl rfl f104 rfl rfl (Lf (rr zb110) f104) hd114 ?_)
 intro cs114 w113 hb114 ha114 hs114 hS
 have hR151 : Rd M19 [.box b5 cx3 48] w113 := Rd.of hS hG99 (by simp)
 refine ⟨fun _ => hR151, ?_⟩
 refine WB_one (i := 7) (by kernel_rfl) rfl (O_sx 0 64 hS rfl zb112 rfl rfl f107 rfl rfl (Lf (rr zb112) f107) hd117 ?_)
 intro cs117 w116 hb117 ha117 hs117 hS
 have hR152 : Rd M19 [.box b5 cx3 48] w116 := Rd.of hS hG99 (by simp)
 refine ⟨fun _ => hR152, ?_⟩
 refine WB_done (by kernel_rfl) (nm_then ?_)
 exact ⟨M107, b110, cs114, d115, b112, cs117, d118, hF97, hS, hb114, hb110, hb117, hb112, rfl, rfl, rfl, rfl, rfl, rfl, hz⟩
 intro b112 w111 hb112 hS
 have zb112 : rep M104 (Zr.zc GGraph) (Zr.zd : GGraph) := Zr.zr
 have hR153 : Rd M19 [.box b5 cx3 48] w111 := Rd.of hS hG99 (by simp)
 refine ⟨fun _ => hR153, ?_⟩
 refine WB_one (i := 3) (by kernel_rfl) rfl (O_mem (vs := [.agg (sl cx3 (0) 201).toArray]) (rv := (fun M' u => ∃ cs, u = .agg cs.toArray ∧ rep M' cs r108)) cb35 (args1 rfl) hS (graphOfX_ok hS.agree ha102 hr107) ?_)
 intro u107 M107 w106 hx107 hu107 hS
 obtain ⟨c107, hq107, f107⟩ := hu107
 subst hq107
 replace hcx3 := Rep.mono hx107.1 hcx3
 replace hb16 := Rep.mono hx107.1 hb16
 replace hb24 := Rep.mono hx107.1 hb24
 replace ha101 := Rep.mono hx107.1 ha101
 replace ha102 := Rep.mono hx107.1 ha102
 replace zb110 := Rep.mono hx107.1 zb110
 replace f104 := Rep.mono hx107.1 f104
 replace zb112 := Rep.mono hx107.1 zb112
 replace hE := Mm.ext.trans hE hx107
 replace hF97 := Mm.ext.trans hF97 hx107
 replace hG99 := Mm.ext.trans hG99 hx107
 have hR154 : Rd M19 [.box b5 cx3 48] w106 := Rd.of hS hG99 (by simp)
 refine ⟨fun _ => hR154, ?_⟩
 refine WB_one (i := 6) (by kernel_rfl) rfl (O_sx 1 64 hS rfl zb110 rfl rfl f104 rfl rfl (Lf (rr zb110) f104) hd114 ?_)
 intro cs114 w113 hb114 ha114 hs114 hS
 have hR155 : Rd M19 [.box b5 cx3 48] w113 := Rd.of hS hG99 (by simp)
 refine ⟨fun _ => hR155, ?_⟩
 refine WB_one (i := 7) (by kernel_rfl) rfl (O_sx 0 64 hS rfl zb112 rfl rfl f107 rfl rfl (Lf (rr zb112) f107) hd117 ?_)
 intro cs117 w116 hb117 ha117 hs117 hS
 have hR156 : Rd M19 [.box b5 cx3 48] w116 := Rd.of hS hG99 (by simp)
 refine ⟨fun _ => hR156, ?_⟩
 refine WB_done (by kernel_rfl) (nm_then ?_)
 exact ⟨M107, b110, cs114, d115, b112, cs117, d118, hF97, hS, hb114, hb110, hb117, hb112, rfl, rfl, rfl, rfl, rfl, rfl, hz⟩
 intro b112 w111 hb112 hS
 have zb112 : rep M19 (Zr.zc GGraph) (Zr.zd : GGraph) := Zr.zr
 have hR157 : Rd M19 [.box b5 cx3 48] w111 := Rd.of hS hG99 (by simp)
 refine ⟨fun _ => hR157, ?_⟩
 refine WB_one (i := 1) (by kernel_rfl) rfl (O_mem (vs := [.agg (sl cx3 (0) 201).toArray]) (rv := (fun M' u => ∃ cs, u = .agg cs.toArray ∧ rep M' cs r105)) cb31 (args1 rfl) hS (nodeGraph_ok hS.agree ha101 hr104) ?_)
 intro u104 M104 w103 hx104 hu104 hS
 obtain ⟨c104, hq104, f104⟩ := hu104
 subst hq104
 replace hcx3 := Rep.mono hx104.1 hcx3
 replace hb16 := Rep.mono hx104.1 hb16
 replace hb24 := Rep.mono hx104.1 hb24
 replace ha101 := Rep.mono hx104.1 ha101
 replace ha102 := Rep.mono hx104.1 ha102
 replace zb110 := Rep.mono hx104.1 zb110
 replace zb112 := Rep.mono hx104.1 zb112
 replace hE := Mm.ext.trans hE hx104
 replace hF97 := Mm.ext.trans hF97 hx104
 replace hG99 := Mm.ext.trans hG99 hx104
 have hR158 : Rd M19 [.box b5 cx3 48] w103 := Rd.of hS hG99 (by simp)
 refine ⟨fun _ => hR158, ?_⟩
 refine WB_one (i := 3) (by kernel_rfl) rfl (O_mem (vs := [.agg (sl cx3 (0) 201).toArray]) (rv := (fun M' u => ∃ cs, u = .agg cs.toArray ∧ rep M' cs r108)) cb35 (args1 rfl) hS (graphOfX_ok hS.agree ha102 hr107) ?_)
 intro u107 M107 w106 hx107 hu107 hS
 obtain ⟨c107, hq107, f107⟩ := hu107
 subst hq107
 replace hcx3 := Rep.mono hx107.1 hcx3
 replace hb16 := Rep.mono hx107.1 hb16
 replace hb24 := Rep.mono hx107.1 hb24
 replace ha101 := Rep.mono hx107.1 ha101
 replace ha102 := Rep.mono hx107.1 ha102
 replace zb110 := Rep.mono hx107.1 zb110
 replace zb112 := Rep.mono hx107.1 zb112
 replace f104 := Rep.mono hx107.1 f104
 replace hE := Mm.ext.trans hE hx107
 replace hF97 := Mm.ext.trans hF97 hx107
 replace hG99 := Mm.ext.trans hG99 hx107
 have hR159 : Rd M19 [.box b5 cx3 48] w106 := Rd.of hS hG99 (by simp)
 refine ⟨fun _ => hR159, ?_⟩
 refine WB_one (i := 6) (by kernel_rfl) rfl (O_sx 1 64 hS rfl zb110 rfl rfl f104 rfl rfl (Lf (rr zb110) f104) hd114 ?_)
 intro cs114 w113 hb114 ha114 hs114 hS
 have hR160 : Rd M19 [.box b5 cx3 48] w113 := Rd.of hS hG99 (by simp)
 refine ⟨fun _ => hR160, ?_⟩
 refine WB_one (i := 7) (by kernel_rfl) rfl (O_sx 0 64 hS rfl zb112 rfl rfl f107 rfl rfl (Lf (rr zb112) f107) hd117 ?_)
 intro cs117 w116 hb117 ha117 hs117 hS
 have hR161 : Rd M19 [.box b5 cx3 48] w116 := Rd.of hS hG99 (by simp)
 refine ⟨fun _ => hR161, ?_⟩
 refine WB_done (by kernel_rfl) (nm_then ?_)
 exact ⟨M107, b110, cs114, d115, b112, cs117, d118, hF97, hS, hb114, hb110, hb117, hb112, rfl, rfl, rfl, rfl, rfl, rfl, hz⟩
 intro b112 w111 hb112 hS
 have zb112 : rep M19 (Zr.zc GGraph) (Zr.zd : GGraph) := Zr.zr
 have hR162 : Rd M19 [.box b5 cx3 48] w111 := Rd.of hS hG99 (by simp)
 refine ⟨fun _ => hR162, ?_⟩
 refine WB_two (i := 1) (j := 4) (by kernel_rfl) rfl rfl (O_mem (vs := [.agg (sl cx3 (0) 201).toArray]) (rv := (fun M' u => ∃ cs, u = .agg cs.toArray ∧ rep M' cs r105)) cb31 (args1 rfl) hS (nodeGraph_ok hS.agree ha101 hr104) ?_) (O_alloc tz64 hS ?_)
 intro u104 M104 w103 hx104 hu104 hS
 obtain ⟨c104, hq104, f104⟩ := hu104
 subst hq104
 replace hcx3 := Rep.mono hx104.1 hcx3
 replace hb16 := Rep.mono hx104.1 hb16
 replace hb24 := Rep.mono hx104.1 hb24
 replace ha101 := Rep.mono hx104.1 ha101
 replace ha102 := Rep.mono hx104.1 ha102
 replace zb112 := Rep.mono hx104.1 zb112
 replace hE := Mm.ext.trans hE hx104
 replace hF97 := Mm.ext.trans hF97 hx104
 replace hG99 := Mm.ext.trans hG99 hx104
 have hR163 : Rd M19 [.box b5 cx3 48] w103 := Rd.of hS hG99 (by simp)
 refine ⟨fun _ => hR163, ?_⟩
 refine WB_two (i := 3) (j := 4) (by kernel_rfl) rfl rfl (O_mem (vs := [.agg (sl cx3 (0) 201).toArray]) (rv := (fun M' u => ∃ cs, u = .agg cs.toArray ∧ rep M' cs r108)) cb35 (args1 rfl) hS (graphOfX_ok hS.agree ha102 hr107) ?_) (O_alloc tz64 hS ?_)
 intro u107 M107 w106 hx107 hu107 hS
 obtain ⟨c107, hq107, f107⟩ := hu107
 subst hq107
 replace hcx3 := Rep.mono hx107.1 hcx3
 replace hb16 := Rep.mono hx107.1 hb16
 replace hb24 := Rep.mono hx107.1 hb24
 replace ha101 := Rep.mono hx107.1 ha101
 replace ha102 := Rep.mono hx107.1 ha102
 replace zb112 := Rep.mono hx107.1 zb112
 replace f104 := Rep.mono hx107.1 f104
 replace hE := Mm.ext.trans hE hx107
 replace hF97 := Mm.ext.trans hF97 hx107
 replace hG99 := Mm.ext.trans hG99 hx107
 have hR164 : Rd M19 [.box b5 cx3 48] w106 := Rd.of hS hG99 (by simp)
 refine ⟨fun _ => hR164, ?_⟩
 refine WB_one (i := 4) (by kernel_rfl) rfl (O_alloc tz64 hS ?_)
 intro b110 w109 hb110 hS
 have zb110 : rep M107 (Zr.zc GGraph) (Zr.zd : GGraph) := Zr.zr
 have hR165 : Rd M19 [.box b5 cx3 48] w109 := Rd.of hS hG99 (by simp)
 refine ⟨fun _ => hR165, ?_⟩
 refine WB_one (i := 6) (by kernel_rfl) rfl (O_sx 0 64 hS rfl zb110 rfl rfl f104 rfl rfl (Lf (rr zb110) f104) hd114 ?_)
 intro cs114 w113 hb114 ha114 hs114 hS
 have hR166 : Rd M19 [.box b5 cx3 48] w113 := Rd.of hS hG99 (by simp)
 refine ⟨fun _ => hR166, ?_⟩
 refine WB_one (i := 7) (by kernel_rfl) rfl (O_sx 1 64 hS rfl zb112 rfl rfl f107 rfl rfl (Lf (rr zb112) f107) hd117 ?_)
 intro cs117 w116 hb117 ha117 hs117 hS
 have hR167 : Rd M19 [.box b5 cx3 48] w116 := Rd.of hS hG99 (by simp)
 refine ⟨fun _ => hR167, ?_⟩
 refine WB_done (by kernel_rfl) (nm_then ?_)
 exact ⟨M107, b110, cs114, d115, b112, cs117, d118, hF97, (hS.sel (H' := [.box b112 cs117 64, .box b110 cs114 64, .box b22 cs24 48, .box b14 cs16 48, .row v8 9 1, .box b5 cx3 48]) [1, 0, 2, 3, 4, 5] (by decide) rfl), hb114, hb110, hb117, hb112, rfl, rfl, rfl, rfl, rfl, rfl, hz⟩
 intro b110 w109 hb110 hS
 have zb110 : rep M104 (Zr.zc GGraph) (Zr.zd : GGraph) := Zr.zr
 have hR168 : Rd M19 [.box b5 cx3 48] w109 := Rd.of hS hG99 (by simp)
 refine ⟨fun _ => hR168, ?_⟩
 refine WB_one (i := 3) (by kernel_rfl) rfl (O_mem (vs := [.agg (sl cx3 (0) 201).toArray]) (rv := (fun M' u => ∃ cs, u = .agg cs.toArray ∧ rep M' cs r108)) cb35 (args1 rfl) hS (graphOfX_ok hS.agree ha102 hr107) ?_)
 intro u107 M107 w106 hx107 hu107 hS
 obtain ⟨c107, hq107, f107⟩ := hu107
 subst hq107
 replace hcx3 := Rep.mono hx107.1 hcx3
 replace hb16 := Rep.mono hx107.1 hb16
 replace hb24 := Rep.mono hx107.1 hb24
 replace ha101 := Rep.mono hx107.1 ha101
 replace ha102 := Rep.mono hx107.1 ha102
 replace zb112 := Rep.mono hx107.1 zb112
 replace f104 := Rep.mono hx107.1 f104
 replace zb110 := Rep.mono hx107.1 zb110
 replace hE := Mm.ext.trans hE hx107
 replace hF97 := Mm.ext.trans hF97 hx107
 replace hG99 := Mm.ext.trans hG99 hx107
 have hR169 : Rd M19 [.box b5 cx3 48] w106 := Rd.of hS hG99 (by simp)
 refine ⟨fun _ => hR169, ?_⟩
 refine WB_one (i := 6) (by kernel_rfl) rfl (O_sx 0 64 hS rfl zb110 rfl rfl f104 rfl rfl (Lf (rr zb110) f104) hd114 ?_)
 intro cs114 w113 hb114 ha114 hs114 hS
 have hR170 : Rd M19 [.box b5 cx3 48] w113 := Rd.of hS hG99 (by simp)
 refine ⟨fun _ => hR170, ?_⟩
 refine WB_one (i := 7) (by kernel_rfl) rfl (O_sx 1 64 hS rfl zb112 rfl rfl f107 rfl rfl (Lf (rr zb112) f107) hd117 ?_)
 intro cs117 w116 hb117 ha117 hs117 hS
 have hR171 : Rd M19 [.box b5 cx3 48] w116 := Rd.of hS hG99 (by simp)
 refine ⟨fun _ => hR171, ?_⟩
 refine WB_done (by kernel_rfl) (nm_then ?_)
 exact ⟨M107, b110, cs114, d115, b112, cs117, d118, hF97, (hS.sel (H' := [.box b112 cs117 64, .box b110 cs114 64, .box b22 cs24 48, .box b14 cs16 48, .row v8 9 1, .box b5 cx3 48]) [1, 0, 2, 3, 4, 5] (by decide) rfl), hb114, hb110, hb117, hb112, rfl, rfl, rfl, rfl, rfl, rfl, hz⟩
 intro b110 w109 hb110 hS
 have zb110 : rep M19 (Zr.zc GGraph) (Zr.zd : GGraph) := Zr.zr
 have hR172 : Rd M19 [.box b5 cx3 48] w109 := Rd.of hS hG99 (by simp)
 refine ⟨fun _ => hR172, ?_⟩
 refine WB_one (i := 1) (by kernel_rfl) rfl (O_mem (vs := [.agg (sl cx3 (0) 201).toArray]) (rv := (fun M' u => ∃ cs, u = .agg cs.toArray ∧ rep M' cs r105)) cb31 (args1 rfl) hS (nodeGraph_ok hS.agree ha101 hr104) ?_)
 intro u104 M104 w103 hx104 hu104 hS
 obtain ⟨c104, hq104, f104⟩ := hu104
 subst hq104
 replace hcx3 := Rep.mono hx104.1 hcx3
 replace hb16 := Rep.mono hx104.1 hb16
 replace hb24 := Rep.mono hx104.1 hb24
 replace ha101 := Rep.mono hx104.1 ha101
 replace ha102 := Rep.mono hx104.1 ha102
 replace zb112 := Rep.mono hx104.1 zb112
 replace zb110 := Rep.mono hx104.1 zb110
 replace hE := Mm.ext.trans hE hx104
 replace hF97 := Mm.ext.trans hF97 hx104
 replace hG99 := Mm.ext.trans hG99 hx104
 have hR173 : Rd M19 [.box b5 cx3 48] w103 := Rd.of hS hG99 (by simp)
 refine ⟨fun _ => hR173, ?_⟩
 refine WB_one (i := 3) (by kernel_rfl) rfl (O_mem (vs := [.agg (sl cx3 (0) 201).toArray]) (rv := (fun M' u => ∃ cs, u = .agg cs.toArray ∧ rep M' cs r108)) cb35 (args1 rfl) hS (graphOfX_ok hS.agree ha102 hr107) ?_)
 intro u107 M107 w106 hx107 hu107 hS
 obtain ⟨c107, hq107, f107⟩ := hu107
 subst hq107
 replace hcx3 := Rep.mono hx107.1 hcx3
 replace hb16 := Rep.mono hx107.1 hb16
 replace hb24 := Rep.mono hx107.1 hb24
 replace ha101 := Rep.mono hx107.1 ha101
 replace ha102 := Rep.mono hx107.1 ha102
 replace zb112 := Rep.mono hx107.1 zb112
 replace zb110 := Rep.mono hx107.1 zb110
 replace f104 := Rep.mono hx107.1 f104
 replace hE := Mm.ext.trans hE hx107
 replace hF97 := Mm.ext.trans hF97 hx107
 replace hG99 := Mm.ext.trans hG99 hx107
 have hR174 : Rd M19 [.box b5 cx3 48] w106 := Rd.of hS hG99 (by simp)
 refine ⟨fun _ => hR174, ?_⟩
 refine WB_one (i := 6) (by kernel_rfl) rfl (O_sx 0 64 hS rfl zb110 rfl rfl f104 rfl rfl (Lf (rr zb110) f104) hd114 ?_)
 intro cs114 w113 hb114 ha114 hs114 hS
 have hR175 : Rd M19 [.box b5 cx3 48] w113 := Rd.of hS hG99 (by simp)
 refine ⟨fun _ => hR175, ?_⟩
 refine WB_one (i := 7) (by kernel_rfl) rfl (O_sx 1 64 hS rfl zb112 rfl rfl f107 rfl rfl (Lf (rr zb112) f107) hd117 ?_)
 intro cs117 w116 hb117 ha117 hs117 hS
 have hR176 : Rd M19 [.box b5 cx3 48] w116 := Rd.of hS hG99 (by simp)
 refine ⟨fun _ => hR176, ?_⟩
 refine WB_done (by kernel_rfl) (nm_then ?_)
 exact ⟨M107, b110, cs114, d115, b112, cs117, d118, hF97, (hS.sel (H' := [.box b112 cs117 64, .box b110 cs114 64, .box b22 cs24 48, .box b14 cs16 48, .row v8 9 1, .box b5 cx3 48]) [1, 0, 2, 3, 4, 5] (by decide) rfl), hb114, hb110, hb117, hb112, rfl, rfl, rfl, rfl, rfl, rfl, hz⟩
 rintro T28 w26 ⟨M27, b29, cs29, d30, b31, cs31, d32, hx33, hS, hb29, hs29, hb31, hs31, hT28_11, hT28_12, hT28_7, hT28_8, hT28_9, hT28_10, hz⟩
 replace hcx3 := Rep.mono hx33.1 hcx3
 replace hb16 := Rep.mono hx33.1 hb16
 replace hb24 := Rep.mono hx33.1 hb24
 replace hE := Mm.ext.trans hE hx33
 rw [nodeReplays_j1] at hz
 refine W_seq <|W_seq <|W_reg <|WL_y (Y_move (.int .i64 0) rfl) ?_
 refine WL_nil (nm_then ?_)
 refine W_block ?_
 refine W_loop (fun k39 T' w' => ∃ M35 y37, Mm.ext w.heap.size noX M27 M35 ∧ St w noX M35 [.box b31 cs31 64, .box b29 cs29 64, .box b22 cs24 48, .box b14 cs16 48, .row v8 9 1, .box b5 cx3 48] w' ∧ T' 7 = .pointer (some ⟨b14, 0, none⟩) ∧ T' 8 = .int .i64 r12.2 ∧ T' 9 = .pointer (some ⟨b22, 0, none⟩) ∧ T' 10 = .int .i64 r20.2 ∧ T' 11 = .pointer (some ⟨b29, 0, none⟩) ∧ T' 12 = .pointer (some ⟨b31, 0, none⟩) ∧ T' 31 = .int .i64 y37 ∧ nodeReplays_l1 fu r12 d17 r20 d25 d30 d32 k39 y37 = some r) fu ?_ ?_ ?_
 exact ⟨M27, (0 : Int), (Mm.ext.refl _ _ _), hS, hT28_7, hT28_8, hT28_9, hT28_10, hT28_11, hT28_12, rfl, hz⟩
 rintro T' w' ⟨_, _, _, _, _, _, _, _, _, _, _, hz⟩
 rw [nodeReplays_l1] at hz
 cases hz
 intro k39
 rintro T36 w34 ⟨M35, y37, hx41, hS, hT36_7, hT36_8, hT36_9, hT36_10, hT36_11, hT36_12, hT36_31, hz⟩
 replace hcx3 := Rep.mono hx41.1 hcx3
 replace hb16 := Rep.mono hx41.1 hb16
 replace hb24 := Rep.mono hx41.1 hb24
 replace hb29 := Rep.mono hx41.1 hb29
 replace hb31 := Rep.mono hx41.1 hb31
 replace hE := Mm.ext.trans hE hx41
 have hF40 := hx41
 rw [nodeReplays_l1] at hz
 obtain ⟨rec38, hrec38⟩ : ∃ f, f = nodeReplays_l1 fu r12 d17 r20 d25 d30 d32 k39 := ⟨_, rfl⟩
 rw [← hrec38] at hz
 refine W_seq <|W_reg <|WL_y (Y_lss hT36_31 rfl) ?_
 refine WL_nil (nm_then ?_)
 refine W_seq ?_
 refine W_cond rfl (fun hc42 => ?_) (fun hc42 => ?_)
 replace hz := bif_ok_t hz hc42
 refine W_skip (nm_then ?_)
 refine W_seqJ (fun T' w' => ∃ M44, Mm.ext w.heap.size noX M35 M44 ∧ St w noX M44 [.box b31 cs31 64, .box b29 cs29 64, .box b22 cs24 48, .box b14 cs16 48, .row v8 9 1, .box b5 cx3 48] w' ∧ T' 7 = .pointer (some ⟨b14, 0, none⟩) ∧ T' 8 = .int .i64 r12.2 ∧ T' 9 = .pointer (some ⟨b22, 0, none⟩) ∧ T' 10 = .int .i64 r20.2 ∧ T' 11 = .pointer (some ⟨b29, 0, none⟩) ∧ T' 12 = .pointer (some ⟨b31, 0, none⟩) ∧ T' 31 = .int .i64 y37 ∧ nodeReplays_j2 y37 rec38 = some r) ?_ ?_
 have hF47 := Mm.ext.refl w.heap.size noX M35
 refine W_block <|W_seq <|W_reg <|WL_y (Y_move (.int .i64 y37) hT36_31) <|WL_y (Y_assign (.int .i64 y37) rfl) ?_
 refine WL_nil (nm_then ?_)
 refine W_seqJ (fun T' w' => ∃ M49 c51, Mm.ext w.heap.size noX M35 M49 ∧ St w noX M49 [.box b31 cs31 64, .box b29 cs29 64, .box b22 cs24 48, .box b14 cs16 48, .row v8 9 1, .box b5 cx3 48] w' ∧ T' 7 = .pointer (some ⟨b14, 0, none⟩) ∧ T' 8 = .int .i64 r12.2 ∧ T' 9 = .pointer (some ⟨b22, 0, none⟩) ∧ T' 10 = .int .i64 r20.2 ∧ T' 11 = .pointer (some ⟨b29, 0, none⟩) ∧ T' 12 = .pointer (some ⟨b31, 0, none⟩) ∧ T' 31 = .int .i64 y37 ∧ T' 54 = .bool c51 ∧ nodeReplays_j3 y37 rec38 c51 = some r) ?_ ?_
 have hF54 := Mm.ext.refl w.heap.size noX M35
 refine W_drawB (Rd M35 [.box b31 cs31 64, .box b29 cs29 64]) (inL []) mixed hS fun w55 hS => ?_
 have hG56 := Mm.ext.refl w.heap.size noX M35
 have hR57 : Rd M35 [.box b31 cs31 64, .box b29 cs29 64] w55 := Rd.of hS hG56 (by simp)
 refine WB_y (i := 0) rfl (by kernel_rfl) rfl (Y_move (.int .i64 y37) rfl) (fun _ => hR57) <|WB_y (i := 1) rfl (by kernel_rfl) rfl (Y_fa fa64_0 hT36_11) (fun _ => hR57) ?_
 obtain ⟨u58, hx59, hz⟩ := bind_ok hz
 obtain ⟨hx59a, hx59b⟩ := inR_some hx59
 refine WB_y (i := 2) rfl (by kernel_rfl) rfl (Y_ixA ia61 rfl rfl hx59a hx59b) (fun _ => hR57) ?_
 obtain ⟨x60, hx61, hz⟩ := bind_ok hz
 refine WB_ld (i := 3) rfl (by kernel_rfl) rfl (inL_lt rfl) (by kernel_rfl) (by kernel_rfl) (Y_ld1 (.bool x60) ts4 rfl (bvR 1 rfl) (vp (k := 1) rfl rfl (GGraph.p0 (rr hb29)) hx61)) hR57 <|WB_y (i := 4) rfl (by kernel_rfl) rfl (Y_move (.int .i64 y37) rfl) (fun _ => hR57) <|WB_y (i := 5) rfl (by kernel_rfl) rfl (Y_fa fa64_0 hT36_12) (fun _ => hR57) ?_
 obtain ⟨u62, hx63, hz⟩ := bind_ok hz
 obtain ⟨hx63a, hx63b⟩ := inR_some hx63
 refine WB_y (i := 6) rfl (by kernel_rfl) rfl (Y_ixA ia61 rfl rfl hx63a hx63b) (fun _ => hR57) ?_
 obtain ⟨x64, hx65, hz⟩ := bind_ok hz
 refine WB_ld (i := 7) rfl (by kernel_rfl) rfl (inL_lt rfl) (by kernel_rfl) (by kernel_rfl) (Y_ld1 (.bool x64) ts4 rfl (bvR 0 rfl) (vp (k := 1) rfl rfl (GGraph.p0 (rr hb31)) hx65)) hR57 <|WB_y (i := 8) rfl (by kernel_rfl) rfl (Y_neB rfl rfl Try.underlying4) (fun _ => hR57) <|WB_y (i := 9) rfl (by kernel_rfl) rfl (Y_move (.bool (!(x60 == x64))) rfl) (fun _ => hR57) ?_
 rcases ic hz with ⟨hc66, hz⟩ | ⟨hc66, hz⟩ <;> rw [hc66]
 refine WB_s (i := 10) (j := 9) rfl (by kernel_rfl) rfl rfl rfl rfl (fun _ => hR57) <|WB_s (i := 11) (j := 9) rfl (by kernel_rfl) rfl rfl rfl rfl (fun _ => hR57) <|WB_s (i := 12) (j := 9) rfl (by kernel_rfl) rfl rfl rfl rfl (fun _ => hR57) <|WB_s (i := 13) (j := 9) rfl (by kernel_rfl) rfl rfl rfl rfl (fun _ => hR57) <|WB_s (i := 14) (j := 9) rfl (by kernel_rfl) rfl rfl rfl rfl (fun _ => hR57) <|WB_s (i := 15) (j := 9) rfl (by kernel_rfl) rfl rfl rfl rfl (fun _ => hR57) <|WB_s (i := 16) (j := 9) rfl (by kernel_rfl) rfl rfl rfl rfl (fun _ => hR57) <|WB_s (i := 17) (j := 9) rfl (by kernel_rfl) rfl rfl rfl rfl (fun _ => hR57) <|WB_s (i := 18) (j := 9) rfl (by kernel_rfl) rfl rfl rfl rfl (fun _ => hR57) <|WB_s (i := 19) (j := 9) rfl (by kernel_rfl) rfl rfl rfl rfl (fun _ => hR57) <|WB_y (i := 20) rfl (by kernel_rfl) rfl (Y_pick_t (.bool true) rfl rfl) (fun _ => hR57) ?_
 refine WB_done (by kernel_rfl) (nm_then ?_)
 exact ⟨M35, true, hF54, hS, hT36_7, hT36_8, hT36_9, hT36_10, hT36_11, hT36_12, hT36_31, rfl, hz⟩
 refine WB_gy (i := 10) rfl (by kernel_rfl) rfl rfl rfl (Y_move (.int .i64 y37) rfl) (fun _ => hR57) <|WB_gy (i := 11) rfl (by kernel_rfl) rfl rfl rfl (Y_fa fa64_1 hT36_11) (fun _ => hR57) ?_
 obtain ⟨u67, hx68, hz⟩ := bind_ok hz
 obtain ⟨hx68a, hx68b⟩ := inR_some hx68
 refine WB_gy (i := 12) rfl (by kernel_rfl) rfl rfl rfl (Y_ixA ia62 rfl rfl hx68a hx68b) (fun _ => hR57) ?_
 obtain ⟨x69, hx70, hz⟩ := bind_ok hz
 obtain ⟨v71, ev71, hv71⟩ := (vp (k := 1) rfl rfl (GGraph.p1 (rr hb29)) hx70)
 refine WB_gld (i := 13) rfl (by kernel_rfl) rfl (inL_lt rfl) (by kernel_rfl) (by kernel_rfl) rfl rfl (Y_ld1 v71 ts27 rfl (bvR 1 rfl) ev71) hR57 <|WB_gy (i := 14) rfl (by kernel_rfl) rfl rfl rfl (Y_move (.int .i64 y37) rfl) (fun _ => hR57) <|WB_gy (i := 15) rfl (by kernel_rfl) rfl rfl rfl (Y_fa fa64_1 hT36_12) (fun _ => hR57) ?_
 obtain ⟨u72, hx73, hz⟩ := bind_ok hz
 obtain ⟨hx73a, hx73b⟩ := inR_some hx73
 refine WB_gy (i := 16) rfl (by kernel_rfl) rfl rfl rfl (Y_ixA ia62 rfl rfl hx73a hx73b) (fun _ => hR57) ?_
 obtain ⟨x74, hx75, hz⟩ := bind_ok hz
 obtain ⟨v76, ev76, hv76⟩ := (vp (k := 1) rfl rfl (GGraph.p1 (rr hb31)) hx75)
 refine WB_gld (i := 17) rfl (by kernel_rfl) rfl (inL_lt rfl) (by kernel_rfl) (by kernel_rfl) rfl rfl (Y_ld1 v76 ts27 rfl (bvR 0 rfl) ev76) hR57 ?_
 obtain ⟨r79, hr78, hz⟩ := bind_ok hz
 replace hr78 := Option.some.inj hr78
 refine WB_one_g (i := 18) (by kernel_rfl) rfl rfl rfl (O_val (vs := [v71, v76]) (v := .bool r79) cb36 (args2 rfl rfl) hS (hr78 ▸ (c_sameNumbers hS.agree hv71 hv76)) ?_)
 intro w77 hS
 have hR80 : Rd M35 [.box b31 cs31 64, .box b29 cs29 64] w77 := Rd.of hS hG56 (by simp)
 refine ⟨fun _ => hR80, ?_⟩
 refine WB_gy (i := 19) rfl (by kernel_rfl) rfl rfl rfl (Y_not rfl) (fun _ => hR80) <|WB_y (i := 20) rfl (by kernel_rfl) rfl (Y_pick_f (.bool (!r79)) rfl rfl) (fun _ => hR80) ?_
 refine WB_done (by kernel_rfl) (nm_then ?_)
 exact ⟨M35, (!r79), hF54, hS, hT36_7, hT36_8, hT36_9, hT36_10, hT36_11, hT36_12, hT36_31, rfl, hz⟩
 rintro T50 w48 ⟨M49, c51, hx52, hS, hT50_7, hT50_8, hT50_9, hT50_10, hT50_11, hT50_12, hT50_31, hT50_54, hz⟩
 replace hcx3 := Rep.mono hx52.1 hcx3
 replace hb16 := Rep.mono hx52.1 hb16
 replace hb24 := Rep.mono hx52.1 hb24
 replace hb29 := Rep.mono hx52.1 hb29
 replace hb31 := Rep.mono hx52.1 hb31
 replace hE := Mm.ext.trans hE hx52
 replace hF40 := Mm.ext.trans hF40 hx52
 replace hF47 := Mm.ext.trans hF47 hx52
 rw [nodeReplays_j3] at hz
 refine W_cond hT50_54 (fun hc53 => ?_) (fun hc53 => ?_)
 replace hz := bif_ok_t hz hc53
 refine W_seq <|W_reg <|WL_y (Y_assign (.bool false) rfl) ?_
 refine WL_nil (nm_then ?_)
 cases hz
 exact W_ret (rt_blk (rt_then (rt_then (rt_blk (rt_then (R_t1 rfl rfl ⟨rfl, (St.dropB (St.drop (St.dropB (St.dropB (St.dropB (St.dropB hS hs31) hs29) hb22) hb14)) hb5).kept⟩))))))
 replace hz := bif_ok_f hz hc53
 refine W_skip (nm_blk ?_)
 refine (nm_then ?_)
 exact ⟨M49, hF47, hS, hT50_7, hT50_8, hT50_9, hT50_10, hT50_11, hT50_12, hT50_31, hz⟩
 rintro T45 w43 ⟨M44, hx46, hS, hT45_7, hT45_8, hT45_9, hT45_10, hT45_11, hT45_12, hT45_31, hz⟩
 replace hcx3 := Rep.mono hx46.1 hcx3
 replace hb16 := Rep.mono hx46.1 hb16
 replace hb24 := Rep.mono hx46.1 hb24
 replace hb29 := Rep.mono hx46.1 hb29
 replace hb31 := Rep.mono hx46.1 hb31
 replace hE := Mm.ext.trans hE hx46
 replace hF40 := Mm.ext.trans hF40 hx46
 rw [nodeReplays_j2] at hz
 refine W_reg <|WL_y (Y_add hT45_31 rfl) <|WL_y (Y_move (.int .i64 (IntKind.wrap .i64 (y37 + 1))) rfl) ?_
 refine WL_nil (nm_then ?_)
 exact ⟨M44, (IntKind.wrap .i64 (y37 + 1)), hF40, hS, hT45_7, hT45_8, hT45_9, hT45_10, hT45_11, hT45_12, rfl, (by rw [← hrec38]; exact hz)⟩
 replace hz := bif_ok_f hz hc42
 refine W_exit <|ex_then <|ex_then <|ex_hit ?_
 refine (nm_then ?_)
 refine W_seqJ (fun T' w' => ∃ M82 c84, Mm.ext w.heap.size noX M35 M82 ∧ St w noX M82 [.box b31 cs31 64, .box b29 cs29 64, .box b22 cs24 48, .box b14 cs16 48, .row v8 9 1, .box b5 cx3 48] w' ∧ T' 6 = .bool c84 ∧ nodeReplays_j4 c84 = some r) ?_ ?_
 have hF86 := Mm.ext.refl w.heap.size noX M35
 refine W_reg ?_
 have ha87 := (rr hb16)
 refine WL_y (Y_ldn ta48 hT36_7 (hS.bvB 3 rfl) (Rep.len ha87)) ?_
 have ha88 := (rr hb24)
 refine WL_y (Y_ldn ta48 hT36_9 (hS.bvB 2 rfl) (Rep.len ha88)) ?_
 obtain ⟨r91, hr90, hz⟩ := bind_ok hz
 refine WL_c (O_val (vs := [.agg (sl cs16 (0) 201).toArray, .agg (sl cs24 (0) 201).toArray]) (v := .bool r91) cb19 (args2 rfl rfl) hS (sameNode_ok hS.agree ha87 ha88 hr90) ?_)
 intro w89 hS
 refine WL_y (Y_move (.bool r91) rfl) ?_
 rcases ic hz with ⟨hc92, hz⟩ | ⟨hc92, hz⟩ <;> rw [hc92]
 refine WL_gy rfl rfl (Y_move (.int .i64 r12.2) hT36_8) <|WL_gy rfl rfl (Y_move (.int .i64 r20.2) hT36_10) <|WL_gy rfl rfl (Y_eql rfl rfl) <|WL_d 2 rfl ?_
 rcases ic hz with ⟨hc93, hz⟩ | ⟨hc93, hz⟩ <;> rw [hc93]
 obtain ⟨r96, hr95, hz⟩ := bind_ok hz
 refine WL_g rfl rfl (O_val (vs := []) (v := .bool r96) cb24 args0 hS (lawTakes_ok hS.agree hr95) ?_)
 intro w94 hS
 refine WL_d 2 rfl ?_
 refine WL_nil (nm_then ?_)
 exact ⟨M35, r96, hF86, hS, rfl, hz⟩
 refine WL_d 3 rfl ?_
 refine WL_nil (nm_then ?_)
 exact ⟨M35, false, hF86, hS, rfl, hz⟩
 refine WL_d 8 rfl ?_
 refine WL_nil (nm_then ?_)
 exact ⟨M35, false, hF86, hS, rfl, hz⟩
 rintro T83 w81 ⟨M82, c84, hx85, hS, hT83_6, hz⟩
 replace hcx3 := Rep.mono hx85.1 hcx3
 replace hb16 := Rep.mono hx85.1 hb16
 replace hb24 := Rep.mono hx85.1 hb24
 replace hb29 := Rep.mono hx85.1 hb29
 replace hb31 := Rep.mono hx85.1 hb31
 replace hE := Mm.ext.trans hE hx85
 replace hF40 := Mm.ext.trans hF40 hx85
 rw [nodeReplays_j4] at hz
 cases hz
 exact W_ret (R_t1 rfl hT83_6 ⟨rfl, (St.dropB (St.drop (St.dropB (St.dropB (St.dropB (St.dropB hS hs31) hs29) hb22) hb14)) hb5).kept⟩)
end Go.Proofs.Ytopgdemmdcipcaa
namespace Go.Proofs.Ytopgdemmdcipcaa
open Go.RowKit
open Rep (rep)
noncomputable def replayZ (who : Int) : List ByteArray → GNode → GNode × Int
  | [], s => (s, 0)
  | x :: t, s => bif (decZ (byL x)).2 != 0 then (zeroN, (decZ (byL x)).2) else bif (takeN s who (decZ (byL x)).1).2.2 != 0 then (zeroN, (takeN s who (decZ (byL x)).1).2.2) else replayZ who t (takeN s who (decZ (byL x)).1).1
theorem replayZ_good {who : Int} : ∀ (l : List ByteArray) {s : GNode}, GoodN s → GoodN (replayZ who l s).1
  | [], _, h => h
  | x :: t, s, h => by
    unfold replayZ
    cases h1 : ((decZ (byL x)).2 != 0)
    · rw [cond_false]
      cases h2 : ((takeN s who (decZ (byL x)).1).2.2 != 0)
      · rw [cond_false]
        exact replayZ_good t (takeN_good (by simpa using h2))
      · exact zero_good
    · exact zero_good
theorem nodeReplay_l1_eq {fu : Nat} (hfu : 300 ≤ fu) {who : Int} {l : List ByteArray} (hl : l.length ≤ 17592186043904) (hs : ∀ x ∈ l, x.size ≤ 140737488351232) (z : GNode) : ∀ (n m k : Nat) (s : GNode), l.length = k + m → m < n → GoodN s → nodeReplay_l1 fu who l n s z k = some (replayZ who (l.drop k) s)
  | 0, m, k, _, _, h, _ => absurd h (by omega)
  | n + 1, 0, k, s, hk, _, _ => by
    rw [nodeReplay_l1, bif_f (dec_f (by omega)), some_bind, List.drop_of_length_le (by omega)]
    rfl
  | n + 1, m + 1, k, s, hk, hn, hg => by
    have hlt : k < l.length := by omega
    have hx := hs _ (List.getElem_mem hlt)
    have ih := fun s hg => nodeReplay_l1_eq hfu hl hs (who := who) z n m (k + 1) s (by omega) (by omega) hg
    rw [nodeReplay_l1, bif_t (dec_t (by omega)), idx_nat, List.getElem?_eq_getElem hlt, some_bind, decodeD_eq (by omega) hx, some_bind, some_bind, List.drop_eq_getElem_cons hlt]
    generalize l[k] = x
    rw [replayZ, wrs k (by omega)]
    cases h1 : ((decZ (byL x)).2 != 0)
    · rw [cond_false, cond_false, nodeTakeD_eq hg.sizes (by omega) (by omega), some_bind, some_bind]
      cases h2 : ((takeN s who (decZ (byL x)).1).2.2 != 0)
      · rw [cond_false, cond_false]
        exact ih _ (takeN_good (by simpa using h2))
      · rfl
    · rfl
theorem nodeReplayD_eq {fu : Nat} {who : Int} {l : List ByteArray} (hfu : l.length + 300 ≤ fu) (hl : l.length ≤ 17592186043904) (hs : ∀ x ∈ l, x.size ≤ 140737488351232) : nodeReplayD fu who l = some (bif decide (0 ≤ who ∧ who < 6) then replayZ who l zeroN else (zeroN, 2)) := by
  unfold nodeReplayD
  rw [nodeIsD_eq, some_bind]
  cases decide (0 ≤ who ∧ who < 6)
  · rfl
  · rw [bif_f (c := !true) rfl, cond_true]
    exact nodeReplay_l1_eq (by omega) hl hs _ fu l.length 0 zeroN (by omega) (by omega) zero_good
theorem replayLog_l1_eq {fu : Nat} (hfu : 300 ≤ fu) {who : Int} {l : List ByteArray} (hl : l.length ≤ 17592186043904) (hs : ∀ x ∈ l, x.size ≤ 140737488351232) : ∀ (n m k : Nat) (s z : GNode), l.length = k + m → m < n → GoodN s → replayLog_l1 fu who l n s z k = some (replayZ who (l.drop k) s)
  | 0, m, k, _, _, _, h, _ => absurd h (by omega)
  | n + 1, 0, k, s, z, hk, _, _ => by
    rw [replayLog_l1, bif_f (dec_f (by omega)), some_bind, List.drop_of_length_le (by omega)]
    rfl
  | n + 1, m + 1, k, s, z, hk, hn, hg => by
    have hlt : k < l.length := by omega
    have hx := hs _ (List.getElem_mem hlt)
    have ih := fun s z hg => replayLog_l1_eq hfu hl hs (who := who) n m (k + 1) s z (by omega) (by omega) hg
    rw [replayLog_l1, bif_t (dec_t (by omega)), idx_nat, List.getElem?_eq_getElem hlt, some_bind, decodeFrameD_eq (by omega) hx, some_bind, some_bind, List.drop_eq_getElem_cons hlt]
    generalize l[k] = x
    unfold replayLog_j3 replayLog_j2
    rw [replayZ, wrs k (by omega)]
    have hne : ((decZ (byL x)).2 != 0) = !((decZ (byL x)).2 == 0) := rfl
    rw [hne]
    cases h1 : ((decZ (byL x)).2 == 0)
    · rfl
    · rw [cond_true, Bool.not_true, cond_false, takeFrameD_eq hg.sizes (by omega) (by omega), some_bind, some_bind]
      cases h2 : ((takeN s who (decZ (byL x)).1).2.2 != 0)
      · rw [cond_false, cond_false]
        exact ih _ _ (takeN_good (by simpa using h2))
      · rfl
theorem replayLogD_eq {fu : Nat} {who : Int} {l : List ByteArray} (hfu : l.length + 300 ≤ fu) (hl : l.length ≤ 17592186043904) (hs : ∀ x ∈ l, x.size ≤ 140737488351232) : replayLogD fu who l = some (bif decide (0 ≤ who ∧ who < 6) then replayZ who l zeroN else (zeroN, 2)) := by
  unfold replayLogD replayLog_j4
  by_cases h0 : who < 0
  · rw [bif_t (dec_t h0), dec_f (show ¬ (0 ≤ who ∧ who < 6) by omega)]
    rfl
  · rw [bif_f (dec_f h0)]
    by_cases h5 : who > 5
    · rw [dec_t h5, dec_f (show ¬ (0 ≤ who ∧ who < 6) by omega)]
      rfl
    · rw [dec_f h5, dec_t (show 0 ≤ who ∧ who < 6 by omega), cond_false, cond_true]
      exact replayLog_l1_eq (by omega) hl hs fu l.length 0 zeroN zeroN (by omega) (by omega) zero_good
theorem nodeReplays_l1_eq {fu : Nat} (hfu : 120 ≤ fu) {r : GNode × Int} (hr : GoodN r.1) {g : GGraph} : ∀ (n m k : Nat), k + m = 32 → m < n → nodeReplays_l1 fu r r.1 r r.1 g g n k = some true
  | 0, m, k, _, h => absurd h (by omega)
  | n + 1, 0, k, hk, _ => by
    rw [nodeReplays_l1, bif_f (dec_f (by omega)), sameNodeD_refl hr.sizes (by omega), some_bind, cond_true, bif_t (by simp), lawTakesD_eq (by omega), some_bind, nodeReplays_j4]
  | n + 1, m + 1, k, hk, hn => by
    have hk32 : k < 32 := by omega
    have ih := nodeReplays_l1_eq hfu hr (g := g) n m (k + 1) (by omega) (by omega)
    rw [nodeReplays_l1, bif_t (dec_t (by omega)), inR_ok (by omega) (by omega), some_bind, idxB hk32, some_bind, some_bind, some_bind, bif_f (by simp), some_bind, idxD hk32, some_bind, some_bind, some_bind, sameZ_refl, some_bind, nodeReplays_j3, bif_f (c := !true) rfl, nodeReplays_j2, wrs k (by omega)]
    exact ih
theorem nodeReplaysD_eq {fu : Nat} {who : Int} {l : List ByteArray} {s : GNode} (hfu : l.length + 300 ≤ fu) (hl : l.length * 16 ≤ 140737488351232) (hs : ∀ x ∈ l, x.size ≤ 140737488351232) : nodeReplaysD fu who l s = some true := by
  have hb : Rep.bytes ByteArray = 16 := rfl
  unfold nodeReplaysD nodeReplays_j1
  rw [app_ok (by rw [hb]; simpa using hl), some_bind, List.nil_append, nodeReplayD_eq hfu (by omega) hs, some_bind, some_bind, replayLogD_eq hfu (by omega) hs, some_bind, some_bind, nodeGraphD_eq (by omega), some_bind]
  have hx : graphOfXD fu s = some (graphZ s) := by
    unfold graphOfXD
    rw [graphOfD_eq (by omega)]
    rfl
  rw [hx, some_bind, some_bind, some_bind]
  refine nodeReplays_l1_eq (by omega) ?_ fu 32 0 (by omega) (by omega)
  cases decide (0 ≤ who ∧ who < 6)
  · exact zero_good
  · exact replayZ_good l zero_good
theorem texts_small {M : Mm} {v : Value} {l : List ByteArray} (h : repL M v l) : ∀ x ∈ l, x.size ≤ 140737488351232 := fun x hx => by
  obtain ⟨i, hi⟩ := List.getElem?_of_mem hx
  obtain ⟨a, cap, _, _, _, _, h4⟩ := h
  obtain ⟨b, off, p, _, _, _, hr⟩ := h4 i x hi
  exact hr.2
end Go.Proofs.Ytopgdemmdcipcaa
namespace Go.Proofs.Ytopgdemmdcipcaa
open Go.RowKit
open Rep (rep)
theorem op3 : Opn Try.prog 3 Int := opn_int Try.underlying3 (by kernel_rfl)
theorem op78 : Opn Try.prog 78 GOp := ⟨by kernel_rfl, fun H enc w fuel cs d p h hw => by
  have hl : cs.length = 3 := by obtain ⟨_, _, _, _, hl, _⟩ := DataW.trod_struct Try.underlying78 h; rw [hl]; kernel_rfl
  obtain ⟨x0, h0⟩ := opn_field (α := Int) (o := 0) (k := 1) Try.underlying78 h hw 0 _ rfl rfl rfl (by kernel_rfl) op3
  obtain ⟨x1, h1⟩ := opn_field (α := Int) (o := 1) (k := 1) Try.underlying78 h hw 1 _ rfl rfl rfl (by kernel_rfl) op3
  obtain ⟨x2, h2⟩ := opn_field (α := Int) (o := 2) (k := 1) Try.underlying78 h hw 2 _ rfl rfl rfl (by kernel_rfl) op3
  exact ⟨⟨x0, x1, x2⟩, GOp.fol ⟨hl, h0, h1, h2⟩⟩⟩
theorem op22 : Opn Try.prog 22 (List (GOp)) := opn_slice Try.underlying22 (by kernel_rfl) op78 (by decide) (by kernel_rfl)
theorem op27 : Opn Try.prog 27 (List (Int)) := opn_slice Try.underlying27 (by kernel_rfl) op3 (by decide) (by kernel_rfl)
theorem op44 : Opn Try.prog 44 GEntry := ⟨by kernel_rfl, fun H enc w fuel cs d p h hw => by
  have hl : cs.length = 6 := by obtain ⟨_, _, _, _, hl, _⟩ := DataW.trod_struct Try.underlying44 h; rw [hl]; kernel_rfl
  obtain ⟨x0, h0⟩ := opn_field (α := Int) (o := 0) (k := 1) Try.underlying44 h hw 0 _ rfl rfl rfl (by kernel_rfl) op3
  obtain ⟨x1, h1⟩ := opn_field (α := List (GOp)) (o := 1) (k := 1) Try.underlying44 h hw 1 _ rfl rfl rfl (by kernel_rfl) op22
  obtain ⟨x2, h2⟩ := opn_field (α := List (Int)) (o := 2) (k := 1) Try.underlying44 h hw 2 _ rfl rfl rfl (by kernel_rfl) op27
  obtain ⟨x3, h3⟩ := opn_field (α := List (Int)) (o := 3) (k := 1) Try.underlying44 h hw 3 _ rfl rfl rfl (by kernel_rfl) op27
  obtain ⟨x4, h4⟩ := opn_field (α := List (Int)) (o := 4) (k := 1) Try.underlying44 h hw 4 _ rfl rfl rfl (by kernel_rfl) op27
  obtain ⟨x5, h5⟩ := opn_field (α := List (Int)) (o := 5) (k := 1) Try.underlying44 h hw 5 _ rfl rfl rfl (by kernel_rfl) op27
  exact ⟨⟨x0, x1, x2, x3, x4, x5⟩, GEntry.fol ⟨hl, h0, h1, h2, h3, h4, h5⟩⟩⟩
theorem op45 : Opn Try.prog 45 (Vector (GEntry) 32) := opn_array Try.underlying45 (by kernel_rfl) op44 (by decide)
theorem op46 : Opn Try.prog 46 (Vector (Int) 8) := opn_array Try.underlying46 (by kernel_rfl) op3 (by decide)
theorem op48 : Opn Try.prog 48 GNode := ⟨by kernel_rfl, fun H enc w fuel cs d p h hw => by
  have hl : cs.length = 201 := by obtain ⟨_, _, _, _, hl, _⟩ := DataW.trod_struct Try.underlying48 h; rw [hl]; kernel_rfl
  obtain ⟨x0, h0⟩ := opn_field (α := Vector (GEntry) 32) (o := 0) (k := 192) Try.underlying48 h hw 0 _ rfl rfl rfl (by kernel_rfl) op45
  obtain ⟨x1, h1⟩ := opn_field (α := List (Int)) (o := 192) (k := 1) Try.underlying48 h hw 1 _ rfl rfl rfl (by kernel_rfl) op27
  obtain ⟨x2, h2⟩ := opn_field (α := Vector (Int) 8) (o := 193) (k := 8) Try.underlying48 h hw 2 _ rfl rfl rfl (by kernel_rfl) op46
  exact ⟨⟨x0, x1, x2⟩, GNode.fol ⟨hl, h0, h1, h2⟩⟩⟩
theorem op9 : Opn Try.prog 9 ByteArray := opn_string Try.underlying9 (by kernel_rfl)
theorem op69 : Opn Try.prog 69 (List (ByteArray)) := opn_slice Try.underlying69 (by kernel_rfl) op9 (by decide) (by kernel_rfl)
end Go.Proofs.Ytopgdemmdcipcaa
