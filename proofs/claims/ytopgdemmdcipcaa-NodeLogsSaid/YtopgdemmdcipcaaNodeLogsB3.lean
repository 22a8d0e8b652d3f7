/- What the proof of NodeLogs rests on, part 3: rules of walks, what functions compute, and plain laws of it. -/
import Derived.Test.YtopgdemmdcipcaaNodeLogsB2
namespace Go.Proofs.Ytopgdemmdcipcaa
open Go.RowKit
open Rep (rep)
set_option linter.unusedVariables false
def reach_j2 (y69 : Int) (rec70 : (Vector Bool 32) → (List Int) → Int → Option (Vector Bool 32)) (d79 : Vector Bool 32) (l82 : List Int) : Option (Vector Bool 32) :=
 rec70 d79 l82 (IntKind.wrap .i64 (y69 + 1))
def reach_j3 (d64 : Vector Bool 32) (l67 : List Int) (y69 : Int) (rec70 : (Vector Bool 32) → (List Int) → Int → Option (Vector Bool 32)) (x87 : Int) (c91 : Bool) : Option (Vector Bool 32) :=
 (bif c91 then
 (inR x87 32).bind fun _ =>
 (idxV d64 x87).bind fun x98 =>
 (setV d64 x87 true).bind fun a101 =>
 (some a101).bind fun d103 =>
 (app l67 ([x87] : List Int)).bind fun l108 =>
 reach_j2 y69 rec70 d103 l108
 else
 reach_j2 y69 rec70 d64 l67)
def reach_l2 (rec37 : (Vector Bool 32) → (List Int) → Option (Vector Bool 32)) (x56 : List Int) : Nat → (Vector Bool 32) → (List Int) → Int → Option (Vector Bool 32)
 | 0, _, _, _ => none
 | n + 1, d64, l67, y69 =>
 (bif decide (y69 < (x56.length : Int)) then
 (idx x56 y69).bind fun x87 =>
 (bif decide (x87 ≥ 0) then
 (bif decide (x87 < 32) then
 (inR x87 32).bind fun _ =>
 (idxV d64 x87).bind fun x114 =>
 reach_j3 d64 l67 y69 (reach_l2 rec37 x56 n) x87 (!x114)
 else
 reach_j3 d64 l67 y69 (reach_l2 rec37 x56 n) x87 false)
 else
 reach_j3 d64 l67 y69 (reach_l2 rec37 x56 n) x87 false)
 else
 rec37 d64 l67)
def reach_l1 (fu : Nat) (x1 : GGraph) : Nat → (Vector Bool 32) → (List Int) → Option (Vector Bool 32)
 | 0, _, _ => none
 | n + 1, d32, l35 =>
 (bif decide ((l35.length : Int) > 0) then
 (idx l35 (IntKind.wrap .i64 ((l35.length : Int) - 1))).bind fun x45 =>
 (cutL l35 none (some (IntKind.wrap .i64 ((l35.length : Int) - 1)))).bind fun l48 =>
 (inR x45 32).bind fun _ =>
 (idxV x1.known x45).bind fun x51 =>
 (bif !x51 then
 (reach_l1 fu x1 n) d32 l48
 else
 (inR x45 32).bind fun _ =>
 (idxV x1.deps x45).bind fun x56 =>
 reach_l2 (reach_l1 fu x1 n) x56 fu d32 l48 0)
 else
 (some d32).bind fun d119 =>
 some d119)
def reach_j1 (fu : Nat) (x1 : GGraph) (x2 : Int) (d13 : Vector Bool 32) : Option (Vector Bool 32) :=
 (inR x2 32).bind fun _ =>
 (idxV (Zr.zd : Vector Bool 32) x2).bind fun x19 =>
 (setV (Zr.zd : Vector Bool 32) x2 true).bind fun a22 =>
 (some a22).bind fun d24 =>
 reach_l1 fu x1 fu d24 ([x2] : List Int)
def reach_j4 (fu : Nat) (x1 : GGraph) (x2 : Int) (c124 : Bool) : Option (Vector Bool 32) :=
 (bif c124 then
 (some (Zr.zd : Vector Bool 32)).bind fun d130 =>
 some d130
 else
 reach_j1 fu x1 x2 (Zr.zd : Vector Bool 32))
def reachD (fu : Nat) (x1 : GGraph) (x2 : Int) : Option (Vector Bool 32) :=
 (bif decide (x2 < 0) then
 reach_j4 fu x1 x2 true
 else
 reach_j4 fu x1 x2 (decide (x2 ≥ 32)))
set_option maxRecDepth 100000 in
set_option maxHeartbeats 4000000 in
theorem reach_ok {M : Mm} {w : World} {cx1 : List Value} {x1 : GGraph} {x2 : Int} {fu : Nat} {r : (Vector Bool 32)} (hA : Agree M w) (hcx1 : rep M cx1 x1) (hz : reachD fu x1 x2 = some r) :
    Calls Try.prog 32 #[.agg cx1.toArray, .int .i64 x2] w (Gives M w (fun M' u => ∃ cs, u = .agg cs.toArray ∧ rep M' cs r)) := by
 refine calls_W Try.func32 rfl 69 rfl rfl (by kernel_rfl) fun T hT => ?_
 have hT_0 : T 0 = .agg cx1.toArray := hT 0
 have hT_1 : T 1 = .int .i64 x2 := hT 1
 clear hT
 have hE := Mm.ext.refl w.heap.size noX M
 have hS : St w noX M [] w := St.start hA
 rw [reachD] at hz
 refine W_seq <|W_reg ?_
 refine WL_c (O_box (v := .agg cx1.toArray) (cs := cx1) hT_0 rfl hS ?_)
 intro b4 w3 hb4 hS
 replace hS : St w noX M [.box b4 cx1 64] w3 := hS
 refine WL_c (O_alloc tz61 hS ?_)
 intro b6 w5 hb6 hS
 replace hS : St w noX M [.box b6 (Zr.zc (Vector Bool 32)) 61, .box b4 cx1 64] w5 := hS
 have zb6 : rep M (Zr.zc (Vector Bool 32)) (Zr.zd : Vector Bool 32) := Zr.zr
 refine WL_nil (nm_then ?_)
 refine W_seq <|W_reg ?_
 refine WL_c (O_alloc tz61 hS ?_)
 intro b8 w7 hb8 hS
 replace hS : St w noX M [.box b8 (Zr.zc (Vector Bool 32)) 61, .box b6 (Zr.zc (Vector Bool 32)) 61, .box b4 cx1 64] w7 := hS
 have zb8 : rep M (Zr.zc (Vector Bool 32)) (Zr.zd : Vector Bool 32) := Zr.zr
 refine WL_nil (nm_then ?_)
 refine W_seqJ (fun T' w' => ∃ M10 cs12 d13, Mm.ext w.heap.size noX M M10 ∧ St w noX M10 [.box b8 (Zr.zc (Vector Bool 32)) 61, .box b6 cs12 61, .box b4 cx1 64] w' ∧ rep M10 cs12 d13 ∧ T' 1 = .int .i64 x2 ∧ T' 2 = .pointer (some ⟨b4, 0, none⟩) ∧ T' 4 = .pointer (some ⟨b6, 0, none⟩) ∧ T' 5 = .pointer (some ⟨b8, 0, none⟩) ∧ reach_j1 fu x1 x2 d13 = some r) ?_ ?_
 have hF120 := Mm.ext.refl w.heap.size noX M
 refine W_seqJ (fun T' w' => ∃ M122 c124, Mm.ext w.heap.size noX M M122 ∧ St w noX M122 [.box b8 (Zr.zc (Vector Bool 32)) 61, .box b6 (Zr.zc (Vector Bool 32)) 61, .box b4 cx1 64] w' ∧ T' 1 = .int .i64 x2 ∧ T' 2 = .pointer (some ⟨b4, 0, none⟩) ∧ T' 4 = .pointer (some ⟨b6, 0, none⟩) ∧ T' 5 = .pointer (some ⟨b8, 0, none⟩) ∧ T' 15 = .bool c124 ∧ reach_j4 fu x1 x2 c124 = some r) ?_ ?_
 have hF131 := Mm.ext.refl w.heap.size noX M
 refine W_reg <|WL_y (Y_move (.int .i64 x2) hT_1) <|WL_y (Y_lss rfl rfl) <|WL_y (Y_move (.bool (decide (x2 < 0))) rfl) ?_
 rcases ic hz with ⟨hc132, hz⟩ | ⟨hc132, hz⟩ <;> rw [hc132]
 refine WL_d 3 rfl ?_
 refine WL_nil (nm_then ?_)
 exact ⟨M, true, hF131, hS, hT_1, rfl, rfl, rfl, rfl, hz⟩
 refine WL_gy rfl rfl (Y_move (.int .i64 x2) hT_1) <|WL_gy rfl rfl (Y_geq rfl rfl) <|WL_y (Y_pick_f (.bool (decide (x2 ≥ 32))) rfl rfl) ?_
 refine WL_nil (nm_then ?_)
 exact ⟨M, (decide (x2 ≥ 32)), hF131, hS, hT_1, rfl, rfl, rfl, rfl, hz⟩
 rintro T123 w121 ⟨M122, c124, hx125, hS, hT123_1, hT123_2, hT123_4, hT123_5, hT123_15, hz⟩
 replace hcx1 := Rep.mono hx125.1 hcx1
 replace zb6 := Rep.mono hx125.1 zb6
 replace zb8 := Rep.mono hx125.1 zb8
 replace hE := Mm.ext.trans hE hx125
 replace hF120 := Mm.ext.trans hF120 hx125
 rw [reach_j4] at hz
 refine W_cond hT123_15 (fun hc126 => ?_) (fun hc126 => ?_)
 replace hz := bif_ok_t hz hc126
 refine W_seq <|W_reg ?_
 have ha127 := (rep_root (k := 32) rfl zb8)
 refine WL_y (Y_ldn ta61 hT123_5 (hS.bvB 0 rfl) (Rep.len ha127)) ?_
 have hw129 : ((sl (Zr.zc (Vector Bool 32)) (0) 32) : List Value).length = 32 := Rep.len ha127
 have hl129 : ((Zr.zc (Vector Bool 32))).length = 32 := Rep.len zb6
 obtain ⟨d130, hd129, hz⟩ := bind_ok hz
 have hb129 : rep M122 (pt (Zr.zc (Vector Bool 32)) (0) (sl (Zr.zc (Vector Bool 32)) (0) 32)) d130 := rep_eq (rep_whole (k := 32) (by rw [pt_length (by omega)]; exact hl129) (rep_leaf rfl ha127 (by omega))) hd129
 generalize hg129 : (pt (Zr.zc (Vector Bool 32)) (0) (sl (Zr.zc (Vector Bool 32)) (0) 32)) = cs129 at hb129
 refine WL_c (O_st (j := 1) (v := .agg (sl (Zr.zc (Vector Bool 32)) (0) 32).toArray) (ws := (sl (Zr.zc (Vector Bool 32)) (0) 32)) hS rfl (by kernel_rfl) hT123_4 rfl rfl hw129 (Rep.one ha127) (by omega) ?_)
 rw [hg129]
 clear hg129
 intro w128 hS
 replace hS : St w noX M122 [.box b8 (Zr.zc (Vector Bool 32)) 61, .box b6 cs129 61, .box b4 cx1 64] w128 := hS
 refine WL_nil (nm_then ?_)
 cases hz
 exact W_ret (rt_then (R_c (j := 1) rfl hT123_4 (by rw [Rep.len hb129]; exact ta61) hS rfl (Gives.mk (St.dropB (St.dropB (St.dropB hS hb8) hb6) hb4) hE ⟨_, rfl, hb129⟩)))
 replace hz := bif_ok_f hz hc126
 refine W_skip (nm_then ?_)
 exact ⟨M122, (Zr.zc (Vector Bool 32)), (Zr.zd : Vector Bool 32), hF120, hS, zb6, hT123_1, hT123_2, hT123_4, hT123_5, hz⟩
 rintro T11 w9 ⟨M10, cs12, d13, hx14, hS, hb12, hT11_1, hT11_2, hT11_4, hT11_5, hz⟩
 replace hcx1 := Rep.mono hx14.1 hcx1
 replace zb8 := Rep.mono hx14.1 zb8
 replace hE := Mm.ext.trans hE hx14
 rw [reach_j1] at hz
 refine W_seq <|W_reg <|WL_y (Y_move (.int .i64 x2) hT11_1) ?_
 obtain ⟨u15, hx16, hz⟩ := bind_ok hz
 obtain ⟨hx16a, hx16b⟩ := inR_some hx16
 refine WL_y (Y_ixA ia61 hT11_5 rfl hx16a hx16b) ?_
 obtain ⟨x19, hx20, hz⟩ := bind_ok hz
 have hw18 : ([.bool true] : List Value).length = 1 := Rep.len (show rep M10 [Value.bool true] (true : Bool) from rfl)
 have hl18 : ((Zr.zc (Vector Bool 32))).length = 32 := Rep.len zb8
 have hq21 := (idxV_some hx20)
 obtain ⟨a22, hx23, hz⟩ := bind_ok hz
 obtain ⟨d24, hd18, hz⟩ := bind_ok hz
 have hb18 : rep M10 (pt (Zr.zc (Vector Bool 32)) (0 + Int.toNat x2 * 1) [.bool true]) d24 := rep_eq (rep_whole (k := 32) (by rw [pt_length (by omega)]; exact hl18) (vs (k := 1) rfl rfl (rep_root (k := 32) rfl zb8) (rep_leaf rfl (show rep M10 [Value.bool true] (true : Bool) from rfl) (by omega)) hx23 (by omega) (by omega) (by omega))) hd18
 generalize hg18 : (pt (Zr.zc (Vector Bool 32)) (0 + Int.toNat x2 * 1) [.bool true]) = cs18 at hb18
 refine WL_c (O_st (j := 0) (v := .bool true) (ws := [.bool true]) hS rfl (by kernel_rfl) rfl rfl rfl hw18 (Rep.one (show rep M10 [Value.bool true] (true : Bool) from rfl)) (by omega) ?_)
 rw [hg18]
 clear hg18
 intro w17 hS
 replace hS : St w noX M10 [.box b8 cs18 61, .box b6 cs12 61, .box b4 cx1 64] w17 := hS
 refine WL_nil (nm_then ?_)
 refine W_seq <|W_reg <|WL_y (Y_move (.int .i64 x2) hT11_1) ?_
 refine WL_c (O_bsliceS (α := Int) (l := ([x2] : List Int)) [.int .i64 x2] tp27 (bpc rfl bp0) rfl rfl (by decide) (by decide) (by decide) hS (brc (show rep M10 [Value.int .i64 x2] (x2 : Int) from rfl) br0) ?_)
 intro v26 xs26 w25 hk26 hS
 replace hS : St w noX M10 [.stk v26 3 1 xs26, .box b8 cs18 61, .box b6 cs12 61, .box b4 cx1 64] w25 := hS
 refine WL_y (Y_assign (v26) rfl) ?_
 refine WL_nil (nm_then ?_)
 refine W_seq <|W_block ?_
 refine W_loop (fun k38 T' w' => ∃ M29 cs31 d32 v33 xs34 l35, Mm.ext w.heap.size noX M10 M29 ∧ St w noX M29 [.stk v33 3 1 xs34, .box b8 cs31 61, .box b6 cs12 61, .box b4 cx1 64] w' ∧ rep M29 cs31 d32 ∧ skr M29 v33 xs34 l35 ∧ T' 2 = .pointer (some ⟨b4, 0, none⟩) ∧ T' 4 = .pointer (some ⟨b6, 0, none⟩) ∧ T' 5 = .pointer (some ⟨b8, 0, none⟩) ∧ T' 6 = v33 ∧ reach_l1 fu x1 k38 d32 l35 = some r) fu ?_ ?_ ?_
 exact ⟨M10, cs18, d24, v26, xs26, ([x2] : List Int), (Mm.ext.refl _ _ _), hS, hb18, hk26, hT11_2, hT11_4, hT11_5, rfl, hz⟩
 rintro T' w' ⟨_, _, _, _, _, _, _, _, _, _, _, _, _, _, hz⟩
 rw [reach_l1] at hz
 cases hz
 intro k38
 rintro T30 w28 ⟨M29, cs31, d32, v33, xs34, l35, hx40, hS, hb31, hk36, hT30_2, hT30_4, hT30_5, hT30_6, hz⟩
 replace hcx1 := Rep.mono hx40.1 hcx1
 replace hb12 := Rep.mono hx40.1 hb12
 replace hE := Mm.ext.trans hE hx40
 have hF39 := hx40
 rw [reach_l1] at hz
 obtain ⟨rec37, hrec37⟩ : ∃ f, f = reach_l1 fu x1 k38 := ⟨_, rfl⟩
 rw [← hrec37] at hz
 refine W_seq <|W_seq <|W_reg <|WL_y (Y_move (v33) hT30_6) ?_
 obtain ⟨a41, c41, hv41, _⟩ := skr_shape hk36
 refine WL_y (Y_lenL Try.underlying27 (tr2 hv41 rfl)) <|WL_y (Y_gtr rfl rfl) ?_
 refine WL_nil (nm_then ?_)
 refine W_cond rfl (fun hc42 => ?_) (fun hc42 => ?_)
 replace hz := bif_ok_t hz hc42
 refine W_skip (nm_then ?_)
 refine W_block <|W_seq <|W_reg <|WL_y (Y_move (v33) hT30_6) <|WL_y (Y_move (v33) hT30_6) ?_
 obtain ⟨a43, c43, hv43, _⟩ := skr_shape hk36
 refine WL_y (Y_lenL Try.underlying27 (tr2 hv43 rfl)) <|WL_y (Y_sub rfl rfl) ?_
 obtain ⟨x45, hx44, hz⟩ := bind_ok hz
 obtain ⟨b44, o44, c44, hv44, hi44, hj44, hM44, hr44⟩ := skv_at (hS.skv (j := 0) rfl hk36) hx44
 replace hr44 : rep _ (sl xs34 (o44 + Int.toNat (IntKind.wrap .i64 ((l35.length : Int) - 1)) * 1) 1) x45 := hr44
 refine WL_y (Y_ixL il27 rfl hv44 rfl hi44 hj44) <|WL_y (Y_ld1 (.int .i64 x45) ts3 rfl (hS.bvK (j := 0) rfl hM44) hr44) <|WL_y (Y_assign (.int .i64 x45) rfl) ?_
 refine WL_nil (nm_then ?_)
 refine W_seq <|W_reg <|WL_y (Y_move (v33) hT30_6) <|WL_y (Y_move (v33) hT30_6) ?_
 obtain ⟨a46, c46, hv46, _⟩ := skr_shape hk36
 refine WL_y (Y_lenL Try.underlying27 (tr2 hv46 rfl)) <|WL_y (Y_sub rfl rfl) ?_
 obtain ⟨l48, hx47, hz⟩ := bind_ok hz
 obtain ⟨⟨pp47, qq47⟩, hc47, hx47⟩ := Option.map_eq_some_iff.1 hx47
 obtain ⟨a47, c47, hv47, hn47⟩ := skr_shape hk36
 refine WL_y (Y_cutL (l := none) (h := (some (IntKind.wrap .i64 ((l35.length : Int) - 1)))) il27 rfl hv47 evn (evs rfl) hc47 hn47) ?_
 obtain ⟨hk47, hS⟩ := hS.pop (j := 0) rfl hk36 hc47
 rw [show (List.drop pp47 (List.take qq47 l35)) = l48 from hx47] at hk47
 replace hk47 : skr M29 (cutV v33 1 pp47 qq47) (List.take (qq47 * 1) xs34) l48 := hk47
 replace hS : St w noX M29 [.stk (cutV v33 1 pp47 qq47) 3 1 (List.take (qq47 * 1) xs34), .box b8 cs31 61, .box b6 cs12 61, .box b4 cx1 64] w28 := hS
 refine WL_y (Y_assign ((cutV v33 1 pp47 qq47)) rfl) ?_
 refine WL_nil (nm_then ?_)
 refine W_seq <|W_seq <|W_reg <|WL_y (Y_move (.int .i64 x45) rfl) <|WL_y (Y_fa fa64_0 hT30_2) ?_
 obtain ⟨u49, hx50, hz⟩ := bind_ok hz
 obtain ⟨hx50a, hx50b⟩ := inR_some hx50
 refine WL_y (Y_ixA ia61 rfl rfl hx50a hx50b) ?_
 obtain ⟨x51, hx52, hz⟩ := bind_ok hz
 refine WL_y (Y_ld1 (.bool x51) ts4 rfl (hS.bvB 3 rfl) (vp (k := 1) rfl rfl (GGraph.p0 (rep_root (k := 64) rfl hcx1)) hx52)) <|WL_y (Y_not rfl) ?_
 refine WL_nil (nm_then ?_)
 refine W_cond rfl (fun hc53 => ?_) (fun hc53 => ?_)
 replace hz := bif_ok_t hz hc53
 refine W_exit <|ex_then <|ex_hit ?_
 refine (nm_then ?_)
 exact ⟨M29, cs31, d32, (cutV v33 1 pp47 qq47), (List.take (qq47 * 1) xs34), l48, hF39, hS, hb31, hk47, hT30_2, hT30_4, hT30_5, rfl, (by rw [← hrec37]; exact hz)⟩
 replace hz := bif_ok_f hz hc53
 refine W_skip (nm_then ?_)
 refine W_seq <|W_reg <|WL_y (Y_move (.int .i64 x45) rfl) <|WL_y (Y_fa fa64_1 hT30_2) ?_
 obtain ⟨u54, hx55, hz⟩ := bind_ok hz
 obtain ⟨hx55a, hx55b⟩ := inR_some hx55
 refine WL_y (Y_ixA ia62 rfl rfl hx55a hx55b) ?_
 obtain ⟨x56, hx57, hz⟩ := bind_ok hz
 obtain ⟨v58, ev58, hv58⟩ := (vp (k := 1) rfl rfl (GGraph.p1 (rep_root (k := 64) rfl hcx1)) hx57)
 refine WL_y (Y_ld1 v58 ts27 rfl (hS.bvB 3 rfl) ev58) ?_
 obtain ⟨a59, c59, hv59, _⟩ := repL_shape hv58
 refine WL_y (Y_lenL Try.underlying27 (tr2 hv59 rfl)) <|WL_y (Y_move (.int .i64 0) rfl) ?_
 refine WL_nil (nm_then ?_)
 refine W_block ?_
 refine W_loop (fun k71 T' w' => ∃ M61 cs63 d64 v65 xs66 l67 y69, Mm.ext w.heap.size noX M29 M61 ∧ St w noX M61 [.stk v65 3 1 xs66, .box b8 cs63 61, .box b6 cs12 61, .box b4 cx1 64] w' ∧ rep M61 cs63 d64 ∧ skr M61 v65 xs66 l67 ∧ T' 2 = .pointer (some ⟨b4, 0, none⟩) ∧ T' 4 = .pointer (some ⟨b6, 0, none⟩) ∧ T' 5 = .pointer (some ⟨b8, 0, none⟩) ∧ T' 6 = v65 ∧ T' 43 = v58 ∧ T' 44 = .int .i64 (x56.length : Int) ∧ T' 45 = .int .i64 y69 ∧ reach_l2 rec37 x56 k71 d64 l67 y69 = some r) fu ?_ ?_ ?_
 exact ⟨M29, cs31, d32, (cutV v33 1 pp47 qq47), (List.take (qq47 * 1) xs34), l48, (0 : Int), (Mm.ext.refl _ _ _), hS, hb31, hk47, hT30_2, hT30_4, hT30_5, rfl, rfl, rfl, rfl, hz⟩
 rintro T' w' ⟨_, _, _, _, _, _, _, _, _, _, _, _, _, _, _, _, _, _, hz⟩
 rw [reach_l2] at hz
 cases hz
 intro k71
 rintro T62 w60 ⟨M61, cs63, d64, v65, xs66, l67, y69, hx73, hS, hb63, hk68, hT62_2, hT62_4, hT62_5, hT62_6, hT62_43, hT62_44, hT62_45, hz⟩
 replace hcx1 := Rep.mono hx73.1 hcx1
 replace hb12 := Rep.mono hx73.1 hb12
 replace hv58 := repL.mono hx73.1 hv58
 replace hE := Mm.ext.trans hE hx73
 replace hF39 := Mm.ext.trans hF39 hx73
 have hF72 := hx73
 rw [reach_l2] at hz
 obtain ⟨rec70, hrec70⟩ : ∃ f, f = reach_l2 rec37 x56 k71 := ⟨_, rfl⟩
 rw [← hrec70] at hz
 refine W_seq <|W_reg <|WL_y (Y_lss hT62_45 hT62_44) ?_
 refine WL_nil (nm_then ?_)
 refine W_seq ?_
 refine W_cond rfl (fun hc74 => ?_) (fun hc74 => ?_)
 replace hz := bif_ok_t hz hc74
 refine W_skip (nm_then ?_)
 refine W_seqJ (fun T' w' => ∃ M76 cs78 d79 v80 xs81 l82, Mm.ext w.heap.size noX M61 M76 ∧ St w noX M76 [.stk v80 3 1 xs81, .box b8 cs78 61, .box b6 cs12 61, .box b4 cx1 64] w' ∧ rep M76 cs78 d79 ∧ skr M76 v80 xs81 l82 ∧ T' 2 = .pointer (some ⟨b4, 0, none⟩) ∧ T' 4 = .pointer (some ⟨b6, 0, none⟩) ∧ T' 5 = .pointer (some ⟨b8, 0, none⟩) ∧ T' 6 = v80 ∧ T' 43 = v58 ∧ T' 44 = .int .i64 (x56.length : Int) ∧ T' 45 = .int .i64 y69 ∧ reach_j2 y69 rec70 d79 l82 = some r) ?_ ?_
 have hF85 := Mm.ext.refl w.heap.size noX M61
 refine W_block <|W_seq <|W_reg ?_
 obtain ⟨x87, hx86, hz⟩ := bind_ok hz
 obtain ⟨b86, o86, c86, p86, hv86, hi86, hj86, hM86, hr86⟩ := repL_at hv58 hx86
 replace hr86 : rep _ (sl p86 (o86 + Int.toNat y69 * 1) 1) x87 := hr86
 refine WL_y (Y_ixL il27 hT62_43 hv86 hT62_45 hi86 hj86) <|WL_y (Y_ld1 (.int .i64 x87) ts3 rfl (hS.bvM hM86) hr86) <|WL_y (Y_assign (.int .i64 x87) rfl) ?_
 refine WL_nil (nm_then ?_)
 refine W_seqJ (fun T' w' => ∃ M89 c91, Mm.ext w.heap.size noX M61 M89 ∧ St w noX M89 [.stk v65 3 1 xs66, .box b8 cs63 61, .box b6 cs12 61, .box b4 cx1 64] w' ∧ T' 2 = .pointer (some ⟨b4, 0, none⟩) ∧ T' 4 = .pointer (some ⟨b6, 0, none⟩) ∧ T' 5 = .pointer (some ⟨b8, 0, none⟩) ∧ T' 6 = v65 ∧ T' 9 = .int .i64 x87 ∧ T' 43 = v58 ∧ T' 44 = .int .i64 (x56.length : Int) ∧ T' 45 = .int .i64 y69 ∧ T' 60 = .bool c91 ∧ reach_j3 d64 l67 y69 rec70 x87 c91 = some r) ?_ ?_
 have hF109 := Mm.ext.refl w.heap.size noX M61
 refine W_reg <|WL_y (Y_move (.int .i64 x87) rfl) <|WL_y (Y_geq rfl rfl) <|WL_y (Y_move (.bool (decide (x87 ≥ 0))) rfl) ?_
 rcases ic hz with ⟨hc110, hz⟩ | ⟨hc110, hz⟩ <;> rw [hc110]
 refine WL_gy rfl rfl (Y_move (.int .i64 x87) rfl) <|WL_gy rfl rfl (Y_lss rfl rfl) <|WL_d 2 rfl ?_
 rcases ic hz with ⟨hc111, hz⟩ | ⟨hc111, hz⟩ <;> rw [hc111]
 refine WL_gy rfl rfl (Y_move (.int .i64 x87) rfl) ?_
 obtain ⟨u112, hx113, hz⟩ := bind_ok hz
 obtain ⟨hx113a, hx113b⟩ := inR_some hx113
 refine WL_gy rfl rfl (Y_ixA ia61 hT62_5 rfl hx113a hx113b) ?_
 obtain ⟨x114, hx115, hz⟩ := bind_ok hz
 refine WL_gy rfl rfl (Y_ld1 (.bool x114) ts4 rfl (hS.bvB 1 rfl) (vp (k := 1) rfl rfl (rep_root (k := 32) rfl hb63) hx115)) <|WL_gy rfl rfl (Y_not rfl) <|WL_y (Y_pick_t (.bool (!x114)) rfl rfl) ?_
 refine WL_nil (nm_then ?_)
 exact ⟨M61, (!x114), hF109, hS, hT62_2, hT62_4, hT62_5, hT62_6, rfl, hT62_43, hT62_44, hT62_45, rfl, hz⟩
 refine WL_d 5 rfl ?_
 refine WL_nil (nm_then ?_)
 exact ⟨M61, false, hF109, hS, hT62_2, hT62_4, hT62_5, hT62_6, rfl, hT62_43, hT62_44, hT62_45, rfl, hz⟩
 refine WL_d 9 rfl ?_
 refine WL_nil (nm_then ?_)
 exact ⟨M61, false, hF109, hS, hT62_2, hT62_4, hT62_5, hT62_6, rfl, hT62_43, hT62_44, hT62_45, rfl, hz⟩
 rintro T90 w88 ⟨M89, c91, hx92, hS, hT90_2, hT90_4, hT90_5, hT90_6, hT90_9, hT90_43, hT90_44, hT90_45, hT90_60, hz⟩
 replace hcx1 := Rep.mono hx92.1 hcx1
 replace hb12 := Rep.mono hx92.1 hb12
 replace hv58 := repL.mono hx92.1 hv58
 replace hb63 := Rep.mono hx92.1 hb63
 replace hk68 := skr.mono hx92.1 hk68
 replace hE := Mm.ext.trans hE hx92
 replace hF39 := Mm.ext.trans hF39 hx92
 replace hF72 := Mm.ext.trans hF72 hx92
 replace hF85 := Mm.ext.trans hF85 hx92
 rw [reach_j3] at hz
 refine W_cond hT90_60 (fun hc93 => ?_) (fun hc93 => ?_)
 replace hz := bif_ok_t hz hc93
 refine W_seq <|W_reg <|WL_y (Y_move (.int .i64 x87) hT90_9) ?_
 obtain ⟨u94, hx95, hz⟩ := bind_ok hz
 obtain ⟨hx95a, hx95b⟩ := inR_some hx95
 refine WL_y (Y_ixA ia61 hT90_5 rfl hx95a hx95b) ?_
 obtain ⟨x98, hx99, hz⟩ := bind_ok hz
 have hw97 : ([.bool true] : List Value).length = 1 := Rep.len (show rep M89 [Value.bool true] (true : Bool) from rfl)
 have hl97 : (cs63).length = 32 := Rep.len hb63
 have hq100 := (idxV_some hx99)
 obtain ⟨a101, hx102, hz⟩ := bind_ok hz
 obtain ⟨d103, hd97, hz⟩ := bind_ok hz
 have hb97 : rep M89 (pt cs63 (0 + Int.toNat x87 * 1) [.bool true]) d103 := rep_eq (rep_whole (k := 32) (by rw [pt_length (by omega)]; exact hl97) (vs (k := 1) rfl rfl (rep_root (k := 32) rfl hb63) (rep_leaf rfl (show rep M89 [Value.bool true] (true : Bool) from rfl) (by omega)) hx102 (by omega) (by omega) (by omega))) hd97
 generalize hg97 : (pt cs63 (0 + Int.toNat x87 * 1) [.bool true]) = cs97 at hb97
 refine WL_c (O_st (j := 1) (v := .bool true) (ws := [.bool true]) hS rfl (by kernel_rfl) rfl rfl rfl hw97 (Rep.one (show rep M89 [Value.bool true] (true : Bool) from rfl)) (by omega) ?_)
 rw [hg97]
 clear hg97
 intro w96 hS
 replace hS : St w noX M89 [.stk v65 3 1 xs66, .box b8 cs97 61, .box b6 cs12 61, .box b4 cx1 64] w96 := hS
 refine WL_nil (nm_then ?_)
 refine W_reg <|WL_y (Y_move (v65) hT90_6) <|WL_y (Y_move (.int .i64 x87) hT90_9) ?_
 refine WL_c (O_bslice (α := Int) (l := ([x87] : List Int)) [.int .i64 x87] tl27 (bpc rfl bp0) rfl rfl (by decide) (by decide) (by decide) hS (brc (show rep M89 [Value.int .i64 x87] (x87 : Int) from rfl) br0) ?_)
 intro v105 M105 w104 hx105 hv105 hS
 replace hcx1 := Rep.mono hx105.1 hcx1
 replace hb12 := Rep.mono hx105.1 hb12
 replace hv58 := repL.mono hx105.1 hv58
 replace hk68 := skr.mono hx105.1 hk68
 replace hb97 := Rep.mono hx105.1 hb97
 replace hE := Mm.ext.trans hE hx105
 replace hF39 := Mm.ext.trans hF39 hx105
 replace hF72 := Mm.ext.trans hF72 hx105
 replace hF85 := Mm.ext.trans hF85 hx105
 obtain ⟨l108, hr107, hz⟩ := bind_ok hz
 obtain ⟨hy107, hs107⟩ := app_some hr107
 refine WL_c (O_appS (α := Int) (j := 0) tp27 hS rfl rfl rfl hk68 hv105 hy107 ?_)
 intro v107 xs107 w106 hk107 hS
 rw [← hs107] at hk107
 clear hr107 hs107
 replace hS : St w noX M105 [.stk v107 3 1 xs107, .box b8 cs97 61, .box b6 cs12 61, .box b4 cx1 64] w106 := hS
 refine WL_y (Y_assign (v107) rfl) ?_
 refine WL_nil (nm_blk ?_)
 refine (nm_then ?_)
 exact ⟨M105, cs97, d103, v107, xs107, l108, hF85, hS, hb97, hk107, hT90_2, hT90_4, hT90_5, rfl, hT90_43, hT90_44, hT90_45, hz⟩
 replace hz := bif_ok_f hz hc93
 refine W_skip (nm_blk ?_)
 refine (nm_then ?_)
 exact ⟨M89, cs63, d64, v65, xs66, l67, hF85, hS, hb63, hk68, hT90_2, hT90_4, hT90_5, hT90_6, hT90_43, hT90_44, hT90_45, hz⟩
 rintro T77 w75 ⟨M76, cs78, d79, v80, xs81, l82, hx84, hS, hb78, hk83, hT77_2, hT77_4, hT77_5, hT77_6, hT77_43, hT77_44, hT77_45, hz⟩
 replace hcx1 := Rep.mono hx84.1 hcx1
 replace hb12 := Rep.mono hx84.1 hb12
 replace hv58 := repL.mono hx84.1 hv58
 replace hE := Mm.ext.trans hE hx84
 replace hF39 := Mm.ext.trans hF39 hx84
 replace hF72 := Mm.ext.trans hF72 hx84
 rw [reach_j2] at hz
 refine W_reg <|WL_y (Y_add hT77_45 rfl) <|WL_y (Y_move (.int .i64 (IntKind.wrap .i64 (y69 + 1))) rfl) ?_
 refine WL_nil (nm_then ?_)
 exact ⟨M76, cs78, d79, v80, xs81, l82, (IntKind.wrap .i64 (y69 + 1)), hF72, hS, hb78, hk83, hT77_2, hT77_4, hT77_5, hT77_6, hT77_43, hT77_44, rfl, (by rw [← hrec70]; exact hz)⟩
 replace hz := bif_ok_f hz hc74
 refine W_exit <|ex_then <|ex_then <|ex_hit ?_
 refine (nm_blk ?_)
 refine (nm_then ?_)
 exact ⟨M61, cs63, d64, v65, xs66, l67, hF39, hS, hb63, hk68, hT62_2, hT62_4, hT62_5, hT62_6, (by rw [← hrec37]; exact hz)⟩
 replace hz := bif_ok_f hz hc42
 refine W_exit <|ex_then <|ex_then <|ex_hit ?_
 refine (nm_then ?_)
 refine W_seq <|W_reg ?_
 have ha116 := (rep_root (k := 32) rfl hb31)
 refine WL_y (Y_ldn ta61 hT30_5 (hS.bvB 1 rfl) (Rep.len ha116)) ?_
 have hw118 : ((sl cs31 (0) 32) : List Value).length = 32 := Rep.len ha116
 have hl118 : (cs12).length = 32 := Rep.len hb12
 obtain ⟨d119, hd118, hz⟩ := bind_ok hz
 have hb118 : rep M29 (pt cs12 (0) (sl cs31 (0) 32)) d119 := rep_eq (rep_whole (k := 32) (by rw [pt_length (by omega)]; exact hl118) (rep_leaf rfl ha116 (by omega))) hd118
 generalize hg118 : (pt cs12 (0) (sl cs31 (0) 32)) = cs118 at hb118
 refine WL_c (O_st (j := 2) (v := .agg (sl cs31 (0) 32).toArray) (ws := (sl cs31 (0) 32)) hS rfl (by kernel_rfl) hT30_4 rfl rfl hw118 (Rep.one ha116) (by omega) ?_)
 rw [hg118]
 clear hg118
 intro w117 hS
 replace hS : St w noX M29 [.stk v33 3 1 xs34, .box b8 cs31 61, .box b6 cs118 61, .box b4 cx1 64] w117 := hS
 refine WL_nil (nm_then ?_)
 cases hz
 exact W_ret (R_c (j := 2) rfl hT30_4 (by rw [Rep.len hb118]; exact ta61) hS rfl (Gives.mk (St.dropB (St.dropB (St.dropB (St.drop hS) hb8) hb6) hb4) hE ⟨_, rfl, hb118⟩))
def ready_j2 (y16 : Int) (rec17 : Int → Option Bool) : Option Bool :=
 rec17 (IntKind.wrap .i64 (y16 + 1))
def ready_j3 (y16 : Int) (rec17 : Int → Option Bool) (c32 : Bool) : Option Bool :=
 (bif c32 then
 some false
 else
 ready_j2 y16 rec17)
def ready_l1 (x1 : GGraph) (r12 : (Vector Bool 32)) : Nat → Int → Option Bool
 | 0, _ => none
 | n + 1, y16 =>
 (bif decide (y16 < 32) then
 (idxV r12 y16).bind fun x27 =>
 (bif x27 then
 (inR y16 32).bind fun _ =>
 (idxV x1.known y16).bind fun x39 =>
 ready_j3 y16 (ready_l1 x1 r12 n) (!x39)
 else
 ready_j3 y16 (ready_l1 x1 r12 n) false)
 else
 some true)
def ready_j1 (fu : Nat) (x1 : GGraph) (x2 : Int) : Option Bool :=
 (reachD fu x1 x2).bind fun r12 =>
 ready_l1 x1 r12 fu 0
def ready_j4 (fu : Nat) (x1 : GGraph) (x2 : Int) (c45 : Bool) : Option Bool :=
 (bif c45 then
 some false
 else
 ready_j1 fu x1 x2)
def readyD (fu : Nat) (x1 : GGraph) (x2 : Int) : Option Bool :=
 (bif decide (x2 < 0) then
 ready_j4 fu x1 x2 true
 else
 ready_j4 fu x1 x2 (decide (x2 ≥ 32)))
set_option maxRecDepth 100000 in
set_option maxHeartbeats 4000000 in
theorem ready_ok {M : Mm} {w : World} {cx1 : List Value} {x1 : GGraph} {x2 : Int} {fu : Nat} {r : Bool} (hA : Agree M w) (hcx1 : rep M cx1 x1) (hz : readyD fu x1 x2 = some r) :
    Calls Try.prog 85 #[.agg cx1.toArray, .int .i64 x2] w (GivesV w (.bool r)) := by
 refine calls_W Try.func85 rfl 29 rfl rfl (by kernel_rfl) fun T hT => ?_
 have hT_0 : T 0 = .agg cx1.toArray := hT 0
 have hT_1 : T 1 = .int .i64 x2 := hT 1
 clear hT
 have hE := Mm.ext.refl w.heap.size noX M
 have hS : St w noX M [] w := St.start hA
 rw [readyD] at hz
 refine W_seq <|W_reg ?_
 refine WL_c (O_box (v := .agg cx1.toArray) (cs := cx1) hT_0 rfl hS ?_)
 intro b4 w3 hb4 hS
 replace hS : St w noX M [.box b4 cx1 64] w3 := hS
 refine WL_y (Y_assign (.bool false) rfl) ?_
 refine WL_nil (nm_then ?_)
 refine W_seqJ (fun T' w' => ∃ M6, Mm.ext w.heap.size noX M M6 ∧ St w noX M6 [.box b4 cx1 64] w' ∧ T' 1 = .int .i64 x2 ∧ T' 2 = .pointer (some ⟨b4, 0, none⟩) ∧ ready_j1 fu x1 x2 = some r) ?_ ?_
 have hF41 := Mm.ext.refl w.heap.size noX M
 refine W_seqJ (fun T' w' => ∃ M43 c45, Mm.ext w.heap.size noX M M43 ∧ St w noX M43 [.box b4 cx1 64] w' ∧ T' 1 = .int .i64 x2 ∧ T' 2 = .pointer (some ⟨b4, 0, none⟩) ∧ T' 12 = .bool c45 ∧ ready_j4 fu x1 x2 c45 = some r) ?_ ?_
 have hF48 := Mm.ext.refl w.heap.size noX M
 refine W_reg <|WL_y (Y_move (.int .i64 x2) hT_1) <|WL_y (Y_lss rfl rfl) <|WL_y (Y_move (.bool (decide (x2 < 0))) rfl) ?_
 rcases ic hz with ⟨hc49, hz⟩ | ⟨hc49, hz⟩ <;> rw [hc49]
 refine WL_d 3 rfl ?_
 refine WL_nil (nm_then ?_)
 exact ⟨M, true, hF48, hS, hT_1, rfl, rfl, hz⟩
 refine WL_gy rfl rfl (Y_move (.int .i64 x2) hT_1) <|WL_gy rfl rfl (Y_geq rfl rfl) <|WL_y (Y_pick_f (.bool (decide (x2 ≥ 32))) rfl rfl) ?_
 refine WL_nil (nm_then ?_)
 exact ⟨M, (decide (x2 ≥ 32)), hF48, hS, hT_1, rfl, rfl, hz⟩
 rintro T44 w42 ⟨M43, c45, hx46, hS, hT44_1, hT44_2, hT44_12, hz⟩
 replace hcx1 := Rep.mono hx46.1 hcx1
 replace hE := Mm.ext.trans hE hx46
 replace hF41 := Mm.ext.trans hF41 hx46
 rw [ready_j4] at hz
 refine W_cond hT44_12 (fun hc47 => ?_) (fun hc47 => ?_)
 replace hz := bif_ok_t hz hc47
 refine W_seq <|W_reg <|WL_y (Y_assign (.bool false) rfl) ?_
 refine WL_nil (nm_then ?_)
 cases hz
 exact W_ret (rt_then (R_t1 rfl rfl ⟨rfl, (St.dropB hS hb4).kept⟩))
 replace hz := bif_ok_f hz hc47
 refine W_skip (nm_then ?_)
 exact ⟨M43, hF41, hS, hT44_1, hT44_2, hz⟩
 rintro T7 w5 ⟨M6, hx8, hS, hT7_1, hT7_2, hz⟩
 replace hcx1 := Rep.mono hx8.1 hcx1
 replace hE := Mm.ext.trans hE hx8
 rw [ready_j1] at hz
 refine W_seq <|W_seq <|W_reg ?_
 have ha9 := (rep_root (k := 64) rfl hcx1)
 refine WL_y (Y_ldn ta64 hT7_2 (hS.bvB 0 rfl) (Rep.len ha9)) <|WL_y (Y_move (.int .i64 x2) hT7_1) ?_
 obtain ⟨r12, hr11, hz⟩ := bind_ok hz
 refine WL_c (O_mem (vs := [.agg (sl cx1 (0) 64).toArray, .int .i64 x2]) (rv := (fun M' u => ∃ cs, u = .agg cs.toArray ∧ rep M' cs r12)) cb32 (args2 rfl rfl) hS (reach_ok hS.agree ha9 hr11) ?_)
 intro u11 M11 w10 hx11 hu11 hS
 obtain ⟨c11, hq11, f11⟩ := hu11
 subst hq11
 replace hcx1 := Rep.mono hx11.1 hcx1
 replace ha9 := Rep.mono hx11.1 ha9
 replace hE := Mm.ext.trans hE hx11
 refine WL_y (Y_move (.int .i64 0) rfl) ?_
 refine WL_nil (nm_then ?_)
 refine W_block ?_
 refine W_loop (fun k18 T' w' => ∃ M14 y16, Mm.ext w.heap.size noX M11 M14 ∧ St w noX M14 [.box b4 cx1 64] w' ∧ T' 2 = .pointer (some ⟨b4, 0, none⟩) ∧ T' 15 = .agg c11.toArray ∧ T' 16 = .int .i64 y16 ∧ ready_l1 x1 r12 k18 y16 = some r) fu ?_ ?_ ?_
 exact ⟨M11, (0 : Int), (Mm.ext.refl _ _ _), hS, hT7_2, rfl, rfl, hz⟩
 rintro T' w' ⟨_, _, _, _, _, _, _, hz⟩
 rw [ready_l1] at hz
 cases hz
 intro k18
 rintro T15 w13 ⟨M14, y16, hx20, hS, hT15_2, hT15_15, hT15_16, hz⟩
 replace hcx1 := Rep.mono hx20.1 hcx1
 replace f11 := Rep.mono hx20.1 f11
 replace hE := Mm.ext.trans hE hx20
 have hF19 := hx20
 rw [ready_l1] at hz
 obtain ⟨rec17, hrec17⟩ : ∃ f, f = ready_l1 x1 r12 k18 := ⟨_, rfl⟩
 rw [← hrec17] at hz
 refine W_seq <|W_reg <|WL_y (Y_lss hT15_16 rfl) ?_
 refine WL_nil (nm_then ?_)
 refine W_seq ?_
 refine W_cond rfl (fun hc21 => ?_) (fun hc21 => ?_)
 replace hz := bif_ok_t hz hc21
 refine W_skip (nm_then ?_)
 refine W_seqJ (fun T' w' => ∃ M23, Mm.ext w.heap.size noX M14 M23 ∧ St w noX M23 [.box b4 cx1 64] w' ∧ T' 2 = .pointer (some ⟨b4, 0, none⟩) ∧ T' 15 = .agg c11.toArray ∧ T' 16 = .int .i64 y16 ∧ ready_j2 y16 rec17 = some r) ?_ ?_
 have hF26 := Mm.ext.refl w.heap.size noX M14
 refine W_block <|W_seq <|W_reg <|WL_y (Y_move (.int .i64 y16) hT15_16) ?_
 obtain ⟨x27, hx28, hz⟩ := bind_ok hz
 obtain ⟨hx28a, hx28b, hx28⟩ := repV_at f11 hx28
 refine WL_y (Y_ixV1 (.bool x27) iv61 hT15_15 hT15_16 hx28a hx28b hx28) <|WL_d 2 rfl ?_
 refine WL_nil (nm_then ?_)
 refine W_seqJ (fun T' w' => ∃ M30 c32, Mm.ext w.heap.size noX M14 M30 ∧ St w noX M30 [.box b4 cx1 64] w' ∧ T' 2 = .pointer (some ⟨b4, 0, none⟩) ∧ T' 15 = .agg c11.toArray ∧ T' 16 = .int .i64 y16 ∧ T' 27 = .bool c32 ∧ ready_j3 y16 rec17 c32 = some r) ?_ ?_
 have hF35 := Mm.ext.refl w.heap.size noX M14
 refine W_reg <|WL_d 2 rfl ?_
 rcases ic hz with ⟨hc36, hz⟩ | ⟨hc36, hz⟩ <;> rw [hc36]
 refine WL_gy rfl rfl (Y_move (.int .i64 y16) rfl) <|WL_gy rfl rfl (Y_fa fa64_0 hT15_2) ?_
 obtain ⟨u37, hx38, hz⟩ := bind_ok hz
 obtain ⟨hx38a, hx38b⟩ := inR_some hx38
 refine WL_gy rfl rfl (Y_ixA ia61 rfl rfl hx38a hx38b) ?_
 obtain ⟨x39, hx40, hz⟩ := bind_ok hz
 refine WL_gy rfl rfl (Y_ld1 (.bool x39) ts4 rfl (hS.bvB 0 rfl) (vp (k := 1) rfl rfl (GGraph.p0 (rep_root (k := 64) rfl hcx1)) hx40)) <|WL_gy rfl rfl (Y_not rfl) <|WL_y (Y_pick_t (.bool (!x39)) rfl rfl) ?_
 refine WL_nil (nm_then ?_)
 exact ⟨M14, (!x39), hF35, hS, hT15_2, hT15_15, hT15_16, rfl, hz⟩
 refine WL_d 6 rfl ?_
 refine WL_nil (nm_then ?_)
 exact ⟨M14, false, hF35, hS, hT15_2, hT15_15, hT15_16, rfl, hz⟩
 rintro T31 w29 ⟨M30, c32, hx33, hS, hT31_2, hT31_15, hT31_16, hT31_27, hz⟩
 replace hcx1 := Rep.mono hx33.1 hcx1
 replace f11 := Rep.mono hx33.1 f11
 replace hE := Mm.ext.trans hE hx33
 replace hF19 := Mm.ext.trans hF19 hx33
 replace hF26 := Mm.ext.trans hF26 hx33
 rw [ready_j3] at hz
 refine W_cond hT31_27 (fun hc34 => ?_) (fun hc34 => ?_)
 replace hz := bif_ok_t hz hc34
 refine W_seq <|W_reg <|WL_y (Y_assign (.bool false) rfl) ?_
 refine WL_nil (nm_then ?_)
 cases hz
 exact W_ret (rt_blk (rt_then (rt_then (rt_blk (rt_then (R_t1 rfl rfl ⟨rfl, (St.dropB hS hb4).kept⟩))))))
 replace hz := bif_ok_f hz hc34
 refine W_skip (nm_blk ?_)
 refine (nm_then ?_)
 exact ⟨M30, hF26, hS, hT31_2, hT31_15, hT31_16, hz⟩
 rintro T24 w22 ⟨M23, hx25, hS, hT24_2, hT24_15, hT24_16, hz⟩
 replace hcx1 := Rep.mono hx25.1 hcx1
 replace f11 := Rep.mono hx25.1 f11
 replace hE := Mm.ext.trans hE hx25
 replace hF19 := Mm.ext.trans hF19 hx25
 rw [ready_j2] at hz
 refine W_reg <|WL_y (Y_add hT24_16 rfl) <|WL_y (Y_move (.int .i64 (IntKind.wrap .i64 (y16 + 1))) rfl) ?_
 refine WL_nil (nm_then ?_)
 exact ⟨M23, (IntKind.wrap .i64 (y16 + 1)), hF19, hS, hT24_2, hT24_15, rfl, (by rw [← hrec17]; exact hz)⟩
 replace hz := bif_ok_f hz hc21
 refine W_exit <|ex_then <|ex_then <|ex_hit ?_
 refine (nm_then ?_)
 refine W_seq <|W_reg <|WL_y (Y_assign (.bool true) rfl) ?_
 refine WL_nil (nm_then ?_)
 cases hz
 exact W_ret (R_t1 rfl rfl ⟨rfl, (St.dropB hS hb4).kept⟩)
def visit_j1 (y75 : Int) (rec76 : GSearch → (List Int) → Int → Option (GSearch × (List Int))) (d85 : GSearch) (l88 : List Int) : Option (GSearch × (List Int)) :=
 rec76 d85 l88 (IntKind.wrap .i64 (y75 + 1))
def visit_j2 (x4 : Int) (rec0 : GSearch → (List Int) → Int → Option (GSearch × (List Int))) (d69 : GSearch) (l72 : List Int) (y75 : Int) (rec76 : GSearch → (List Int) → Int → Option (GSearch × (List Int))) (x94 : Int) (c98 : Bool) : Option (GSearch × (List Int)) :=
 (bif c98 then
 visit_j1 y75 rec76 d69 l72
 else
 (inR x94 32).bind fun _ =>
 (idxV d69.mark_ x94).bind fun x103 =>
 (bif x103 == 0 then
 (rec0 d69 l72 x94).bind fun r108 =>
 (inR x4 32).bind fun _ =>
 (idxV r108.1.low x4).bind fun x114 =>
 (inR x94 32).bind fun _ =>
 (idxV r108.1.low x94).bind fun x118 =>
 (inR x4 32).bind fun _ =>
 (idxV r108.1.low x4).bind fun x124 =>
 (setV r108.1.low x4 (min x114 x118)).bind fun a127 =>
 (some ({ r108.1 with low := a127 } : GSearch)).bind fun d129 =>
 visit_j1 y75 rec76 d129 r108.2
 else
 (inR x94 32).bind fun _ =>
 (idxV d69.on_ x94).bind fun x133 =>
 (bif x133 then
 (inR x4 32).bind fun _ =>
 (idxV d69.low x4).bind fun x141 =>
 (inR x94 32).bind fun _ =>
 (idxV d69.mark_ x94).bind fun x145 =>
 (inR x4 32).bind fun _ =>
 (idxV d69.low x4).bind fun x151 =>
 (setV d69.low x4 (min x141 x145)).bind fun a154 =>
 (some ({ d69 with low := a154 } : GSearch)).bind fun d156 =>
 visit_j1 y75 rec76 d156 l72
 else
 visit_j1 y75 rec76 d69 l72)))
def visit_l4 (l72 : List Int) (y174 : Int) (y188 : Int) (l198 : List Int) : Nat → GSearch → Int → Option (GSearch × (List Int))
 | 0, _, _ => none
 | n + 1, d204, y206 =>
 (bif decide (y206 < (l198.length : Int)) then
 (idx l198 y206).bind fun x213 =>
 (inR x213 32).bind fun _ =>
 (idxV d204.ring x213).bind fun x221 =>
 (setV d204.ring x213 y188).bind fun a224 =>
 (some ({ d204 with ring := a224 } : GSearch)).bind fun d226 =>
 (inR x213 32).bind fun _ =>
 (idxV d226.on_ x213).bind fun x233 =>
 (setV d226.on_ x213 false).bind fun a236 =>
 (some ({ d226 with on_ := a236 } : GSearch)).bind fun d238 =>
 (visit_l4 l72 y174 y188 l198 n) d238 (IntKind.wrap .i64 (y206 + 1))
 else
 (cutL l72 none (some y174)).bind fun l242 =>
 (some ({ d204 with stack := Hole.mk } : GSearch)).bind fun d245 =>
 some (d245, l242))
def visit_l3 (fu : Nat) (d69 : GSearch) (l72 : List Int) (y174 : Int) (l183 : List Int) : Nat → Int → Int → Option (GSearch × (List Int))
 | 0, _, _ => none
 | n + 1, y188, y189 =>
 (bif decide (y189 < (l183.length : Int)) then
 (idx l183 y189).bind fun x196 =>
 (visit_l3 fu d69 l72 y174 l183 n) (min y188 x196) (IntKind.wrap .i64 (y189 + 1))
 else
 (cutL l72 (some y174) none).bind fun l198 =>
 visit_l4 l72 y174 y188 l198 fu d69 0)
def visit_l2 (fu : Nat) (x4 : Int) (d69 : GSearch) (l72 : List Int) : Nat → Int → Option (GSearch × (List Int))
 | 0, _ => none
 | n + 1, y174 =>
 (idx l72 y174).bind fun x180 =>
 (bif x180 != x4 then
 (visit_l2 fu x4 d69 l72 n) (IntKind.wrap .i64 (y174 - 1))
 else
 (cutL l72 (some y174) none).bind fun l183 =>
 visit_l3 fu d69 l72 y174 l183 fu x4 0)
def visit_l1 (fu : Nat) (x4 : Int) (rec0 : GSearch → (List Int) → Int → Option (GSearch × (List Int))) (x61 : List Int) : Nat → GSearch → (List Int) → Int → Option (GSearch × (List Int))
 | 0, _, _, _ => none
 | n + 1, d69, l72, y75 =>
 (bif decide (y75 < (x61.length : Int)) then
 (idx x61 y75).bind fun x94 =>
 (bif decide (x94 < 0) then
 visit_j2 x4 rec0 d69 l72 y75 (visit_l1 fu x4 rec0 x61 n) x94 true
 else
 visit_j2 x4 rec0 d69 l72 y75 (visit_l1 fu x4 rec0 x61 n) x94 (decide (x94 ≥ 32)))
 else
 (inR x4 32).bind fun _ =>
 (idxV d69.low x4).bind fun x162 =>
 (inR x4 32).bind fun _ =>
 (idxV d69.mark_ x4).bind fun x166 =>
 (bif x162 != x166 then
 some (d69, l72)
 else
 visit_l2 fu x4 d69 l72 fu (IntKind.wrap .i64 ((l72.length : Int) - 1))))
def visit_r (fu : Nat) : Nat → GSearch → (List Int) → Int → Option (GSearch × (List Int))
 | 0, _, _, _ => none
 | n + 1, x1, l3, x4 =>
 (some ({ x1 with next := IntKind.wrap .i64 (x1.next + 1) } : GSearch)).bind fun d7 =>
 (inR x4 32).bind fun _ =>
 (idxV d7.mark_ x4).bind fun x16 =>
 (setV d7.mark_ x4 d7.next).bind fun a19 =>
 (some ({ d7 with mark_ := a19 } : GSearch)).bind fun d21 =>
 (inR x4 32).bind fun _ =>
 (idxV d21.low x4).bind fun x27 =>
 (setV d21.low x4 d7.next).bind fun a30 =>
 (some ({ d21 with low := a30 } : GSearch)).bind fun d32 =>
 (app l3 ([x4] : List Int)).bind fun l42 =>
 (some ({ d32 with stack := Hole.mk } : GSearch)).bind fun d46 =>
 (inR x4 32).bind fun _ =>
 (idxV d46.on_ x4).bind fun x52 =>
 (setV d46.on_ x4 true).bind fun a55 =>
 (some ({ d46 with on_ := a55 } : GSearch)).bind fun d57 =>
 (inR x4 32).bind fun _ =>
 (idxV d57.g.deps x4).bind fun x61 =>
 visit_l1 fu x4 (visit_r fu n) x61 fu d57 l42 0
def visitD (fu : Nat) (x1 : GSearch) (l3 : List Int) (x4 : Int) : Option (GSearch × (List Int)) :=
 visit_r fu fu x1 l3 x4
set_option maxRecDepth 100000 in
set_option maxHeartbeats 4000000 in
theorem visit_rok (fu : Nat) : ∀ (nn : Nat) {M : Mm} {w : World} {bx1 : Nat} {cx1 : List Value} {ux1_4 : Value} {xsx1_4 : List Value} {x1 : GSearch} {l3 : List Int} {x4 : Int} {r : GSearch × (List Int)} (hS : St w (lentX [.box bx1 cx1 117, .stk ux1_4 3 1 xsx1_4]) M [.box bx1 cx1 117, .stk ux1_4 3 1 xsx1_4] w) (hcx1 : rep M cx1 x1) (hkx1_4 : skr M ux1_4 xsx1_4 l3) (hpx1_4 : sl cx1 160 1 = [ux1_4]) (hz : visit_r fu nn x1 l3 x4 = some r),
    Calls Try.prog 86 #[.pointer (some ⟨bx1, 0, none⟩), .int .i64 x4] w (GivesL M w [.box bx1 cx1 117, .stk ux1_4 3 1 xsx1_4] (fun M' u L' => ∃ k0 u1 x1, u = .tuple #[] ∧ L' = [.box bx1 k0 117, .stk u1 3 1 x1] ∧ rep M' k0 r.1 ∧ skr M' u1 x1 r.2 ∧ sl k0 160 1 = [u1])) := by
 intro nn
 induction nn with
 | zero => intros; rename_i hz; rw [visit_r] at hz; cases hz
 | succ nn ih =>
  intro M w bx1 cx1 ux1_4 xsx1_4 x1 l3 x4 r hS hcx1 hkx1_4 hpx1_4 hz
  refine calls_W Try.func86 rfl 204 rfl rfl (by kernel_rfl) fun T hT => ?_
  have hT_0 : T 0 = .pointer (some ⟨bx1, 0, none⟩) := hT 0
  have hT_1 : T 1 = .int .i64 x4 := hT 1
  clear hT
  have hE := Mm.ext.refl w.heap.size (lentX [.box bx1 cx1 117, .stk ux1_4 3 1 xsx1_4]) M
  rw [visit_r] at hz
  obtain ⟨rec0, hrec0⟩ : ∃ f, f = visit_r fu nn := ⟨_, rfl⟩
  rw [← hrec0] at hz ih
  refine W_seq <|W_reg <|WL_y (Y_move (.pointer (some ⟨bx1, 0, none⟩)) hT_0) <|WL_y (Y_nil rfl) <|WL_y (Y_fa fa117_6 rfl) <|WL_y (Y_ld1 (.int .i64 x1.next) ts3 rfl (hS.bvB 0 rfl) (GSearch.p6 (rep_root (k := 194) rfl hcx1))) <|WL_y (Y_add rfl rfl) <|WL_y (Y_nil rfl) <|WL_y (Y_fa fa117_6 rfl) ?_
  have hw6 : ([.int .i64 (IntKind.wrap .i64 (x1.next + 1))] : List Value).length = 1 := Rep.len (show rep M [Value.int .i64 (IntKind.wrap .i64 (x1.next + 1))] (IntKind.wrap .i64 (x1.next + 1) : Int) from rfl)
  have hl6 : (cx1).length = 194 := Rep.len hcx1
  obtain ⟨d7, hd6, hz⟩ := bind_ok hz
  have hb6 : rep M (pt cx1 (0 + 193) [.int .i64 (IntKind.wrap .i64 (x1.next + 1))]) d7 := rep_eq (rep_whole (k := 194) (by rw [pt_length (by omega)]; exact hl6) (GSearch.s6 (rep_root (k := 194) rfl hcx1) (rep_leaf rfl (show rep M [Value.int .i64 (IntKind.wrap .i64 (x1.next + 1))] (IntKind.wrap .i64 (x1.next + 1) : Int) from rfl) (by omega)) (by omega) (by omega) (by omega))) hd6
  have hp8 : sl (pt cx1 (0 + 193) [.int .i64 (IntKind.wrap .i64 (x1.next + 1))]) (0 + 160) 1 = [ux1_4] := (sl_pt_apart (by omega) (by omega)).trans hpx1_4
  generalize hg6 : (pt cx1 (0 + 193) [.int .i64 (IntKind.wrap .i64 (x1.next + 1))]) = cs6 at hb6 hp8
  refine WL_c (O_st (j := 0) (v := .int .i64 (IntKind.wrap .i64 (x1.next + 1))) (ws := [.int .i64 (IntKind.wrap .i64 (x1.next + 1))]) hS rfl (by kernel_rfl) rfl rfl rfl hw6 (Rep.one (show rep M [Value.int .i64 (IntKind.wrap .i64 (x1.next + 1))] (IntKind.wrap .i64 (x1.next + 1) : Int) from rfl)) (by omega) ?_)
  rw [hg6]
  clear hg6
  intro w5 hS
  replace hS : St w (lentX [.box bx1 cx1 117, .stk ux1_4 3 1 xsx1_4]) M [.box bx1 cs6 117, .stk ux1_4 3 1 xsx1_4] w5 := hS
  refine WL_nil (nm_then ?_)
  refine W_seq <|W_drawB (Rd M [.box bx1 cs6 117]) (inL [15, 19]) mixed hS fun w9 hS => ?_
  have hG10 := Mm.ext.refl w.heap.size (lentX [.box bx1 cx1 117, .stk ux1_4 3 1 xsx1_4]) M
  have hR11 : Rd M [.box bx1 cs6 117] w9 := Rd.of hS hG10 (by simp)
  refine WB_y (i := 0) rfl (by kernel_rfl) rfl (Y_move (.pointer (some ⟨bx1, 0, none⟩)) hT_0) (fun _ => hR11) <|WB_y (i := 1) rfl (by kernel_rfl) rfl (Y_move (.int .i64 x4) hT_1) (fun _ => hR11) <|WB_y (i := 2) rfl (by kernel_rfl) rfl (Y_move (.pointer (some ⟨bx1, 0, none⟩)) hT_0) (fun _ => hR11) <|WB_y (i := 3) rfl (by kernel_rfl) rfl (Y_move (.int .i64 x4) hT_1) (fun _ => hR11) <|WB_y (i := 4) rfl (by kernel_rfl) rfl (Y_move (.pointer (some ⟨bx1, 0, none⟩)) hT_0) (fun _ => hR11) <|WB_y (i := 5) rfl (by kernel_rfl) rfl (Y_nil rfl) (fun _ => hR11) <|WB_y (i := 6) rfl (by kernel_rfl) rfl (Y_fa fa117_6 rfl) (fun _ => hR11) <|WB_ld (i := 7) rfl (by kernel_rfl) rfl (inL_lt rfl) (by kernel_rfl) (by kernel_rfl) (Y_ld1 (.int .i64 d7.next) ts3 rfl (bvR 0 rfl) (GSearch.p6 (rep_root (k := 194) rfl hb6))) hR11 <|WB_y (i := 8) rfl (by kernel_rfl) rfl (Y_move (.pointer (some ⟨bx1, 0, none⟩)) hT_0) (fun _ => hR11) <|WB_y (i := 9) rfl (by kernel_rfl) rfl (Y_nil rfl) (fun _ => hR11) <|WB_y (i := 10) rfl (by kernel_rfl) rfl (Y_fa fa117_6 rfl) (fun _ => hR11) <|WB_ld (i := 11) rfl (by kernel_rfl) rfl (inL_lt rfl) (by kernel_rfl) (by kernel_rfl) (Y_ld1 (.int .i64 d7.next) ts3 rfl (bvR 0 rfl) (GSearch.p6 (rep_root (k := 194) rfl hb6))) hR11 <|WB_y (i := 12) rfl (by kernel_rfl) rfl (Y_nil rfl) (fun _ => hR11) <|WB_y (i := 13) rfl (by kernel_rfl) rfl (Y_fa fa117_1 rfl) (fun _ => hR11) ?_
  obtain ⟨u12, hx13, hz⟩ := bind_ok hz
  obtain ⟨hx13a, hx13b⟩ := inR_some hx13
  refine WB_y (i := 14) rfl (by kernel_rfl) rfl (Y_ixA ia66 rfl rfl hx13a hx13b) (fun _ => hR11) <|WB_y (i := 16) rfl (by kernel_rfl) rfl (Y_nil rfl) (fun _ => hR11) <|WB_y (i := 17) rfl (by kernel_rfl) rfl (Y_fa fa117_2 rfl) (fun _ => hR11) ?_
  obtain ⟨x16, hx17, hz⟩ := bind_ok hz
  have hw15 : ([.int .i64 d7.next] : List Value).length = 1 := Rep.len (show rep M [Value.int .i64 d7.next] (d7.next : Int) from rfl)
  have hl15 : (cs6).length = 194 := Rep.len hb6
  have hq18 := (idxV_some hx17)
  obtain ⟨a19, hx20, hz⟩ := bind_ok hz
  obtain ⟨d21, hd15, hz⟩ := bind_ok hz
  have hb15 : rep M (pt cs6 (0 + 64 + Int.toNat x4 * 1) [.int .i64 d7.next]) d21 := rep_eq (rep_whole (k := 194) (by rw [pt_length (by omega)]; exact hl15) (GSearch.s1 (rep_root (k := 194) rfl hb6) (vs (k := 1) rfl rfl (GSearch.p1 (rep_root (k := 194) rfl hb6)) (rep_leaf rfl (show rep M [Value.int .i64 d7.next] (d7.next : Int) from rfl) (by omega)) hx20 (by omega) (by omega) (by omega)) (by omega) (by omega) (by omega))) hd15
  have hp22 : sl (pt cs6 (0 + 64 + Int.toNat x4 * 1) [.int .i64 d7.next]) (0 + 160) 1 = [ux1_4] := (sl_pt_apart (by omega) (by omega)).trans hp8
  generalize hg15 : (pt cs6 (0 + 64 + Int.toNat x4 * 1) [.int .i64 d7.next]) = cs15 at hb15 hp22
  refine WB_one (i := 15) (by kernel_rfl) rfl (O_st (j := 0) (v := .int .i64 d7.next) (ws := [.int .i64 d7.next]) hS rfl (by kernel_rfl) rfl rfl rfl hw15 (Rep.one (show rep M [Value.int .i64 d7.next] (d7.next : Int) from rfl)) (by omega) ?_)
  rw [hg15]
  clear hg15
  intro w14 hS
  replace hS : St w (lentX [.box bx1 cx1 117, .stk ux1_4 3 1 xsx1_4]) M [.box bx1 cs15 117, .stk ux1_4 3 1 xsx1_4] w14 := hS
  refine ⟨fun h => Bool.noConfusion (show false = true from h), ?_⟩
  obtain ⟨u23, hx24, hz⟩ := bind_ok hz
  obtain ⟨hx24a, hx24b⟩ := inR_some hx24
  refine WB_y (i := 18) rfl (by kernel_rfl) rfl (Y_ixA ia66 rfl rfl hx24a hx24b) (fun h => Bool.noConfusion (show false = true from h)) ?_
  obtain ⟨x27, hx28, hz⟩ := bind_ok hz
  have hw26 : ([.int .i64 d7.next] : List Value).length = 1 := Rep.len (show rep M [Value.int .i64 d7.next] (d7.next : Int) from rfl)
  have hl26 : (cs15).length = 194 := Rep.len hb15
  have hq29 := (idxV_some hx28)
  obtain ⟨a30, hx31, hz⟩ := bind_ok hz
  obtain ⟨d32, hd26, hz⟩ := bind_ok hz
  have hb26 : rep M (pt cs15 (0 + 96 + Int.toNat x4 * 1) [.int .i64 d7.next]) d32 := rep_eq (rep_whole (k := 194) (by rw [pt_length (by omega)]; exact hl26) (GSearch.s2 (rep_root (k := 194) rfl hb15) (vs (k := 1) rfl rfl (GSearch.p2 (rep_root (k := 194) rfl hb15)) (rep_leaf rfl (show rep M [Value.int .i64 d7.next] (d7.next : Int) from rfl) (by omega)) hx31 (by omega) (by omega) (by omega)) (by omega) (by omega) (by omega))) hd26
  have hp33 : sl (pt cs15 (0 + 96 + Int.toNat x4 * 1) [.int .i64 d7.next]) (0 + 160) 1 = [ux1_4] := (sl_pt_apart (by omega) (by omega)).trans hp22
  generalize hg26 : (pt cs15 (0 + 96 + Int.toNat x4 * 1) [.int .i64 d7.next]) = cs26 at hb26 hp33
  refine WB_one (i := 19) (by kernel_rfl) rfl (O_st (j := 0) (v := .int .i64 d7.next) (ws := [.int .i64 d7.next]) hS rfl (by kernel_rfl) rfl rfl rfl hw26 (Rep.one (show rep M [Value.int .i64 d7.next] (d7.next : Int) from rfl)) (by omega) ?_)
  rw [hg26]
  clear hg26
  intro w25 hS
  replace hS : St w (lentX [.box bx1 cx1 117, .stk ux1_4 3 1 xsx1_4]) M [.box bx1 cs26 117, .stk ux1_4 3 1 xsx1_4] w25 := hS
  refine ⟨fun h => Bool.noConfusion (show false = true from h), ?_⟩
  refine WB_done (by kernel_rfl) (nm_then ?_)
  refine W_seq <|W_drawB (Rd M [.box bx1 cs26 117]) (inL [12, 16]) mixed hS fun w34 hS => ?_
  have hG35 := Mm.ext.refl w.heap.size (lentX [.box bx1 cx1 117, .stk ux1_4 3 1 xsx1_4]) M
  have hR36 : Rd M [.box bx1 cs26 117] w34 := Rd.of hS hG35 (by simp)
  refine WB_y (i := 0) rfl (by kernel_rfl) rfl (Y_move (.pointer (some ⟨bx1, 0, none⟩)) hT_0) (fun _ => hR36) <|WB_y (i := 1) rfl (by kernel_rfl) rfl (Y_move (.pointer (some ⟨bx1, 0, none⟩)) hT_0) (fun _ => hR36) <|WB_y (i := 2) rfl (by kernel_rfl) rfl (Y_move (.int .i64 x4) hT_1) (fun _ => hR36) <|WB_y (i := 3) rfl (by kernel_rfl) rfl (Y_move (.pointer (some ⟨bx1, 0, none⟩)) hT_0) (fun _ => hR36) <|WB_y (i := 4) rfl (by kernel_rfl) rfl (Y_nil rfl) (fun _ => hR36) <|WB_y (i := 5) rfl (by kernel_rfl) rfl (Y_fa fa117_4 rfl) (fun _ => hR36) <|WB_ld (i := 6) rfl (by kernel_rfl) rfl (inL_lt rfl) (by kernel_rfl) (by kernel_rfl) (Y_ld1 ux1_4 ts27 rfl (bvR 0 rfl) hp33) hR36 <|WB_y (i := 7) rfl (by kernel_rfl) rfl (Y_move (.int .i64 x4) hT_1) (fun _ => hR36) <|WB_y (i := 13) rfl (by kernel_rfl) rfl (Y_nil rfl) (fun _ => hR36) <|WB_y (i := 14) rfl (by kernel_rfl) rfl (Y_fa fa117_3 rfl) (fun _ => hR36) ?_
  refine WB_one (i := 8) (by kernel_rfl) rfl (O_bslice (α := Int) (l := ([x4] : List Int)) [.int .i64 x4] tl27 (bpc rfl bp0) rfl rfl (by decide) (by decide) (by decide) hS (brc (show rep M [Value.int .i64 x4] (x4 : Int) from rfl) br0) ?_)
  intro v38 M38 w37 hx38 hv38 hS
  replace hkx1_4 := skr.mono hx38.1 hkx1_4
  replace hb26 := Rep.mono hx38.1 hb26
  replace hE := Mm.ext.trans hE hx38
  replace hG35 := Mm.ext.trans hG35 hx38
  have hR39 : Rd M [.box bx1 cs26 117] w37 := Rd.of hS hG35 (by simp)
  refine ⟨fun _ => hR39, ?_⟩
  obtain ⟨l42, hr41, hz⟩ := bind_ok hz
  obtain ⟨hy41, hs41⟩ := app_some hr41
  refine WB_one (i := 9) (by kernel_rfl) rfl (O_appS (α := Int) (j := 1) tp27 hS rfl rfl rfl hkx1_4 hv38 hy41 ?_)
  intro v41 xs41 w40 hk41 hS
  rw [← hs41] at hk41
  clear hr41 hs41
  replace hS : St w (lentX [.box bx1 cx1 117, .stk ux1_4 3 1 xsx1_4]) M38 [.box bx1 cs26 117, .stk v41 3 1 xs41] w40 := hS
  have hR43 : Rd M [.box bx1 cs26 117] w40 := Rd.of hS hG35 (by simp)
  refine ⟨fun _ => hR43, ?_⟩
  refine WB_y (i := 10) rfl (by kernel_rfl) rfl (Y_nil rfl) (fun _ => hR43) <|WB_y (i := 11) rfl (by kernel_rfl) rfl (Y_fa fa117_4 rfl) (fun _ => hR43) ?_
  have hw45 : ([v41] : List Value).length = 1 := Rep.len (hole_rep hk41)
  have hl45 : (cs26).length = 194 := Rep.len hb26
  obtain ⟨d46, hd45, hz⟩ := bind_ok hz
  have hb45 : rep M38 (pt cs26 (0 + 160) [v41]) d46 := rep_eq (rep_whole (k := 194) (by rw [pt_length (by omega)]; exact hl45) (GSearch.s4 (rep_root (k := 194) rfl hb26) (rep_leaf rfl (hole_rep hk41) (by omega)) (by omega) (by omega) (by omega))) hd45
  have hp47 : sl (pt cs26 (0 + 160) [v41]) (0 + 160) 1 = [v41] := sl_pt_same (by omega) rfl
  generalize hg45 : (pt cs26 (0 + 160) [v41]) = cs45 at hb45 hp47
  refine WB_one (i := 12) (by kernel_rfl) rfl (O_st (j := 0) (v := v41) (ws := [v41]) hS rfl (by kernel_rfl) rfl rfl (skr_cells hk41) hw45 (Rep.one (hole_rep hk41)) (by omega) ?_)
  rw [hg45]
  clear hg45
  intro w44 hS
  replace hS : St w (lentX [.box bx1 cx1 117, .stk ux1_4 3 1 xsx1_4]) M38 [.box bx1 cs45 117, .stk v41 3 1 xs41] w44 := hS
  refine ⟨fun h => Bool.noConfusion (show false = true from h), ?_⟩
  obtain ⟨u48, hx49, hz⟩ := bind_ok hz
  obtain ⟨hx49a, hx49b⟩ := inR_some hx49
  refine WB_y (i := 15) rfl (by kernel_rfl) rfl (Y_ixA ia61 rfl rfl hx49a hx49b) (fun h => Bool.noConfusion (show false = true from h)) ?_
  obtain ⟨x52, hx53, hz⟩ := bind_ok hz
  have hw51 : ([.bool true] : List Value).length = 1 := Rep.len (show rep M38 [Value.bool true] (true : Bool) from rfl)
  have hl51 : (cs45).length = 194 := Rep.len hb45
  have hq54 := (idxV_some hx53)
  obtain ⟨a55, hx56, hz⟩ := bind_ok hz
  obtain ⟨d57, hd51, hz⟩ := bind_ok hz
  have hb51 : rep M38 (pt cs45 (0 + 128 + Int.toNat x4 * 1) [.bool true]) d57 := rep_eq (rep_whole (k := 194) (by rw [pt_length (by omega)]; exact hl51) (GSearch.s3 (rep_root (k := 194) rfl hb45) (vs (k := 1) rfl rfl (GSearch.p3 (rep_root (k := 194) rfl hb45)) (rep_leaf rfl (show rep M38 [Value.bool true] (true : Bool) from rfl) (by omega)) hx56 (by omega) (by omega) (by omega)) (by omega) (by omega) (by omega))) hd51
  have hp58 : sl (pt cs45 (0 + 128 + Int.toNat x4 * 1) [.bool true]) (0 + 160) 1 = [v41] := (sl_pt_apart (by omega) (by omega)).trans hp47
  generalize hg51 : (pt cs45 (0 + 128 + Int.toNat x4 * 1) [.bool true]) = cs51 at hb51 hp58
  refine WB_one (i := 16) (by kernel_rfl) rfl (O_st (j := 0) (v := .bool true) (ws := [.bool true]) hS rfl (by kernel_rfl) rfl rfl rfl hw51 (Rep.one (show rep M38 [Value.bool true] (true : Bool) from rfl)) (by omega) ?_)
  rw [hg51]
  clear hg51
  intro w50 hS
  replace hS : St w (lentX [.box bx1 cx1 117, .stk ux1_4 3 1 xsx1_4]) M38 [.box bx1 cs51 117, .stk v41 3 1 xs41] w50 := hS
  refine ⟨fun h => Bool.noConfusion (show false = true from h), ?_⟩
  refine WB_done (by kernel_rfl) (nm_then ?_)
  refine W_seq <|W_seq <|W_reg <|WL_y (Y_move (.pointer (some ⟨bx1, 0, none⟩)) hT_0) <|WL_y (Y_move (.int .i64 x4) hT_1) <|WL_y (Y_nil rfl) <|WL_y (Y_fa fa117_0 rfl) <|WL_y (Y_fa fa64_1 rfl) ?_
  obtain ⟨u59, hx60, hz⟩ := bind_ok hz
  obtain ⟨hx60a, hx60b⟩ := inR_some hx60
  refine WL_y (Y_ixA ia62 rfl rfl hx60a hx60b) ?_
  obtain ⟨x61, hx62, hz⟩ := bind_ok hz
  obtain ⟨v63, ev63, hv63⟩ := (vp (k := 1) rfl rfl (GGraph.p1 (GSearch.p0 (rep_root (k := 194) rfl hb51))) hx62)
  refine WL_y (Y_ld1 v63 ts27 rfl (hS.bvB 0 rfl) ev63) ?_
  obtain ⟨a64, c64, hv64, _⟩ := repL_shape hv63
  refine WL_y (Y_lenL Try.underlying27 (tr2 hv64 rfl)) <|WL_y (Y_move (.int .i64 0) rfl) ?_
  refine WL_nil (nm_then ?_)
  refine W_block ?_
  refine W_loop (fun k77 T' w' => ∃ M66 cs68 d69 v70 xs71 l72 y75, Mm.ext w.heap.size (lentX [.box bx1 cx1 117, .stk ux1_4 3 1 xsx1_4]) M38 M66 ∧ St w (lentX [.box bx1 cx1 117, .stk ux1_4 3 1 xsx1_4]) M66 [.box bx1 cs68 117, .stk v70 3 1 xs71] w' ∧ rep M66 cs68 d69 ∧ skr M66 v70 xs71 l72 ∧ sl cs68 (0 + 160) 1 = [v70] ∧ T' 0 = .pointer (some ⟨bx1, 0, none⟩) ∧ T' 1 = .int .i64 x4 ∧ T' 58 = v63 ∧ T' 59 = .int .i64 (x61.length : Int) ∧ T' 60 = .int .i64 y75 ∧ visit_l1 fu x4 rec0 x61 k77 d69 l72 y75 = some r) fu ?_ ?_ ?_
  exact ⟨M38, cs51, d57, v41, xs41, l42, (0 : Int), (Mm.ext.refl _ _ _), hS, hb51, hk41, hp58, hT_0, hT_1, rfl, rfl, rfl, hz⟩
  rintro T' w' ⟨_, _, _, _, _, _, _, _, _, _, _, _, _, _, _, _, _, hz⟩
  rw [visit_l1] at hz
  cases hz
  intro k77
  rintro T67 w65 ⟨M66, cs68, d69, v70, xs71, l72, y75, hx79, hS, hb68, hk73, hp74, hT67_0, hT67_1, hT67_58, hT67_59, hT67_60, hz⟩
  replace hv63 := repL.mono hx79.1 hv63
  replace hE := Mm.ext.trans hE hx79
  have hF78 := hx79
  rw [visit_l1] at hz
  obtain ⟨rec76, hrec76⟩ : ∃ f, f = visit_l1 fu x4 rec0 x61 k77 := ⟨_, rfl⟩
  rw [← hrec76] at hz
  refine W_seq <|W_reg <|WL_y (Y_lss hT67_60 hT67_59) ?_
  refine WL_nil (nm_then ?_)
  refine W_seq ?_
  refine W_cond rfl (fun hc80 => ?_) (fun hc80 => ?_)
  replace hz := bif_ok_t hz hc80
  refine W_skip (nm_then ?_)
  refine W_seqJ (fun T' w' => ∃ M82 cs84 d85 v86 xs87 l88, Mm.ext w.heap.size (lentX [.box bx1 cx1 117, .stk ux1_4 3 1 xsx1_4]) M66 M82 ∧ St w (lentX [.box bx1 cx1 117, .stk ux1_4 3 1 xsx1_4]) M82 [.box bx1 cs84 117, .stk v86 3 1 xs87] w' ∧ rep M82 cs84 d85 ∧ skr M82 v86 xs87 l88 ∧ sl cs84 (0 + 160) 1 = [v86] ∧ T' 0 = .pointer (some ⟨bx1, 0, none⟩) ∧ T' 1 = .int .i64 x4 ∧ T' 58 = v63 ∧ T' 59 = .int .i64 (x61.length : Int) ∧ T' 60 = .int .i64 y75 ∧ visit_j1 y75 rec76 d85 l88 = some r) ?_ ?_
  have hF92 := Mm.ext.refl w.heap.size (lentX [.box bx1 cx1 117, .stk ux1_4 3 1 xsx1_4]) M66
  refine W_block <|W_seq <|W_reg ?_
  obtain ⟨x94, hx93, hz⟩ := bind_ok hz
  obtain ⟨b93, o93, c93, p93, hv93, hi93, hj93, hM93, hr93⟩ := repL_at hv63 hx93
  replace hr93 : rep _ (sl p93 (o93 + Int.toNat y75 * 1) 1) x94 := hr93
  refine WL_y (Y_ixL il27 hT67_58 hv93 hT67_60 hi93 hj93) <|WL_y (Y_ld1 (.int .i64 x94) ts3 rfl (hS.bvM hM93) hr93) <|WL_y (Y_assign (.int .i64 x94) rfl) ?_
  refine WL_nil (nm_then ?_)
  refine W_block ?_
  refine W_seqJ (fun T' w' => ∃ M96 c98, Mm.ext w.heap.size (lentX [.box bx1 cx1 117, .stk ux1_4 3 1 xsx1_4]) M66 M96 ∧ St w (lentX [.box bx1 cx1 117, .stk ux1_4 3 1 xsx1_4]) M96 [.box bx1 cs68 117, .stk v70 3 1 xs71] w' ∧ T' 0 = .pointer (some ⟨bx1, 0, none⟩) ∧ T' 1 = .int .i64 x4 ∧ T' 5 = .int .i64 x94 ∧ T' 58 = v63 ∧ T' 59 = .int .i64 (x61.length : Int) ∧ T' 60 = .int .i64 y75 ∧ T' 64 = .bool c98 ∧ visit_j2 x4 rec0 d69 l72 y75 rec76 x94 c98 = some r) ?_ ?_
  have hF158 := Mm.ext.refl w.heap.size (lentX [.box bx1 cx1 117, .stk ux1_4 3 1 xsx1_4]) M66
  refine W_reg <|WL_y (Y_move (.int .i64 x94) rfl) <|WL_y (Y_lss rfl rfl) <|WL_y (Y_move (.bool (decide (x94 < 0))) rfl) ?_
  rcases ic hz with ⟨hc159, hz⟩ | ⟨hc159, hz⟩ <;> rw [hc159]
  refine WL_d 4 rfl ?_
  refine WL_nil (nm_then ?_)
  exact ⟨M66, true, hF158, hS, hT67_0, hT67_1, rfl, hT67_58, hT67_59, hT67_60, rfl, hz⟩
  refine WL_gy rfl rfl (Y_move (.int .i64 x94) rfl) <|WL_gy rfl rfl (Y_geq rfl rfl) <|WL_d 2 rfl ?_
  refine WL_nil (nm_then ?_)
  exact ⟨M66, (decide (x94 ≥ 32)), hF158, hS, hT67_0, hT67_1, rfl, hT67_58, hT67_59, hT67_60, rfl, hz⟩
  rintro T97 w95 ⟨M96, c98, hx99, hS, hT97_0, hT97_1, hT97_5, hT97_58, hT97_59, hT97_60, hT97_64, hz⟩
  replace hv63 := repL.mono hx99.1 hv63
  replace hb68 := Rep.mono hx99.1 hb68
  replace hk73 := skr.mono hx99.1 hk73
  replace hE := Mm.ext.trans hE hx99
  replace hF78 := Mm.ext.trans hF78 hx99
  replace hF92 := Mm.ext.trans hF92 hx99
  rw [visit_j2] at hz
  refine W_cond hT97_64 (fun hc100 => ?_) (fun hc100 => ?_)
  replace hz := bif_ok_t hz hc100
  refine W_skip (nm_blk ?_)
  refine (nm_blk ?_)
  refine (nm_then ?_)
  exact ⟨M96, cs68, d69, v70, xs71, l72, hF92, hS, hb68, hk73, hp74, hT97_0, hT97_1, hT97_58, hT97_59, hT97_60, hz⟩
  replace hz := bif_ok_f hz hc100
  refine W_seq <|W_reg <|WL_y (Y_move (.pointer (some ⟨bx1, 0, none⟩)) hT97_0) <|WL_y (Y_move (.int .i64 x94) hT97_5) <|WL_y (Y_nil rfl) <|WL_y (Y_fa fa117_1 rfl) ?_
  obtain ⟨u101, hx102, hz⟩ := bind_ok hz
  obtain ⟨hx102a, hx102b⟩ := inR_some hx102
  refine WL_y (Y_ixA ia66 rfl rfl hx102a hx102b) ?_
  obtain ⟨x103, hx104, hz⟩ := bind_ok hz
  refine WL_y (Y_ld1 (.int .i64 x103) ts3 rfl (hS.bvB 0 rfl) (vp (k := 1) rfl rfl (GSearch.p1 (rep_root (k := 194) rfl hb68)) hx104)) <|WL_y (Y_eql rfl rfl) <|WL_y (Y_assign (.bool (x103 == 0)) rfl) ?_
  refine WL_nil (nm_then ?_)
  refine W_cond rfl (fun hc105 => ?_) (fun hc105 => ?_)
  replace hz := bif_ok_t hz hc105
  refine W_seq <|W_reg <|WL_y (Y_move (.pointer (some ⟨bx1, 0, none⟩)) hT97_0) <|WL_y (Y_move (.int .i64 x94) hT97_5) ?_
  obtain ⟨r108, hr107, hz⟩ := bind_ok hz
  refine WL_c (O_lend (vs := [.pointer (some ⟨bx1, 0, none⟩), .int .i64 x94]) (L := [.box bx1 cs68 117, .stk v70 3 1 xs71]) (R := []) (rv := (fun M' u L' => ∃ k0 u1 x1, u = .tuple #[] ∧ L' = [.box bx1 k0 117, .stk u1 3 1 x1] ∧ rep M' k0 r108.1 ∧ skr M' u1 x1 r108.2 ∧ sl k0 160 1 = [u1])) cb86 (args2 rfl rfl) hS (hS.sel [0, 1] (by decide) rfl) (fun hS => ih hS hb68 hk73 hp74 hr107) ?_)
  rintro u107 M107 w106 L107 hx107 ⟨k0_107, u1_107, x1_107, rfl, hL107, f107_0, f107_1, f107_2⟩ hS
  replace hS := hS _ hL107
  replace hv63 := repL.mono hx107.1 hv63
  replace hb68 := Rep.mono hx107.1 hb68
  replace hk73 := skr.mono hx107.1 hk73
  replace hE := Mm.ext.trans hE hx107
  replace hF78 := Mm.ext.trans hF78 hx107
  replace hF92 := Mm.ext.trans hF92 hx107
  replace hS : St w (lentX [.box bx1 cx1 117, .stk ux1_4 3 1 xsx1_4]) M107 [.box bx1 k0_107 117, .stk u1_107 3 1 x1_107] w106 := hS
  refine WL_nil (nm_then ?_)
  refine W_drawB (Rd M107 [.box bx1 k0_107 117]) (inL [18]) mixed hS fun w109 hS => ?_
  have hG110 := Mm.ext.refl w.heap.size (lentX [.box bx1 cx1 117, .stk ux1_4 3 1 xsx1_4]) M107
  have hR111 : Rd M107 [.box bx1 k0_107 117] w109 := Rd.of hS hG110 (by simp)
  refine WB_y (i := 0) rfl (by kernel_rfl) rfl (Y_move (.pointer (some ⟨bx1, 0, none⟩)) hT97_0) (fun _ => hR111) <|WB_y (i := 1) rfl (by kernel_rfl) rfl (Y_move (.int .i64 x4) hT97_1) (fun _ => hR111) <|WB_y (i := 2) rfl (by kernel_rfl) rfl (Y_move (.pointer (some ⟨bx1, 0, none⟩)) hT97_0) (fun _ => hR111) <|WB_y (i := 3) rfl (by kernel_rfl) rfl (Y_move (.int .i64 x4) hT97_1) (fun _ => hR111) <|WB_y (i := 4) rfl (by kernel_rfl) rfl (Y_nil rfl) (fun _ => hR111) <|WB_y (i := 5) rfl (by kernel_rfl) rfl (Y_fa fa117_2 rfl) (fun _ => hR111) ?_
  obtain ⟨u112, hx113, hz⟩ := bind_ok hz
  obtain ⟨hx113a, hx113b⟩ := inR_some hx113
  refine WB_y (i := 6) rfl (by kernel_rfl) rfl (Y_ixA ia66 rfl rfl hx113a hx113b) (fun _ => hR111) ?_
  obtain ⟨x114, hx115, hz⟩ := bind_ok hz
  refine WB_ld (i := 7) rfl (by kernel_rfl) rfl (inL_lt rfl) (by kernel_rfl) (by kernel_rfl) (Y_ld1 (.int .i64 x114) ts3 rfl (bvR 0 rfl) (vp (k := 1) rfl rfl (GSearch.p2 (rep_root (k := 194) rfl f107_0)) hx115)) hR111 <|WB_y (i := 8) rfl (by kernel_rfl) rfl (Y_move (.pointer (some ⟨bx1, 0, none⟩)) hT97_0) (fun _ => hR111) <|WB_y (i := 9) rfl (by kernel_rfl) rfl (Y_move (.int .i64 x94) hT97_5) (fun _ => hR111) <|WB_y (i := 10) rfl (by kernel_rfl) rfl (Y_nil rfl) (fun _ => hR111) <|WB_y (i := 11) rfl (by kernel_rfl) rfl (Y_fa fa117_2 rfl) (fun _ => hR111) ?_
  obtain ⟨u116, hx117, hz⟩ := bind_ok hz
  obtain ⟨hx117a, hx117b⟩ := inR_some hx117
  refine WB_y (i := 12) rfl (by kernel_rfl) rfl (Y_ixA ia66 rfl rfl hx117a hx117b) (fun _ => hR111) ?_
  obtain ⟨x118, hx119, hz⟩ := bind_ok hz
  refine WB_ld (i := 13) rfl (by kernel_rfl) rfl (inL_lt rfl) (by kernel_rfl) (by kernel_rfl) (Y_ld1 (.int .i64 x118) ts3 rfl (bvR 0 rfl) (vp (k := 1) rfl rfl (GSearch.p2 (rep_root (k := 194) rfl f107_0)) hx119)) hR111 <|WB_y (i := 14) rfl (by kernel_rfl) rfl (Y_min rfl rfl) (fun _ => hR111) <|WB_y (i := 15) rfl (by kernel_rfl) rfl (Y_nil rfl) (fun _ => hR111) <|WB_y (i := 16) rfl (by kernel_rfl) rfl (Y_fa fa117_2 rfl) (fun _ => hR111) ?_
  obtain ⟨u120, hx121, hz⟩ := bind_ok hz
  obtain ⟨hx121a, hx121b⟩ := inR_some hx121
  refine WB_y (i := 17) rfl (by kernel_rfl) rfl (Y_ixA ia66 rfl rfl hx121a hx121b) (fun _ => hR111) ?_
  obtain ⟨x124, hx125, hz⟩ := bind_ok hz
  have hw123 : ([.int .i64 (min x114 x118)] : List Value).length = 1 := Rep.len (show rep M107 [Value.int .i64 (min x114 x118)] (min x114 x118 : Int) from rfl)
  have hl123 : (k0_107).length = 194 := Rep.len f107_0
  have hq126 := (idxV_some hx125)
  obtain ⟨a127, hx128, hz⟩ := bind_ok hz
  obtain ⟨d129, hd123, hz⟩ := bind_ok hz
  have hb123 : rep M107 (pt k0_107 (0 + 96 + Int.toNat x4 * 1) [.int .i64 (min x114 x118)]) d129 := rep_eq (rep_whole (k := 194) (by rw [pt_length (by omega)]; exact hl123) (GSearch.s2 (rep_root (k := 194) rfl f107_0) (vs (k := 1) rfl rfl (GSearch.p2 (rep_root (k := 194) rfl f107_0)) (rep_leaf rfl (show rep M107 [Value.int .i64 (min x114 x118)] (min x114 x118 : Int) from rfl) (by omega)) hx128 (by omega) (by omega) (by omega)) (by omega) (by omega) (by omega))) hd123
  have hp130 : sl (pt k0_107 (0 + 96 + Int.toNat x4 * 1) [.int .i64 (min x114 x118)]) (0 + 160) 1 = [u1_107] := (sl_pt_apart (by omega) (by omega)).trans f107_2
  generalize hg123 : (pt k0_107 (0 + 96 + Int.toNat x4 * 1) [.int .i64 (min x114 x118)]) = cs123 at hb123 hp130
  refine WB_one (i := 18) (by kernel_rfl) rfl (O_st (j := 0) (v := .int .i64 (min x114 x118)) (ws := [.int .i64 (min x114 x118)]) hS rfl (by kernel_rfl) rfl rfl rfl hw123 (Rep.one (show rep M107 [Value.int .i64 (min x114 x118)] (min x114 x118 : Int) from rfl)) (by omega) ?_)
  rw [hg123]
  clear hg123
  intro w122 hS
  replace hS : St w (lentX [.box bx1 cx1 117, .stk ux1_4 3 1 xsx1_4]) M107 [.box bx1 cs123 117, .stk u1_107 3 1 x1_107] w122 := hS
  refine ⟨fun h => Bool.noConfusion (show false = true from h), ?_⟩
  refine WB_done (by kernel_rfl) (nm_blk ?_)
  refine (nm_blk ?_)
  refine (nm_then ?_)
  exact ⟨M107, cs123, d129, u1_107, x1_107, r108.2, hF92, hS, hb123, f107_1, hp130, hT97_0, hT97_1, hT97_58, hT97_59, hT97_60, hz⟩
  replace hz := bif_ok_f hz hc105
  refine W_seq <|W_reg <|WL_y (Y_move (.pointer (some ⟨bx1, 0, none⟩)) hT97_0) <|WL_y (Y_move (.int .i64 x94) hT97_5) <|WL_y (Y_nil rfl) <|WL_y (Y_fa fa117_3 rfl) ?_
  obtain ⟨u131, hx132, hz⟩ := bind_ok hz
  obtain ⟨hx132a, hx132b⟩ := inR_some hx132
  refine WL_y (Y_ixA ia61 rfl rfl hx132a hx132b) ?_
  obtain ⟨x133, hx134, hz⟩ := bind_ok hz
  refine WL_y (Y_ld1 (.bool x133) ts4 rfl (hS.bvB 0 rfl) (vp (k := 1) rfl rfl (GSearch.p3 (rep_root (k := 194) rfl hb68)) hx134)) <|WL_y (Y_assign (.bool x133) rfl) ?_
  refine WL_nil (nm_then ?_)
  refine W_cond rfl (fun hc135 => ?_) (fun hc135 => ?_)
  replace hz := bif_ok_t hz hc135
  refine W_drawB (Rd M96 [.box bx1 cs68 117]) (inL [18]) mixed hS fun w136 hS => ?_
  have hG137 := Mm.ext.refl w.heap.size (lentX [.box bx1 cx1 117, .stk ux1_4 3 1 xsx1_4]) M96
  have hR138 : Rd M96 [.box bx1 cs68 117] w136 := Rd.of hS hG137 (by simp)
  refine WB_y (i := 0) rfl (by kernel_rfl) rfl (Y_move (.pointer (some ⟨bx1, 0, none⟩)) hT97_0) (fun _ => hR138) <|WB_y (i := 1) rfl (by kernel_rfl) rfl (Y_move (.int .i64 x4) hT97_1) (fun _ => hR138) <|WB_y (i := 2) rfl (by kernel_rfl) rfl (Y_move (.pointer (some ⟨bx1, 0, none⟩)) hT97_0) (fun _ => hR138) <|WB_y (i := 3) rfl (by kernel_rfl) rfl (Y_move (.int .i64 x4) hT97_1) (fun _ => hR138) <|WB_y (i := 4) rfl (by kernel_rfl) rfl (Y_nil rfl) (fun _ => hR138) <|WB_y (i := 5) rfl (by kernel_rfl) rfl (Y_fa fa117_2 rfl) (fun _ => hR138) ?_
  obtain ⟨u139, hx140, hz⟩ := bind_ok hz
  obtain ⟨hx140a, hx140b⟩ := inR_some hx140
  refine WB_y (i := 6) rfl (by kernel_rfl) rfl (Y_ixA ia66 rfl rfl hx140a hx140b) (fun _ => hR138) ?_
  obtain ⟨x141, hx142, hz⟩ := bind_ok hz
  refine WB_ld (i := 7) rfl (by kernel_rfl) rfl (inL_lt rfl) (by kernel_rfl) (by kernel_rfl) (Y_ld1 (.int .i64 x141) ts3 rfl (bvR 0 rfl) (vp (k := 1) rfl rfl (GSearch.p2 (rep_root (k := 194) rfl hb68)) hx142)) hR138 <|WB_y (i := 8) rfl (by kernel_rfl) rfl (Y_move (.pointer (some ⟨bx1, 0, none⟩)) hT97_0) (fun _ => hR138) <|WB_y (i := 9) rfl (by kernel_rfl) rfl (Y_move (.int .i64 x94) hT97_5) (fun _ => hR138) <|WB_y (i := 10) rfl (by kernel_rfl) rfl (Y_nil rfl) (fun _ => hR138) <|WB_y (i := 11) rfl (by kernel_rfl) rfl (Y_fa fa117_1 rfl) (fun _ => hR138) ?_
  obtain ⟨u143, hx144, hz⟩ := bind_ok hz
  obtain ⟨hx144a, hx144b⟩ := inR_some hx144
  refine WB_y (i := 12) rfl (by kernel_rfl) rfl (Y_ixA ia66 rfl rfl hx144a hx144b) (fun _ => hR138) ?_
  obtain ⟨x145, hx146, hz⟩ := bind_ok hz
  refine WB_ld (i := 13) rfl (by kernel_rfl) rfl (inL_lt rfl) (by kernel_rfl) (by kernel_rfl) (Y_ld1 (.int .i64 x145) ts3 rfl (bvR 0 rfl) (vp (k := 1) rfl rfl (GSearch.p1 (rep_root (k := 194) rfl hb68)) hx146)) hR138 <|WB_y (i := 14) rfl (by kernel_rfl) rfl (Y_min rfl rfl) (fun _ => hR138) <|WB_y (i := 15) rfl (by kernel_rfl) rfl (Y_nil rfl) (fun _ => hR138) <|WB_y (i := 16) rfl (by kernel_rfl) rfl (Y_fa fa117_2 rfl) (fun _ => hR138) ?_
  obtain ⟨u147, hx148, hz⟩ := bind_ok hz
  obtain ⟨hx148a, hx148b⟩ := inR_some hx148
  refine WB_y (i := 17) rfl (by kernel_rfl) rfl (Y_ixA ia66 rfl rfl hx148a hx148b) (fun _ => hR138) ?_
  obtain ⟨x151, hx152, hz⟩ := bind_ok hz
  have hw150 : ([.int .i64 (min x141 x145)] : List Value).length = 1 := Rep.len (show rep M96 [Value.int .i64 (min x141 x145)] (min x141 x145 : Int) from rfl)
  have hl150 : (cs68).length = 194 := Rep.len hb68
  have hq153 := (idxV_some hx152)
  obtain ⟨a154, hx155, hz⟩ := bind_ok hz
  obtain ⟨d156, hd150, hz⟩ := bind_ok hz
  have hb150 : rep M96 (pt cs68 (0 + 96 + Int.toNat x4 * 1) [.int .i64 (min x141 x145)]) d156 := rep_eq (rep_whole (k := 194) (by rw [pt_length (by omega)]; exact hl150) (GSearch.s2 (rep_root (k := 194) rfl hb68) (vs (k := 1) rfl rfl (GSearch.p2 (rep_root (k := 194) rfl hb68)) (rep_leaf rfl (show rep M96 [Value.int .i64 (min x141 x145)] (min x141 x145 : Int) from rfl) (by omega)) hx155 (by omega) (by omega) (by omega)) (by omega) (by omega) (by omega))) hd150
  have hp157 : sl (pt cs68 (0 + 96 + Int.toNat x4 * 1) [.int .i64 (min x141 x145)]) (0 + 160) 1 = [v70] := (sl_pt_apart (by omega) (by omega)).trans hp74
  generalize hg150 : (pt cs68 (0 + 96 + Int.toNat x4 * 1) [.int .i64 (min x141 x145)]) = cs150 at hb150 hp157
  refine WB_one (i := 18) (by kernel_rfl) rfl (O_st (j := 0) (v := .int .i64 (min x141 x145)) (ws := [.int .i64 (min x141 x145)]) hS rfl (by kernel_rfl) rfl rfl rfl hw150 (Rep.one (show rep M96 [Value.int .i64 (min x141 x145)] (min x141 x145 : Int) from rfl)) (by omega) ?_)
  rw [hg150]
  clear hg150
  intro w149 hS
  replace hS : St w (lentX [.box bx1 cx1 117, .stk ux1_4 3 1 xsx1_4]) M96 [.box bx1 cs150 117, .stk v70 3 1 xs71] w149 := hS
  refine ⟨fun h => Bool.noConfusion (show false = true from h), ?_⟩
  refine WB_done (by kernel_rfl) (nm_blk ?_)
  refine (nm_blk ?_)
  refine (nm_then ?_)
  exact ⟨M96, cs150, d156, v70, xs71, l72, hF92, hS, hb150, hk73, hp157, hT97_0, hT97_1, hT97_58, hT97_59, hT97_60, hz⟩
  replace hz := bif_ok_f hz hc135
  refine W_skip (nm_blk ?_)
  refine (nm_blk ?_)
  refine (nm_then ?_)
  exact ⟨M96, cs68, d69, v70, xs71, l72, hF92, hS, hb68, hk73, hp74, hT97_0, hT97_1, hT97_58, hT97_59, hT97_60, hz⟩
  rintro T83 w81 ⟨M82, cs84, d85, v86, xs87, l88, hx91, hS, hb84, hk89, hp90, hT83_0, hT83_1, hT83_58, hT83_59, hT83_60, hz⟩
  replace hv63 := repL.mono hx91.1 hv63
  replace hE := Mm.ext.trans hE hx91
  replace hF78 := Mm.ext.trans hF78 hx91
  rw [visit_j1] at hz
  refine W_reg <|WL_y (Y_add hT83_60 rfl) <|WL_y (Y_move (.int .i64 (IntKind.wrap .i64 (y75 + 1))) rfl) ?_
  refine WL_nil (nm_then ?_)
  exact ⟨M82, cs84, d85, v86, xs87, l88, (IntKind.wrap .i64 (y75 + 1)), hF78, hS, hb84, hk89, hp90, hT83_0, hT83_1, hT83_58, hT83_59, rfl, (by rw [← hrec76]; exact hz)⟩
  replace hz := bif_ok_f hz hc80
  refine W_exit <|ex_then <|ex_then <|ex_hit ?_
  refine (nm_then ?_)
  refine W_seq <|W_seq <|W_drawq mixed (by kernel_rfl) hS <|WQ_y (Y_move (.pointer (some ⟨bx1, 0, none⟩)) hT67_0) <|WQ_y (Y_move (.int .i64 x4) hT67_1) <|WQ_y (Y_nil rfl) <|WQ_y (Y_fa fa117_2 rfl) ?_
  obtain ⟨u160, hx161, hz⟩ := bind_ok hz
  obtain ⟨hx161a, hx161b⟩ := inR_some hx161
  refine WQ_y (Y_ixA ia66 rfl rfl hx161a hx161b) ?_
  obtain ⟨x162, hx163, hz⟩ := bind_ok hz
  refine WQ_y (Y_ld1 (.int .i64 x162) ts3 rfl (bvBS (j := 0) rfl) (vp (k := 1) rfl rfl (GSearch.p2 (rep_root (k := 194) rfl hb68)) hx163)) <|WQ_y (Y_move (.pointer (some ⟨bx1, 0, none⟩)) hT67_0) <|WQ_y (Y_move (.int .i64 x4) hT67_1) <|WQ_y (Y_nil rfl) <|WQ_y (Y_fa fa117_1 rfl) ?_
  obtain ⟨u164, hx165, hz⟩ := bind_ok hz
  obtain ⟨hx165a, hx165b⟩ := inR_some hx165
  refine WQ_y (Y_ixA ia66 rfl rfl hx165a hx165b) ?_
  obtain ⟨x166, hx167, hz⟩ := bind_ok hz
  refine WQ_y (Y_ld1 (.int .i64 x166) ts3 rfl (bvBS (j := 0) rfl) (vp (k := 1) rfl rfl (GSearch.p1 (rep_root (k := 194) rfl hb68)) hx167)) <|WQ_y (Y_neq rfl rfl) <|WQ_nil ?_
  intro w168 hS
  refine (nm_then ?_)
  refine W_cond rfl (fun hc169 => ?_) (fun hc169 => ?_)
  replace hz := bif_ok_t hz hc169
  cases hz
  exact W_ret (rt_then (R_t0 rfl  ⟨_, M66, _, rfl, hE, (hS.sel (H' := [.box bx1 cs68 117, .stk v70 3 1 xs71]) [0, 1] (by decide) rfl), cs68, v70, xs71, rfl, rfl, hb68, hk73, hp74⟩))
  replace hz := bif_ok_f hz hc169
  refine W_skip (nm_then ?_)
  refine W_seq <|W_reg <|WL_y (Y_move (.pointer (some ⟨bx1, 0, none⟩)) hT67_0) <|WL_y (Y_nil rfl) <|WL_y (Y_fa fa117_4 rfl) <|WL_y (Y_ld1 v70 ts27 rfl (hS.bvB 0 rfl) hp74) ?_
  obtain ⟨a170, c170, hv170, _⟩ := skr_shape hk73
  refine WL_y (Y_lenL Try.underlying27 (tr2 hv170 rfl)) <|WL_y (Y_sub rfl rfl) <|WL_y (Y_assign (.int .i64 (IntKind.wrap .i64 ((l72.length : Int) - 1))) rfl) ?_
  refine WL_nil (nm_then ?_)
  refine W_seq <|W_block ?_
  refine W_loop (fun k176 T' w' => ∃ M172 y174, Mm.ext w.heap.size (lentX [.box bx1 cx1 117, .stk ux1_4 3 1 xsx1_4]) M66 M172 ∧ St w (lentX [.box bx1 cx1 117, .stk ux1_4 3 1 xsx1_4]) M172 [.box bx1 cs68 117, .stk v70 3 1 xs71] w' ∧ T' 0 = .pointer (some ⟨bx1, 0, none⟩) ∧ T' 1 = .int .i64 x4 ∧ T' 6 = .int .i64 y174 ∧ visit_l2 fu x4 d69 l72 k176 y174 = some r) fu ?_ ?_ ?_
  exact ⟨M66, (IntKind.wrap .i64 ((l72.length : Int) - 1)), (Mm.ext.refl _ _ _), hS, hT67_0, hT67_1, rfl, hz⟩
  rintro T' w' ⟨_, _, _, _, _, _, _, hz⟩
  rw [visit_l2] at hz
  cases hz
  intro k176
  rintro T173 w171 ⟨M172, y174, hx178, hS, hT173_0, hT173_1, hT173_6, hz⟩
  replace hb68 := Rep.mono hx178.1 hb68
  replace hk73 := skr.mono hx178.1 hk73
  replace hE := Mm.ext.trans hE hx178
  replace hF78 := Mm.ext.trans hF78 hx178
  have hF177 := hx178
  rw [visit_l2] at hz
  obtain ⟨rec175, hrec175⟩ : ∃ f, f = visit_l2 fu x4 d69 l72 k176 := ⟨_, rfl⟩
  rw [← hrec175] at hz
  refine W_seq <|W_seq <|W_reg <|WL_y (Y_move (.pointer (some ⟨bx1, 0, none⟩)) hT173_0) <|WL_y (Y_nil rfl) <|WL_y (Y_fa fa117_4 rfl) <|WL_y (Y_ld1 v70 ts27 rfl (hS.bvB 0 rfl) hp74) <|WL_y (Y_move (.int .i64 y174) hT173_6) ?_
  obtain ⟨x180, hx179, hz⟩ := bind_ok hz
  obtain ⟨b179, o179, c179, hv179, hi179, hj179, hM179, hr179⟩ := skv_at (hS.skv (j := 1) rfl hk73) hx179
  replace hr179 : rep _ (sl xs71 (o179 + Int.toNat y174 * 1) 1) x180 := hr179
  refine WL_y (Y_ixL il27 rfl hv179 rfl hi179 hj179) <|WL_y (Y_ld1 (.int .i64 x180) ts3 rfl (hS.bvK (j := 1) rfl hM179) hr179) <|WL_y (Y_move (.int .i64 x4) hT173_1) <|WL_y (Y_neq rfl rfl) ?_
  refine WL_nil (nm_then ?_)
  refine W_cond rfl (fun hc181 => ?_) (fun hc181 => ?_)
  replace hz := bif_ok_t hz hc181
  refine W_skip (nm_then ?_)
  refine W_block <|W_reg <|WL_y (Y_move (.int .i64 y174) hT173_6) <|WL_y (Y_sub rfl rfl) <|WL_y (Y_assign (.int .i64 (IntKind.wrap .i64 (y174 - 1))) rfl) ?_
  refine WL_nil (nm_blk ?_)
  refine (nm_then ?_)
  exact ⟨M172, (IntKind.wrap .i64 (y174 - 1)), hF177, hS, hT173_0, hT173_1, rfl, (by rw [← hrec175]; exact hz)⟩
  replace hz := bif_ok_f hz hc181
  refine W_exit <|ex_then <|ex_then <|ex_hit ?_
  refine (nm_then ?_)
  refine W_seq <|W_reg <|WL_y (Y_move (.int .i64 x4) hT173_1) <|WL_y (Y_assign (.int .i64 x4) rfl) ?_
  refine WL_nil (nm_then ?_)
  refine W_seq <|W_seq <|W_reg <|WL_y (Y_move (.pointer (some ⟨bx1, 0, none⟩)) hT173_0) <|WL_y (Y_nil rfl) <|WL_y (Y_fa fa117_4 rfl) <|WL_y (Y_ld1 v70 ts27 rfl (hS.bvB 0 rfl) hp74) <|WL_y (Y_move (.int .i64 y174) hT173_6) ?_
  obtain ⟨l183, hx182, hz⟩ := bind_ok hz
  obtain ⟨⟨pp182, qq182⟩, hc182, hx182⟩ := Option.map_eq_some_iff.1 hx182
  obtain ⟨a182, c182, hv182, hn182⟩ := skr_shape hk73
  refine WL_y (Y_cutL (l := (some y174)) (h := none) il27 rfl hv182 (evs rfl) evn hc182 hn182) ?_
  have hk182 : skv M172 v70 (cutV v70 1 pp182 qq182) xs71 l183 := (show _ = l183 from hx182) ▸ skv_cut (hS.skv (j := 1) rfl hk73) hc182
  obtain ⟨a184, c184, hv184, _⟩ := skv_shape hk182
  refine WL_y (Y_lenL Try.underlying27 (tr2 hv184 rfl)) <|WL_y (Y_move (.int .i64 0) rfl) ?_
  refine WL_nil (nm_then ?_)
  refine W_block ?_
  refine W_loop (fun k191 T' w' => ∃ M186 y188 y189, Mm.ext w.heap.size (lentX [.box bx1 cx1 117, .stk ux1_4 3 1 xsx1_4]) M172 M186 ∧ St w (lentX [.box bx1 cx1 117, .stk ux1_4 3 1 xsx1_4]) M186 [.box bx1 cs68 117, .stk v70 3 1 xs71] w' ∧ T' 0 = .pointer (some ⟨bx1, 0, none⟩) ∧ T' 6 = .int .i64 y174 ∧ T' 7 = .int .i64 y188 ∧ T' 162 = (cutV v70 1 pp182 qq182) ∧ T' 163 = .int .i64 (l183.length : Int) ∧ T' 164 = .int .i64 y189 ∧ visit_l3 fu d69 l72 y174 l183 k191 y188 y189 = some r) fu ?_ ?_ ?_
  exact ⟨M172, x4, (0 : Int), (Mm.ext.refl _ _ _), hS, hT173_0, hT173_6, rfl, rfl, rfl, rfl, hz⟩
  rintro T' w' ⟨_, _, _, _, _, _, _, _, _, _, _, hz⟩
  rw [visit_l3] at hz
  cases hz
  intro k191
  rintro T187 w185 ⟨M186, y188, y189, hx193, hS, hT187_0, hT187_6, hT187_7, hT187_162, hT187_163, hT187_164, hz⟩
  replace hb68 := Rep.mono hx193.1 hb68
  replace hk73 := skr.mono hx193.1 hk73
  replace hk182 := skv.mono hx193.1 hk182
  replace hE := Mm.ext.trans hE hx193
  replace hF78 := Mm.ext.trans hF78 hx193
  replace hF177 := Mm.ext.trans hF177 hx193
  have hF192 := hx193
  rw [visit_l3] at hz
  obtain ⟨rec190, hrec190⟩ : ∃ f, f = visit_l3 fu d69 l72 y174 l183 k191 := ⟨_, rfl⟩
  rw [← hrec190] at hz
  refine W_seq <|W_reg <|WL_y (Y_lss hT187_164 hT187_163) ?_
  refine WL_nil (nm_then ?_)
  refine W_seq ?_
  refine W_cond rfl (fun hc194 => ?_) (fun hc194 => ?_)
  replace hz := bif_ok_t hz hc194
  refine W_skip (nm_then ?_)
  refine W_seq <|W_block <|W_seq <|W_reg ?_
  obtain ⟨x196, hx195, hz⟩ := bind_ok hz
  obtain ⟨b195, o195, c195, hv195, hi195, hj195, hM195, hr195⟩ := skv_at hk182 hx195
  replace hr195 : rep _ (sl xs71 (o195 + Int.toNat y189 * 1) 1) x196 := hr195
  refine WL_y (Y_ixL il27 hT187_162 hv195 hT187_164 hi195 hj195) <|WL_y (Y_ld1 (.int .i64 x196) ts3 rfl (hS.bvK (j := 1) rfl hM195) hr195) <|WL_y (Y_assign (.int .i64 x196) rfl) ?_
  refine WL_nil (nm_then ?_)
  refine W_reg <|WL_y (Y_move (.int .i64 y188) hT187_7) <|WL_y (Y_move (.int .i64 x196) rfl) <|WL_y (Y_min rfl rfl) <|WL_y (Y_assign (.int .i64 (min y188 x196)) rfl) ?_
  refine WL_nil (nm_blk ?_)
  refine (nm_then ?_)
  refine W_reg <|WL_y (Y_add hT187_164 rfl) <|WL_y (Y_move (.int .i64 (IntKind.wrap .i64 (y189 + 1))) rfl) ?_
  refine WL_nil (nm_then ?_)
  exact ⟨M186, (min y188 x196), (IntKind.wrap .i64 (y189 + 1)), hF192, hS, hT187_0, hT187_6, rfl, hT187_162, hT187_163, rfl, (by rw [← hrec190]; exact hz)⟩
  replace hz := bif_ok_f hz hc194
  refine W_exit <|ex_then <|ex_then <|ex_hit ?_
  refine (nm_then ?_)
  refine W_seq <|W_seq <|W_reg <|WL_y (Y_move (.pointer (some ⟨bx1, 0, none⟩)) hT187_0) <|WL_y (Y_nil rfl) <|WL_y (Y_fa fa117_4 rfl) <|WL_y (Y_ld1 v70 ts27 rfl (hS.bvB 0 rfl) hp74) <|WL_y (Y_move (.int .i64 y174) hT187_6) ?_
  obtain ⟨l198, hx197, hz⟩ := bind_ok hz
  obtain ⟨⟨pp197, qq197⟩, hc197, hx197⟩ := Option.map_eq_some_iff.1 hx197
  obtain ⟨a197, c197, hv197, hn197⟩ := skr_shape hk73
  refine WL_y (Y_cutL (l := (some y174)) (h := none) il27 rfl hv197 (evs rfl) evn hc197 hn197) ?_
  have hk197 : skv M186 v70 (cutV v70 1 pp197 qq197) xs71 l198 := (show _ = l198 from hx197) ▸ skv_cut (hS.skv (j := 1) rfl hk73) hc197
  obtain ⟨a199, c199, hv199, _⟩ := skv_shape hk197
  refine WL_y (Y_lenL Try.underlying27 (tr2 hv199 rfl)) <|WL_y (Y_move (.int .i64 0) rfl) ?_
  refine WL_nil (nm_then ?_)
  refine W_block ?_
  refine W_loop (fun k208 T' w' => ∃ M201 cs203 d204 y206, Mm.ext w.heap.size (lentX [.box bx1 cx1 117, .stk ux1_4 3 1 xsx1_4]) M186 M201 ∧ St w (lentX [.box bx1 cx1 117, .stk ux1_4 3 1 xsx1_4]) M201 [.box bx1 cs203 117, .stk v70 3 1 xs71] w' ∧ rep M201 cs203 d204 ∧ sl cs203 (0 + 160) 1 = [v70] ∧ T' 0 = .pointer (some ⟨bx1, 0, none⟩) ∧ T' 6 = .int .i64 y174 ∧ T' 7 = .int .i64 y188 ∧ T' 177 = (cutV v70 1 pp197 qq197) ∧ T' 178 = .int .i64 (l198.length : Int) ∧ T' 179 = .int .i64 y206 ∧ visit_l4 l72 y174 y188 l198 k208 d204 y206 = some r) fu ?_ ?_ ?_
  exact ⟨M186, cs68, d69, (0 : Int), (Mm.ext.refl _ _ _), hS, hb68, hp74, hT187_0, hT187_6, hT187_7, rfl, rfl, rfl, hz⟩
  rintro T' w' ⟨_, _, _, _, _, _, _, _, _, _, _, _, _, _, hz⟩
  rw [visit_l4] at hz
  cases hz
  intro k208
  rintro T202 w200 ⟨M201, cs203, d204, y206, hx210, hS, hb203, hp205, hT202_0, hT202_6, hT202_7, hT202_177, hT202_178, hT202_179, hz⟩
  replace hk73 := skr.mono hx210.1 hk73
  replace hk197 := skv.mono hx210.1 hk197
  replace hE := Mm.ext.trans hE hx210
  replace hF78 := Mm.ext.trans hF78 hx210
  replace hF177 := Mm.ext.trans hF177 hx210
  replace hF192 := Mm.ext.trans hF192 hx210
  have hF209 := hx210
  rw [visit_l4] at hz
  obtain ⟨rec207, hrec207⟩ : ∃ f, f = visit_l4 l72 y174 y188 l198 k208 := ⟨_, rfl⟩
  rw [← hrec207] at hz
  refine W_seq <|W_reg <|WL_y (Y_lss hT202_179 hT202_178) ?_
  refine WL_nil (nm_then ?_)
  refine W_seq ?_
  refine W_cond rfl (fun hc211 => ?_) (fun hc211 => ?_)
  replace hz := bif_ok_t hz hc211
  refine W_skip (nm_then ?_)
  refine W_seq <|W_block <|W_seq <|W_reg ?_
  obtain ⟨x213, hx212, hz⟩ := bind_ok hz
  obtain ⟨b212, o212, c212, hv212, hi212, hj212, hM212, hr212⟩ := skv_at hk197 hx212
  replace hr212 : rep _ (sl xs71 (o212 + Int.toNat y206 * 1) 1) x213 := hr212
  refine WL_y (Y_ixL il27 hT202_177 hv212 hT202_179 hi212 hj212) <|WL_y (Y_ld1 (.int .i64 x213) ts3 rfl (hS.bvK (j := 1) rfl hM212) hr212) <|WL_y (Y_assign (.int .i64 x213) rfl) ?_
  refine WL_nil (nm_then ?_)
  refine W_drawB (Rd M201 []) (inL []) mixed hS fun w214 hS => ?_
  have hG215 := Mm.ext.refl w.heap.size (lentX [.box bx1 cx1 117, .stk ux1_4 3 1 xsx1_4]) M201
  have hR216 : Rd M201 [] w214 := Rd.of hS hG215 (by simp)
  refine WB_y (i := 0) rfl (by kernel_rfl) rfl (Y_move (.pointer (some ⟨bx1, 0, none⟩)) hT202_0) (fun _ => hR216) <|WB_y (i := 1) rfl (by kernel_rfl) rfl (Y_move (.int .i64 x213) rfl) (fun _ => hR216) <|WB_y (i := 2) rfl (by kernel_rfl) rfl (Y_move (.pointer (some ⟨bx1, 0, none⟩)) hT202_0) (fun _ => hR216) <|WB_y (i := 3) rfl (by kernel_rfl) rfl (Y_move (.int .i64 x213) rfl) (fun _ => hR216) <|WB_y (i := 4) rfl (by kernel_rfl) rfl (Y_move (.int .i64 y188) hT202_7) (fun _ => hR216) <|WB_y (i := 5) rfl (by kernel_rfl) rfl (Y_nil rfl) (fun _ => hR216) <|WB_y (i := 6) rfl (by kernel_rfl) rfl (Y_fa fa117_5 rfl) (fun _ => hR216) ?_
  obtain ⟨u217, hx218, hz⟩ := bind_ok hz
  obtain ⟨hx218a, hx218b⟩ := inR_some hx218
  refine WB_y (i := 7) rfl (by kernel_rfl) rfl (Y_ixA ia66 rfl rfl hx218a hx218b) (fun _ => hR216) <|WB_y (i := 9) rfl (by kernel_rfl) rfl (Y_nil rfl) (fun _ => hR216) <|WB_y (i := 10) rfl (by kernel_rfl) rfl (Y_fa fa117_3 rfl) (fun _ => hR216) ?_
  obtain ⟨x221, hx222, hz⟩ := bind_ok hz
  have hw220 : ([.int .i64 y188] : List Value).length = 1 := Rep.len (show rep M201 [Value.int .i64 y188] (y188 : Int) from rfl)
  have hl220 : (cs203).length = 194 := Rep.len hb203
  have hq223 := (idxV_some hx222)
  obtain ⟨a224, hx225, hz⟩ := bind_ok hz
  obtain ⟨d226, hd220, hz⟩ := bind_ok hz
  have hb220 : rep M201 (pt cs203 (0 + 161 + Int.toNat x213 * 1) [.int .i64 y188]) d226 := rep_eq (rep_whole (k := 194) (by rw [pt_length (by omega)]; exact hl220) (GSearch.s5 (rep_root (k := 194) rfl hb203) (vs (k := 1) rfl rfl (GSearch.p5 (rep_root (k := 194) rfl hb203)) (rep_leaf rfl (show rep M201 [Value.int .i64 y188] (y188 : Int) from rfl) (by omega)) hx225 (by omega) (by omega) (by omega)) (by omega) (by omega) (by omega))) hd220
  have hp227 : sl (pt cs203 (0 + 161 + Int.toNat x213 * 1) [.int .i64 y188]) (0 + 160) 1 = [v70] := (sl_pt_apart (by omega) (by omega)).trans hp205
  generalize hg220 : (pt cs203 (0 + 161 + Int.toNat x213 * 1) [.int .i64 y188]) = cs220 at hb220 hp227
  refine WB_one (i := 8) (by kernel_rfl) rfl (O_st (j := 0) (v := .int .i64 y188) (ws := [.int .i64 y188]) hS rfl (by kernel_rfl) rfl rfl rfl hw220 (Rep.one (show rep M201 [Value.int .i64 y188] (y188 : Int) from rfl)) (by omega) ?_)
  rw [hg220]
  clear hg220
  intro w219 hS
  replace hS : St w (lentX [.box bx1 cx1 117, .stk ux1_4 3 1 xsx1_4]) M201 [.box bx1 cs220 117, .stk v70 3 1 xs71] w219 := hS
  have hR228 : Rd M201 [] w219 := Rd.of hS hG215 (by simp)
  refine ⟨fun _ => hR228, ?_⟩
  obtain ⟨u229, hx230, hz⟩ := bind_ok hz
  obtain ⟨hx230a, hx230b⟩ := inR_some hx230
  refine WB_y (i := 11) rfl (by kernel_rfl) rfl (Y_ixA ia61 rfl rfl hx230a hx230b) (fun _ => hR228) ?_
  obtain ⟨x233, hx234, hz⟩ := bind_ok hz
  have hw232 : ([.bool false] : List Value).length = 1 := Rep.len (show rep M201 [Value.bool false] (false : Bool) from rfl)
  have hl232 : (cs220).length = 194 := Rep.len hb220
  have hq235 := (idxV_some hx234)
  obtain ⟨a236, hx237, hz⟩ := bind_ok hz
  obtain ⟨d238, hd232, hz⟩ := bind_ok hz
  have hb232 : rep M201 (pt cs220 (0 + 128 + Int.toNat x213 * 1) [.bool false]) d238 := rep_eq (rep_whole (k := 194) (by rw [pt_length (by omega)]; exact hl232) (GSearch.s3 (rep_root (k := 194) rfl hb220) (vs (k := 1) rfl rfl (GSearch.p3 (rep_root (k := 194) rfl hb220)) (rep_leaf rfl (show rep M201 [Value.bool false] (false : Bool) from rfl) (by omega)) hx237 (by omega) (by omega) (by omega)) (by omega) (by omega) (by omega))) hd232
  have hp239 : sl (pt cs220 (0 + 128 + Int.toNat x213 * 1) [.bool false]) (0 + 160) 1 = [v70] := (sl_pt_apart (by omega) (by omega)).trans hp227
  generalize hg232 : (pt cs220 (0 + 128 + Int.toNat x213 * 1) [.bool false]) = cs232 at hb232 hp239
  refine WB_one (i := 12) (by kernel_rfl) rfl (O_st (j := 0) (v := .bool false) (ws := [.bool false]) hS rfl (by kernel_rfl) rfl rfl rfl hw232 (Rep.one (show rep M201 [Value.bool false] (false : Bool) from rfl)) (by omega) ?_)
  rw [hg232]
  clear hg232
  intro w231 hS
  replace hS : St w (lentX [.box bx1 cx1 117, .stk ux1_4 3 1 xsx1_4]) M201 [.box bx1 cs232 117, .stk v70 3 1 xs71] w231 := hS
  have hR240 : Rd M201 [] w231 := Rd.of hS hG215 (by simp)
  refine ⟨fun _ => hR240, ?_⟩
  refine WB_done (by kernel_rfl) (nm_blk ?_)
  refine (nm_then ?_)
  refine W_reg <|WL_y (Y_add hT202_179 rfl) <|WL_y (Y_move (.int .i64 (IntKind.wrap .i64 (y206 + 1))) rfl) ?_
  refine WL_nil (nm_then ?_)
  exact ⟨M201, cs232, d238, (IntKind.wrap .i64 (y206 + 1)), hF209, hS, hb232, hp239, hT202_0, hT202_6, hT202_7, hT202_177, hT202_178, rfl, (by rw [← hrec207]; exact hz)⟩
  replace hz := bif_ok_f hz hc211
  refine W_exit <|ex_then <|ex_then <|ex_hit ?_
  refine (nm_then ?_)
  refine W_reg <|WL_y (Y_move (.pointer (some ⟨bx1, 0, none⟩)) hT202_0) <|WL_y (Y_move (.pointer (some ⟨bx1, 0, none⟩)) hT202_0) <|WL_y (Y_nil rfl) <|WL_y (Y_fa fa117_4 rfl) <|WL_y (Y_ld1 v70 ts27 rfl (hS.bvB 0 rfl) hp205) <|WL_y (Y_move (.int .i64 y174) hT202_6) ?_
  obtain ⟨l242, hx241, hz⟩ := bind_ok hz
  obtain ⟨⟨pp241, qq241⟩, hc241, hx241⟩ := Option.map_eq_some_iff.1 hx241
  obtain ⟨a241, c241, hv241, hn241⟩ := skr_shape hk73
  refine WL_y (Y_cutL (l := none) (h := (some y174)) il27 rfl hv241 evn (evs rfl) hc241 hn241) ?_
  obtain ⟨hk241, hS⟩ := hS.pop (j := 1) rfl hk73 hc241
  rw [show (List.drop pp241 (List.take qq241 l72)) = l242 from hx241] at hk241
  replace hk241 : skr M201 (cutV v70 1 pp241 qq241) (List.take (qq241 * 1) xs71) l242 := hk241
  replace hS : St w (lentX [.box bx1 cx1 117, .stk ux1_4 3 1 xsx1_4]) M201 [.box bx1 cs203 117, .stk (cutV v70 1 pp241 qq241) 3 1 (List.take (qq241 * 1) xs71)] w200 := hS
  refine WL_y (Y_nil rfl) <|WL_y (Y_fa fa117_4 rfl) ?_
  have hw244 : ([(cutV v70 1 pp241 qq241)] : List Value).length = 1 := Rep.len (hole_rep hk241)
  have hl244 : (cs203).length = 194 := Rep.len hb203
  obtain ⟨d245, hd244, hz⟩ := bind_ok hz
  have hb244 : rep M201 (pt cs203 (0 + 160) [(cutV v70 1 pp241 qq241)]) d245 := rep_eq (rep_whole (k := 194) (by rw [pt_length (by omega)]; exact hl244) (GSearch.s4 (rep_root (k := 194) rfl hb203) (rep_leaf rfl (hole_rep hk241) (by omega)) (by omega) (by omega) (by omega))) hd244
  have hp246 : sl (pt cs203 (0 + 160) [(cutV v70 1 pp241 qq241)]) (0 + 160) 1 = [(cutV v70 1 pp241 qq241)] := sl_pt_same (by omega) rfl
  generalize hg244 : (pt cs203 (0 + 160) [(cutV v70 1 pp241 qq241)]) = cs244 at hb244 hp246
  refine WL_c (O_st (j := 0) (v := (cutV v70 1 pp241 qq241)) (ws := [(cutV v70 1 pp241 qq241)]) hS rfl (by kernel_rfl) rfl rfl (skr_cells hk241) hw244 (Rep.one (hole_rep hk241)) (by omega) ?_)
  rw [hg244]
  clear hg244
  intro w243 hS
  replace hS : St w (lentX [.box bx1 cx1 117, .stk ux1_4 3 1 xsx1_4]) M201 [.box bx1 cs244 117, .stk (cutV v70 1 pp241 qq241) 3 1 (List.take (qq241 * 1) xs71)] w243 := hS
  cases hz
  exact WL_nil (RetQ_ret (R_t0 rfl  ⟨_, M201, _, rfl, hE, (hS.sel (H' := [.box bx1 cs244 117, .stk (cutV v70 1 pp241 qq241) 3 1 (List.take (qq241 * 1) xs71)]) [0, 1] (by decide) rfl), cs244, (cutV v70 1 pp241 qq241), (List.take (qq241 * 1) xs71), rfl, rfl, hb244, hk241, hp246⟩))
theorem visit_ok {M : Mm} {w : World} {bx1 : Nat} {cx1 : List Value} {ux1_4 : Value} {xsx1_4 : List Value} {x1 : GSearch} {l3 : List Int} {x4 : Int} {fu : Nat} {r : GSearch × (List Int)} (hS : St w (lentX [.box bx1 cx1 117, .stk ux1_4 3 1 xsx1_4]) M [.box bx1 cx1 117, .stk ux1_4 3 1 xsx1_4] w) (hcx1 : rep M cx1 x1) (hkx1_4 : skr M ux1_4 xsx1_4 l3) (hpx1_4 : sl cx1 160 1 = [ux1_4]) (hz : visitD fu x1 l3 x4 = some r) :
    Calls Try.prog 86 #[.pointer (some ⟨bx1, 0, none⟩), .int .i64 x4] w (GivesL M w [.box bx1 cx1 117, .stk ux1_4 3 1 xsx1_4] (fun M' u L' => ∃ k0 u1 x1, u = .tuple #[] ∧ L' = [.box bx1 k0 117, .stk u1 3 1 x1] ∧ rep M' k0 r.1 ∧ skr M' u1 x1 r.2 ∧ sl k0 160 1 = [u1])) :=
  visit_rok fu fu hS hcx1 hkx1_4 hpx1_4 hz
def free_j1 (y9 : Int) (rec10 : Int → Option Bool) : Option Bool :=
 rec10 (IntKind.wrap .i64 (y9 + 1))
def free_j3 (y33 : Int) (rec34 : Int → Option Bool) : Option Bool :=
 rec34 (IntKind.wrap .i64 (y33 + 1))
def free_j4 (y33 : Int) (rec34 : Int → Option Bool) (c49 : Bool) : Option Bool :=
 (bif c49 then
 some false
 else
 free_j3 y33 rec34)
def free_l2 (x1 : GSearch) (x2 : Int) (x3 : Vector Bool 32) (y9 : Int) (rec10 : Int → Option Bool) (x26 : List Int) : Nat → Int → Option Bool
 | 0, _ => none
 | n + 1, y33 =>
 (bif decide (y33 < (x26.length : Int)) then
 (idx x26 y33).bind fun x45 =>
 (bif decide (x45 ≥ 0) then
 (bif decide (x45 < 32) then
 (inR x45 32).bind fun _ =>
 (idxV x1.ring x45).bind fun x57 =>
 (bif x57 != x2 then
 (inR x45 32).bind fun _ =>
 (idxV x3 x45).bind fun x62 =>
 free_j4 y33 (free_l2 x1 x2 x3 y9 rec10 x26 n) (!x62)
 else
 free_j4 y33 (free_l2 x1 x2 x3 y9 rec10 x26 n) false)
 else
 free_j4 y33 (free_l2 x1 x2 x3 y9 rec10 x26 n) false)
 else
 free_j4 y33 (free_l2 x1 x2 x3 y9 rec10 x26 n) false)
 else
 free_j1 y9 rec10)
def free_j2 (fu : Nat) (x1 : GSearch) (x2 : Int) (x3 : Vector Bool 32) (y9 : Int) (rec10 : Int → Option Bool) : Option Bool :=
 (inR y9 32).bind fun _ =>
 (idxV x1.g.deps y9).bind fun x26 =>
 free_l2 x1 x2 x3 y9 rec10 x26 fu 0
def free_j5 (fu : Nat) (x1 : GSearch) (x2 : Int) (x3 : Vector Bool 32) (y9 : Int) (rec10 : Int → Option Bool) (c68 : Bool) : Option Bool :=
 (bif c68 then
 free_j1 y9 rec10
 else
 free_j2 fu x1 x2 x3 y9 rec10)
def free_l1 (fu : Nat) (x1 : GSearch) (x2 : Int) (x3 : Vector Bool 32) : Nat → Int → Option Bool
 | 0, _ => none
 | n + 1, y9 =>
 (bif decide (y9 < 32) then
 (inR y9 32).bind fun _ =>
 (idxV x1.mark_ y9).bind fun x74 =>
 (bif x74 == 0 then
 free_j5 fu x1 x2 x3 y9 (free_l1 fu x1 x2 x3 n) true
 else
 (inR y9 32).bind fun _ =>
 (idxV x1.ring y9).bind fun x79 =>
 free_j5 fu x1 x2 x3 y9 (free_l1 fu x1 x2 x3 n) (x79 != x2))
 else
 some true)
def freeD (fu : Nat) (x1 : GSearch) (x2 : Int) (x3 : Vector Bool 32) : Option Bool :=
 free_l1 fu x1 x2 x3 fu 0
set_option maxRecDepth 100000 in
set_option maxHeartbeats 4000000 in
theorem free_ok {M : Mm} {w : World} {bx1 : Nat} {cx1 : List Value} {cx3 : List Value} {x1 : GSearch} {x2 : Int} {x3 : Vector Bool 32} {fu : Nat} {r : Bool} (hS : St w (lentX [.box bx1 cx1 117]) M [.box bx1 cx1 117] w) (hcx1 : rep M cx1 x1) (hcx3 : rep M cx3 x3) (hz : freeD fu x1 x2 x3 = some r) :
    Calls Try.prog 87 #[.pointer (some ⟨bx1, 0, none⟩), .int .i64 x2, .agg cx3.toArray] w (GivesL M w [.box bx1 cx1 117] (fun M' u L' => u = .bool r ∧ L' = [.box bx1 cx1 117])) := by
 refine calls_W Try.func87 rfl 66 rfl rfl (by kernel_rfl) fun T hT => ?_
 have hT_0 : T 0 = .pointer (some ⟨bx1, 0, none⟩) := hT 0
 have hT_1 : T 1 = .int .i64 x2 := hT 1
 have hT_2 : T 2 = .agg cx3.toArray := hT 2
 clear hT
 have hE := Mm.ext.refl w.heap.size (lentX [.box bx1 cx1 117]) M
 rw [freeD] at hz
 refine W_seq <|W_reg ?_
 refine WL_c (O_box (v := .agg cx3.toArray) (cs := cx3) hT_2 rfl hS ?_)
 intro b5 w4 hb5 hS
 replace hS : St w (lentX [.box bx1 cx1 117]) M [.box b5 cx3 61, .box bx1 cx1 117] w4 := hS
 refine WL_y (Y_assign (.bool false) rfl) ?_
 refine WL_nil (nm_then ?_)
 refine W_seq <|W_seq <|W_reg <|WL_y (Y_move (.int .i64 0) rfl) ?_
 refine WL_nil (nm_then ?_)
 refine W_block ?_
 refine W_loop (fun k11 T' w' => ∃ M7 y9, Mm.ext w.heap.size (lentX [.box bx1 cx1 117]) M M7 ∧ St w (lentX [.box bx1 cx1 117]) M7 [.box b5 cx3 61, .box bx1 cx1 117] w' ∧ T' 0 = .pointer (some ⟨bx1, 0, none⟩) ∧ T' 1 = .int .i64 x2 ∧ T' 5 = .pointer (some ⟨b5, 0, none⟩) ∧ T' 10 = .int .i64 y9 ∧ free_l1 fu x1 x2 x3 k11 y9 = some r) fu ?_ ?_ ?_
 exact ⟨M, (0 : Int), (Mm.ext.refl _ _ _), hS, hT_0, hT_1, rfl, rfl, hz⟩
 rintro T' w' ⟨_, _, _, _, _, _, _, _, hz⟩
 rw [free_l1] at hz
 cases hz
 intro k11
 rintro T8 w6 ⟨M7, y9, hx13, hS, hT8_0, hT8_1, hT8_5, hT8_10, hz⟩
 replace hcx1 := Rep.mono hx13.1 hcx1
 replace hcx3 := Rep.mono hx13.1 hcx3
 replace hE := Mm.ext.trans hE hx13
 have hF12 := hx13
 rw [free_l1] at hz
 obtain ⟨rec10, hrec10⟩ : ∃ f, f = free_l1 fu x1 x2 x3 k11 := ⟨_, rfl⟩
 rw [← hrec10] at hz
 refine W_seq <|W_reg <|WL_y (Y_lss hT8_10 rfl) ?_
 refine WL_nil (nm_then ?_)
 refine W_seq ?_
 refine W_cond rfl (fun hc14 => ?_) (fun hc14 => ?_)
 replace hz := bif_ok_t hz hc14
 refine W_skip (nm_then ?_)
 refine W_seqJ (fun T' w' => ∃ M16, Mm.ext w.heap.size (lentX [.box bx1 cx1 117]) M7 M16 ∧ St w (lentX [.box bx1 cx1 117]) M16 [.box b5 cx3 61, .box bx1 cx1 117] w' ∧ T' 0 = .pointer (some ⟨bx1, 0, none⟩) ∧ T' 1 = .int .i64 x2 ∧ T' 5 = .pointer (some ⟨b5, 0, none⟩) ∧ T' 10 = .int .i64 y9 ∧ free_j1 y9 rec10 = some r) ?_ ?_
 have hF19 := Mm.ext.refl w.heap.size (lentX [.box bx1 cx1 117]) M7
 refine W_block <|W_seq <|W_reg <|WL_y (Y_move (.int .i64 y9) hT8_10) <|WL_y (Y_assign (.int .i64 y9) rfl) ?_
 refine WL_nil (nm_then ?_)
 refine W_seqJ (fun T' w' => ∃ M21, Mm.ext w.heap.size (lentX [.box bx1 cx1 117]) M7 M21 ∧ St w (lentX [.box bx1 cx1 117]) M21 [.box b5 cx3 61, .box bx1 cx1 117] w' ∧ T' 0 = .pointer (some ⟨bx1, 0, none⟩) ∧ T' 1 = .int .i64 x2 ∧ T' 5 = .pointer (some ⟨b5, 0, none⟩) ∧ T' 7 = .int .i64 y9 ∧ T' 10 = .int .i64 y9 ∧ free_j2 fu x1 x2 x3 y9 rec10 = some r) ?_ ?_
 have hF64 := Mm.ext.refl w.heap.size (lentX [.box bx1 cx1 117]) M7
 refine W_seqJ (fun T' w' => ∃ M66 c68, Mm.ext w.heap.size (lentX [.box bx1 cx1 117]) M7 M66 ∧ St w (lentX [.box bx1 cx1 117]) M66 [.box b5 cx3 61, .box bx1 cx1 117] w' ∧ T' 0 = .pointer (some ⟨bx1, 0, none⟩) ∧ T' 1 = .int .i64 x2 ∧ T' 5 = .pointer (some ⟨b5, 0, none⟩) ∧ T' 7 = .int .i64 y9 ∧ T' 10 = .int .i64 y9 ∧ T' 29 = .bool c68 ∧ free_j5 fu x1 x2 x3 y9 rec10 c68 = some r) ?_ ?_
 have hF71 := Mm.ext.refl w.heap.size (lentX [.box bx1 cx1 117]) M7
 refine W_reg <|WL_y (Y_move (.pointer (some ⟨bx1, 0, none⟩)) hT8_0) <|WL_y (Y_move (.int .i64 y9) rfl) <|WL_y (Y_nil rfl) <|WL_y (Y_fa fa117_1 rfl) ?_
 obtain ⟨u72, hx73, hz⟩ := bind_ok hz
 obtain ⟨hx73a, hx73b⟩ := inR_some hx73
 refine WL_y (Y_ixA ia66 rfl rfl hx73a hx73b) ?_
 obtain ⟨x74, hx75, hz⟩ := bind_ok hz
 refine WL_y (Y_ld1 (.int .i64 x74) ts3 rfl (hS.bvB 1 rfl) (vp (k := 1) rfl rfl (GSearch.p1 (rep_root (k := 194) rfl hcx1)) hx75)) <|WL_y (Y_eql rfl rfl) <|WL_y (Y_move (.bool (x74 == 0)) rfl) ?_
 rcases ic hz with ⟨hc76, hz⟩ | ⟨hc76, hz⟩ <;> rw [hc76]
 refine WL_d 9 rfl ?_
 refine WL_nil (nm_then ?_)
 exact ⟨M7, true, hF71, hS, hT8_0, hT8_1, hT8_5, rfl, hT8_10, rfl, hz⟩
 refine WL_gy rfl rfl (Y_move (.pointer (some ⟨bx1, 0, none⟩)) hT8_0) <|WL_gy rfl rfl (Y_move (.int .i64 y9) rfl) <|WL_gy rfl rfl (Y_nil rfl) <|WL_gy rfl rfl (Y_fa fa117_5 rfl) ?_
 obtain ⟨u77, hx78, hz⟩ := bind_ok hz
 obtain ⟨hx78a, hx78b⟩ := inR_some hx78
 refine WL_gy rfl rfl (Y_ixA ia66 rfl rfl hx78a hx78b) ?_
 obtain ⟨x79, hx80, hz⟩ := bind_ok hz
 refine WL_gy rfl rfl (Y_ld1 (.int .i64 x79) ts3 rfl (hS.bvB 1 rfl) (vp (k := 1) rfl rfl (GSearch.p5 (rep_root (k := 194) rfl hcx1)) hx80)) <|WL_gy rfl rfl (Y_move (.int .i64 x2) hT8_1) <|WL_gy rfl rfl (Y_neq rfl rfl) <|WL_y (Y_pick_f (.bool (x79 != x2)) rfl rfl) ?_
 refine WL_nil (nm_then ?_)
 exact ⟨M7, (x79 != x2), hF71, hS, hT8_0, hT8_1, hT8_5, rfl, hT8_10, rfl, hz⟩
 rintro T67 w65 ⟨M66, c68, hx69, hS, hT67_0, hT67_1, hT67_5, hT67_7, hT67_10, hT67_29, hz⟩
 replace hcx1 := Rep.mono hx69.1 hcx1
 replace hcx3 := Rep.mono hx69.1 hcx3
 replace hE := Mm.ext.trans hE hx69
 replace hF12 := Mm.ext.trans hF12 hx69
 replace hF19 := Mm.ext.trans hF19 hx69
 replace hF64 := Mm.ext.trans hF64 hx69
 rw [free_j5] at hz
 refine W_cond hT67_29 (fun hc70 => ?_) (fun hc70 => ?_)
 replace hz := bif_ok_t hz hc70
 refine W_exit <|ex_then <|ex_hit ?_
 refine (nm_then ?_)
 exact ⟨M66, hF19, hS, hT67_0, hT67_1, hT67_5, hT67_10, hz⟩
 replace hz := bif_ok_f hz hc70
 refine W_skip (nm_then ?_)
 exact ⟨M66, hF64, hS, hT67_0, hT67_1, hT67_5, hT67_7, hT67_10, hz⟩
 rintro T22 w20 ⟨M21, hx23, hS, hT22_0, hT22_1, hT22_5, hT22_7, hT22_10, hz⟩
 replace hcx1 := Rep.mono hx23.1 hcx1
 replace hcx3 := Rep.mono hx23.1 hcx3
 replace hE := Mm.ext.trans hE hx23
 replace hF12 := Mm.ext.trans hF12 hx23
 replace hF19 := Mm.ext.trans hF19 hx23
 rw [free_j2] at hz
 refine W_seq <|W_reg <|WL_y (Y_move (.pointer (some ⟨bx1, 0, none⟩)) hT22_0) <|WL_y (Y_move (.int .i64 y9) hT22_7) <|WL_y (Y_nil rfl) <|WL_y (Y_fa fa117_0 rfl) <|WL_y (Y_fa fa64_1 rfl) ?_
 obtain ⟨u24, hx25, hz⟩ := bind_ok hz
 obtain ⟨hx25a, hx25b⟩ := inR_some hx25
 refine WL_y (Y_ixA ia62 rfl rfl hx25a hx25b) ?_
 obtain ⟨x26, hx27, hz⟩ := bind_ok hz
 obtain ⟨v28, ev28, hv28⟩ := (vp (k := 1) rfl rfl (GGraph.p1 (GSearch.p0 (rep_root (k := 194) rfl hcx1))) hx27)
 refine WL_y (Y_ld1 v28 ts27 rfl (hS.bvB 1 rfl) ev28) ?_
 obtain ⟨a29, c29, hv29, _⟩ := repL_shape hv28
 refine WL_y (Y_lenL Try.underlying27 (tr2 hv29 rfl)) <|WL_y (Y_move (.int .i64 0) rfl) ?_
 refine WL_nil (nm_then ?_)
 refine W_block ?_
 refine W_loop (fun k35 T' w' => ∃ M31 y33, Mm.ext w.heap.size (lentX [.box bx1 cx1 117]) M21 M31 ∧ St w (lentX [.box bx1 cx1 117]) M31 [.box b5 cx3 61, .box bx1 cx1 117] w' ∧ T' 0 = .pointer (some ⟨bx1, 0, none⟩) ∧ T' 1 = .int .i64 x2 ∧ T' 5 = .pointer (some ⟨b5, 0, none⟩) ∧ T' 10 = .int .i64 y9 ∧ T' 36 = v28 ∧ T' 37 = .int .i64 (x26.length : Int) ∧ T' 38 = .int .i64 y33 ∧ free_l2 x1 x2 x3 y9 rec10 x26 k35 y33 = some r) fu ?_ ?_ ?_
 exact ⟨M21, (0 : Int), (Mm.ext.refl _ _ _), hS, hT22_0, hT22_1, hT22_5, hT22_10, rfl, rfl, rfl, hz⟩
 rintro T' w' ⟨_, _, _, _, _, _, _, _, _, _, _, hz⟩
 rw [free_l2] at hz
 cases hz
 intro k35
 rintro T32 w30 ⟨M31, y33, hx37, hS, hT32_0, hT32_1, hT32_5, hT32_10, hT32_36, hT32_37, hT32_38, hz⟩
 replace hcx1 := Rep.mono hx37.1 hcx1
 replace hcx3 := Rep.mono hx37.1 hcx3
 replace hv28 := repL.mono hx37.1 hv28
 replace hE := Mm.ext.trans hE hx37
 replace hF12 := Mm.ext.trans hF12 hx37
 replace hF19 := Mm.ext.trans hF19 hx37
 have hF36 := hx37
 rw [free_l2] at hz
 obtain ⟨rec34, hrec34⟩ : ∃ f, f = free_l2 x1 x2 x3 y9 rec10 x26 k35 := ⟨_, rfl⟩
 rw [← hrec34] at hz
 refine W_seq <|W_reg <|WL_y (Y_lss hT32_38 hT32_37) ?_
 refine WL_nil (nm_then ?_)
 refine W_seq ?_
 refine W_cond rfl (fun hc38 => ?_) (fun hc38 => ?_)
 replace hz := bif_ok_t hz hc38
 refine W_skip (nm_then ?_)
 refine W_seqJ (fun T' w' => ∃ M40, Mm.ext w.heap.size (lentX [.box bx1 cx1 117]) M31 M40 ∧ St w (lentX [.box bx1 cx1 117]) M40 [.box b5 cx3 61, .box bx1 cx1 117] w' ∧ T' 0 = .pointer (some ⟨bx1, 0, none⟩) ∧ T' 1 = .int .i64 x2 ∧ T' 5 = .pointer (some ⟨b5, 0, none⟩) ∧ T' 10 = .int .i64 y9 ∧ T' 36 = v28 ∧ T' 37 = .int .i64 (x26.length : Int) ∧ T' 38 = .int .i64 y33 ∧ free_j3 y33 rec34 = some r) ?_ ?_
 have hF43 := Mm.ext.refl w.heap.size (lentX [.box bx1 cx1 117]) M31
 refine W_block <|W_seq <|W_reg ?_
 obtain ⟨x45, hx44, hz⟩ := bind_ok hz
 obtain ⟨b44, o44, c44, p44, hv44, hi44, hj44, hM44, hr44⟩ := repL_at hv28 hx44
 replace hr44 : rep _ (sl p44 (o44 + Int.toNat y33 * 1) 1) x45 := hr44
 refine WL_y (Y_ixL il27 hT32_36 hv44 hT32_38 hi44 hj44) <|WL_y (Y_ld1 (.int .i64 x45) ts3 rfl (hS.bvM hM44) hr44) <|WL_y (Y_assign (.int .i64 x45) rfl) ?_
 refine WL_nil (nm_then ?_)
 refine W_seqJ (fun T' w' => ∃ M47 c49, Mm.ext w.heap.size (lentX [.box bx1 cx1 117]) M31 M47 ∧ St w (lentX [.box bx1 cx1 117]) M47 [.box b5 cx3 61, .box bx1 cx1 117] w' ∧ T' 0 = .pointer (some ⟨bx1, 0, none⟩) ∧ T' 1 = .int .i64 x2 ∧ T' 5 = .pointer (some ⟨b5, 0, none⟩) ∧ T' 10 = .int .i64 y9 ∧ T' 36 = v28 ∧ T' 37 = .int .i64 (x26.length : Int) ∧ T' 38 = .int .i64 y33 ∧ T' 63 = .bool c49 ∧ free_j4 y33 rec34 c49 = some r) ?_ ?_
 have hF52 := Mm.ext.refl w.heap.size (lentX [.box bx1 cx1 117]) M31
 refine W_reg <|WL_y (Y_move (.int .i64 x45) rfl) <|WL_y (Y_geq rfl rfl) <|WL_y (Y_move (.bool (decide (x45 ≥ 0))) rfl) ?_
 rcases ic hz with ⟨hc53, hz⟩ | ⟨hc53, hz⟩ <;> rw [hc53]
 refine WL_gy rfl rfl (Y_move (.int .i64 x45) rfl) <|WL_gy rfl rfl (Y_lss rfl rfl) <|WL_d 2 rfl ?_
 rcases ic hz with ⟨hc54, hz⟩ | ⟨hc54, hz⟩ <;> rw [hc54]
 refine WL_gy rfl rfl (Y_move (.pointer (some ⟨bx1, 0, none⟩)) hT32_0) <|WL_gy rfl rfl (Y_move (.int .i64 x45) rfl) <|WL_gy rfl rfl (Y_nil rfl) <|WL_gy rfl rfl (Y_fa fa117_5 rfl) ?_
 obtain ⟨u55, hx56, hz⟩ := bind_ok hz
 obtain ⟨hx56a, hx56b⟩ := inR_some hx56
 refine WL_gy rfl rfl (Y_ixA ia66 rfl rfl hx56a hx56b) ?_
 obtain ⟨x57, hx58, hz⟩ := bind_ok hz
 refine WL_gy rfl rfl (Y_ld1 (.int .i64 x57) ts3 rfl (hS.bvB 1 rfl) (vp (k := 1) rfl rfl (GSearch.p5 (rep_root (k := 194) rfl hcx1)) hx58)) <|WL_gy rfl rfl (Y_move (.int .i64 x2) hT32_1) <|WL_gy rfl rfl (Y_neq rfl rfl) <|WL_d 2 rfl ?_
 rcases ic hz with ⟨hc59, hz⟩ | ⟨hc59, hz⟩ <;> rw [hc59]
 refine WL_gy rfl rfl (Y_move (.int .i64 x45) rfl) ?_
 obtain ⟨u60, hx61, hz⟩ := bind_ok hz
 obtain ⟨hx61a, hx61b⟩ := inR_some hx61
 refine WL_gy rfl rfl (Y_ixA ia61 hT32_5 rfl hx61a hx61b) ?_
 obtain ⟨x62, hx63, hz⟩ := bind_ok hz
 refine WL_gy rfl rfl (Y_ld1 (.bool x62) ts4 rfl (hS.bvB 0 rfl) (vp (k := 1) rfl rfl (rep_root (k := 32) rfl hcx3) hx63)) <|WL_gy rfl rfl (Y_not rfl) <|WL_y (Y_pick_t (.bool (!x62)) rfl rfl) ?_
 refine WL_nil (nm_then ?_)
 exact ⟨M31, (!x62), hF52, hS, hT32_0, hT32_1, hT32_5, hT32_10, hT32_36, hT32_37, hT32_38, rfl, hz⟩
 refine WL_d 5 rfl ?_
 refine WL_nil (nm_then ?_)
 exact ⟨M31, false, hF52, hS, hT32_0, hT32_1, hT32_5, hT32_10, hT32_36, hT32_37, hT32_38, rfl, hz⟩
 refine WL_d 15 rfl ?_
 refine WL_nil (nm_then ?_)
 exact ⟨M31, false, hF52, hS, hT32_0, hT32_1, hT32_5, hT32_10, hT32_36, hT32_37, hT32_38, rfl, hz⟩
 refine WL_d 19 rfl ?_
 refine WL_nil (nm_then ?_)
 exact ⟨M31, false, hF52, hS, hT32_0, hT32_1, hT32_5, hT32_10, hT32_36, hT32_37, hT32_38, rfl, hz⟩
 rintro T48 w46 ⟨M47, c49, hx50, hS, hT48_0, hT48_1, hT48_5, hT48_10, hT48_36, hT48_37, hT48_38, hT48_63, hz⟩
 replace hcx1 := Rep.mono hx50.1 hcx1
 replace hcx3 := Rep.mono hx50.1 hcx3
 replace hv28 := repL.mono hx50.1 hv28
 replace hE := Mm.ext.trans hE hx50
 replace hF12 := Mm.ext.trans hF12 hx50
 replace hF19 := Mm.ext.trans hF19 hx50
 replace hF36 := Mm.ext.trans hF36 hx50
 replace hF43 := Mm.ext.trans hF43 hx50
 rw [free_j4] at hz
 refine W_cond hT48_63 (fun hc51 => ?_) (fun hc51 => ?_)
 replace hz := bif_ok_t hz hc51
 refine W_seq <|W_reg <|WL_y (Y_assign (.bool false) rfl) ?_
 refine WL_nil (nm_then ?_)
 cases hz
 exact W_ret (rt_blk (rt_then (rt_then (rt_blk (rt_blk (rt_then (rt_then (rt_blk (rt_then (R_t1 rfl rfl ⟨_, M47, _, rfl, hE, (hS.sel (H' := [.box bx1 cx1 117]) [1] (by decide) rfl), rfl, rfl⟩))))))))))
 replace hz := bif_ok_f hz hc51
 refine W_skip (nm_blk ?_)
 refine (nm_then ?_)
 exact ⟨M47, hF43, hS, hT48_0, hT48_1, hT48_5, hT48_10, hT48_36, hT48_37, hT48_38, hz⟩
 rintro T41 w39 ⟨M40, hx42, hS, hT41_0, hT41_1, hT41_5, hT41_10, hT41_36, hT41_37, hT41_38, hz⟩
 replace hcx1 := Rep.mono hx42.1 hcx1
 replace hcx3 := Rep.mono hx42.1 hcx3
 replace hv28 := repL.mono hx42.1 hv28
 replace hE := Mm.ext.trans hE hx42
 replace hF12 := Mm.ext.trans hF12 hx42
 replace hF19 := Mm.ext.trans hF19 hx42
 replace hF36 := Mm.ext.trans hF36 hx42
 rw [free_j3] at hz
 refine W_reg <|WL_y (Y_add hT41_38 rfl) <|WL_y (Y_move (.int .i64 (IntKind.wrap .i64 (y33 + 1))) rfl) ?_
 refine WL_nil (nm_then ?_)
 exact ⟨M40, (IntKind.wrap .i64 (y33 + 1)), hF36, hS, hT41_0, hT41_1, hT41_5, hT41_10, hT41_36, hT41_37, rfl, (by rw [← hrec34]; exact hz)⟩
 replace hz := bif_ok_f hz hc38
 refine W_exit <|ex_then <|ex_then <|ex_hit ?_
 refine (nm_blk ?_)
 refine (nm_then ?_)
 exact ⟨M31, hF19, hS, hT32_0, hT32_1, hT32_5, hT32_10, hz⟩
 rintro T17 w15 ⟨M16, hx18, hS, hT17_0, hT17_1, hT17_5, hT17_10, hz⟩
 replace hcx1 := Rep.mono hx18.1 hcx1
 replace hcx3 := Rep.mono hx18.1 hcx3
 replace hE := Mm.ext.trans hE hx18
 replace hF12 := Mm.ext.trans hF12 hx18
 rw [free_j1] at hz
 refine W_reg <|WL_y (Y_add hT17_10 rfl) <|WL_y (Y_move (.int .i64 (IntKind.wrap .i64 (y9 + 1))) rfl) ?_
 refine WL_nil (nm_then ?_)
 exact ⟨M16, (IntKind.wrap .i64 (y9 + 1)), hF12, hS, hT17_0, hT17_1, hT17_5, rfl, (by rw [← hrec10]; exact hz)⟩
 replace hz := bif_ok_f hz hc14
 refine W_exit <|ex_then <|ex_then <|ex_hit ?_
 refine (nm_then ?_)
 refine W_seq <|W_reg <|WL_y (Y_assign (.bool true) rfl) ?_
 refine WL_nil (nm_then ?_)
 cases hz
 exact W_ret (R_t1 rfl rfl ⟨_, M7, _, rfl, hE, (hS.sel (H' := [.box bx1 cx1 117]) [1] (by decide) rfl), rfl, rfl⟩)
def gorder_j2 (y54 : Int) (rec55 : (Vector Bool 32) → (List Int) → Int → Option (List Int)) (d64 : Vector Bool 32) (l65 : List Int) : Option (List Int) :=
 rec55 d64 l65 (IntKind.wrap .i64 (y54 + 1))
def gorder_j3 (d51 : Vector Bool 32) (l52 : List Int) (y54 : Int) (rec55 : (Vector Bool 32) → (List Int) → Int → Option (List Int)) (c72 : Bool) : Option (List Int) :=
 (bif c72 then
 (inR y54 32).bind fun _ =>
 (idxV d51 y54).bind fun x79 =>
 (setV d51 y54 true).bind fun a82 =>
 (some a82).bind fun d84 =>
 (app l52 ([y54] : List Int)).bind fun l89 =>
 gorder_j2 y54 rec55 d84 l89
 else
 gorder_j2 y54 rec55 d51 l52)
def gorder_l2 (rec34 : (Vector Bool 32) → GSearch → (List Int) → Option (List Int)) (d42 : GSearch) (y44 : Int) : Nat → (Vector Bool 32) → (List Int) → Int → Option (List Int)
 | 0, _, _, _ => none
 | n + 1, d51, l52, y54 =>
 (bif decide (y54 < 32) then
 (inR y54 32).bind fun _ =>
 (idxV d42.mark_ y54).bind fun x93 =>
 (bif decide (x93 > 0) then
 (inR y54 32).bind fun _ =>
 (idxV d42.ring y54).bind fun x98 =>
 gorder_j3 d51 l52 y54 (gorder_l2 rec34 d42 y44 n) (x98 == y44)
 else
 gorder_j3 d51 l52 y54 (gorder_l2 rec34 d42 y44 n) false)
 else
 rec34 d51 d42 l52)
def gorder_j1 (fu : Nat) (d28 : Vector Bool 32) (l32 : List Int) (rec34 : (Vector Bool 32) → GSearch → (List Int) → Option (List Int)) (d42 : GSearch) (y44 : Int) : Option (List Int) :=
 (bif decide (y44 < 0) then
 some l32
 else
 gorder_l2 rec34 d42 y44 fu d28 l32 0)
def gorder_j4 (y108 : Int) (rec109 : GSearch → Int → Int → Option (List Int)) (d118 : GSearch) (y120 : Int) : Option (List Int) :=
 rec109 d118 y120 (IntKind.wrap .i64 (y108 + 1))
def gorder_j5 (fu : Nat) (d28 : Vector Bool 32) (l32 : List Int) (rec34 : (Vector Bool 32) → GSearch → (List Int) → Option (List Int)) (y107 : Int) (y108 : Int) (rec109 : GSearch → Int → Int → Option (List Int)) (d127 : GSearch) (c129 : Bool) : Option (List Int) :=
 (bif c129 then
 gorder_j1 fu d28 l32 rec34 d127 y108
 else
 gorder_j4 y108 rec109 d127 y107)
def gorder_l3 (fu : Nat) (d28 : Vector Bool 32) (l32 : List Int) (rec34 : (Vector Bool 32) → GSearch → (List Int) → Option (List Int)) : Nat → GSearch → Int → Int → Option (List Int)
 | 0, _, _, _ => none
 | n + 1, d105, y107, y108 =>
 (bif decide (y108 < 32) then
 (inR y108 32).bind fun _ =>
 (idxV d105.mark_ y108).bind fun x135 =>
 (bif decide (x135 > 0) then
 (inR y108 32).bind fun _ =>
 (idxV d28 y108).bind fun x140 =>
 (bif !x140 then
 (inR y108 32).bind fun _ =>
 (idxV d105.ring y108).bind fun x145 =>
 (bif x145 == y108 then
 (freeD fu d105 y108 d28).bind fun r151 =>
 gorder_j5 fu d28 l32 rec34 y107 y108 (gorder_l3 fu d28 l32 rec34 n) d105 r151
 else
 gorder_j5 fu d28 l32 rec34 y107 y108 (gorder_l3 fu d28 l32 rec34 n) d105 false)
 else
 gorder_j5 fu d28 l32 rec34 y107 y108 (gorder_l3 fu d28 l32 rec34 n) d105 false)
 else
 gorder_j5 fu d28 l32 rec34 y107 y108 (gorder_l3 fu d28 l32 rec34 n) d105 false)
 else
 gorder_j1 fu d28 l32 rec34 d105 y107)
def gorder_l1 (fu : Nat) : Nat → (Vector Bool 32) → GSearch → (List Int) → Option (List Int)
 | 0, _, _, _ => none
 | n + 1, d28, d30, l32 =>
 gorder_l3 fu d28 l32 (gorder_l1 fu n) fu d30 (-1) 0
def gorderD (fu : Nat) (x1 : GGraph) (x2 : Int) : Option (List Int) :=
 (readyD fu x1 x2).bind fun r8 =>
 (bif !r8 then
 some []
 else
 (some ({ g := x1, mark_ := Zr.zd, low := Zr.zd, on_ := Zr.zd, stack := Zr.zd, ring := Zr.zd, next := Zr.zd } : GSearch)).bind fun d12 =>
 (visitD fu d12 ([] : List Int) x2).bind fun r20 =>
 gorder_l1 fu fu (Zr.zd : Vector Bool 32) r20.1 ([] : List Int))
set_option maxRecDepth 100000 in
set_option maxHeartbeats 4000000 in
theorem gorder_ok {M : Mm} {w : World} {cx1 : List Value} {x1 : GGraph} {x2 : Int} {fu : Nat} {r : (List Int)} (hA : Agree M w) (hcx1 : rep M cx1 x1) (hz : gorderD fu x1 x2 = some r) :
    Calls Try.prog 73 #[.agg cx1.toArray, .int .i64 x2] w (Gives M w (fun M' u => repL M' u r)) := by
 refine calls_W Try.func73 rfl 85 rfl rfl (by kernel_rfl) fun T hT => ?_
 have hT_0 : T 0 = .agg cx1.toArray := hT 0
 have hT_1 : T 1 = .int .i64 x2 := hT 1
 clear hT
 have hE := Mm.ext.refl w.heap.size noX M
 have hS : St w noX M [] w := St.start hA
 rw [gorderD] at hz
 refine W_seq <|W_reg ?_
 refine WL_c (O_box (v := .agg cx1.toArray) (cs := cx1) hT_0 rfl hS ?_)
 intro b4 w3 hb4 hS
 replace hS : St w noX M [.box b4 cx1 64] w3 := hS
 refine WL_y (Y_assign ((.slice none 0 0)) rfl) ?_
 refine WL_nil (nm_then ?_)
 refine W_seq <|W_seq <|W_reg ?_
 have ha5 := (rep_root (k := 64) rfl hcx1)
 refine WL_y (Y_ldn ta64 rfl (hS.bvB 0 rfl) (Rep.len ha5)) <|WL_y (Y_move (.int .i64 x2) hT_1) ?_
 obtain ⟨r8, hr7, hz⟩ := bind_ok hz
 refine WL_c (O_val (vs := [.agg (sl cx1 (0) 64).toArray, .int .i64 x2]) (v := .bool r8) cb85 (args2 rfl rfl) hS (ready_ok hS.agree ha5 hr7) ?_)
 intro w6 hS
 refine WL_y (Y_not rfl) ?_
 refine WL_nil (nm_then ?_)
 refine W_cond rfl (fun hc9 => ?_) (fun hc9 => ?_)
 replace hz := bif_ok_t hz hc9
 refine W_seq <|W_reg <|WL_y (Y_assign ((.slice none 0 0)) rfl) ?_
 refine WL_nil (nm_then ?_)
 cases hz
 exact W_ret (rt_then (R_t1 rfl rfl (Gives.mk (St.dropB hS hb4) hE (repL_nil _))))
 replace hz := bif_ok_f hz hc9
 refine W_skip (nm_then ?_)
 refine W_seq <|W_reg ?_
 have ha10 := (rep_root (k := 64) rfl hcx1)
 refine WL_y (Y_ldn ta64 rfl (hS.bvB 0 rfl) (Rep.len ha10)) ?_
 have k11_0 := GSearch.w0 (Zr.zr : rep M (Zr.zc GSearch) (Zr.zd : GSearch)) ha10
 obtain ⟨d12, hd11, hz⟩ := bind_ok hz
 obtain ⟨cs11, hf11, ha11⟩ : ∃ cs, fillZ (([(0, 64), (64, 32), (96, 32), (128, 32), (160, 1), (161, 32), (193, 1)] : List (Nat × Nat))[·]?) (Zr.zc GSearch) [(0, .agg (sl cx1 (0) 64).toArray)] = some cs ∧ rep M cs d12 := ⟨_, (fz_cons (Zr.zr : rep M (Zr.zc GSearch) (Zr.zd : GSearch)) rfl rfl (Rep.len ha10) (by decide) fz_nil), rep_eq (x := ({ g := x1, mark_ := Zr.zd, low := Zr.zd, on_ := Zr.zd, stack := Zr.zd, ring := Zr.zd, next := Zr.zd } : GSearch)) k11_0 hd11⟩
 have hp13 : sl cs11 160 1 = [.slice none 0 0] := (fillZ_apart hf11 (by rfl)).trans (by rfl)
 replace hS := hS.nilStk 3 1
 have hk15 : skr M (.slice none 0 0) [] ([] : List Int) := skr_nil
 replace hS : St w noX M [.stk (.slice none 0 0) 3 1 [], .box b4 cx1 64] w6 := hS
 refine WL_y (Y_build [(0, .agg (sl cx1 (0) 64).toArray)] tb117 (bpc rfl bp0) hf11) ?_
 refine WL_c (O_box (v := .agg cs11.toArray) (cs := cs11) rfl rfl hS ?_)
 intro b17 w16 hb17 hS
 replace hS : St w noX M [.box b17 cs11 117, .stk (.slice none 0 0) 3 1 [], .box b4 cx1 64] w16 := hS
 refine WL_y (Y_assign (.pointer (some ⟨b17, 0, none⟩)) rfl) ?_
 refine WL_nil (nm_then ?_)
 refine W_seq <|W_reg <|WL_y (Y_move (.pointer (some ⟨b17, 0, none⟩)) rfl) <|WL_y (Y_move (.int .i64 x2) hT_1) ?_
 obtain ⟨r20, hr19, hz⟩ := bind_ok hz
 refine WL_c (O_lend (vs := [.pointer (some ⟨b17, 0, none⟩), .int .i64 x2]) (L := [.box b17 cs11 117, .stk (.slice none 0 0) 3 1 []]) (R := [.box b4 cx1 64]) (rv := (fun M' u L' => ∃ k0 u1 x1, u = .tuple #[] ∧ L' = [.box b17 k0 117, .stk u1 3 1 x1] ∧ rep M' k0 r20.1 ∧ skr M' u1 x1 r20.2 ∧ sl k0 160 1 = [u1])) cb86 (args2 rfl rfl) hS (hS.sel [0, 1, 2] (by decide) rfl) (fun hS => visit_ok hS ha11 hk15 hp13 hr19) ?_)
 rintro u19 M19 w18 L19 hx19 ⟨k0_19, u1_19, x1_19, rfl, hL19, f19_0, f19_1, f19_2⟩ hS
 replace hS := hS _ hL19
 replace hcx1 := Rep.mono hx19.1 hcx1
 replace ha11 := Rep.mono hx19.1 ha11
 replace hk15 := skr.mono hx19.1 hk15
 replace hE := Mm.ext.trans hE hx19
 replace hS : St w noX M19 [.box b17 k0_19 117, .stk u1_19 3 1 x1_19, .box b4 cx1 64] w18 := hS
 refine WL_nil (nm_then ?_)
 refine W_seq <|W_reg <|WL_y (Y_assign ((.slice none 0 0)) rfl) ?_
 refine WL_nil (nm_then ?_)
 refine W_seq <|W_reg ?_
 refine WL_c (O_alloc tz61 hS ?_)
 intro b22 w21 hb22 hS
 replace hS : St w noX M19 [.box b22 (Zr.zc (Vector Bool 32)) 61, .box b17 k0_19 117, .stk u1_19 3 1 x1_19, .box b4 cx1 64] w21 := hS
 have zb22 : rep M19 (Zr.zc (Vector Bool 32)) (Zr.zd : Vector Bool 32) := Zr.zr
 refine WL_nil (nm_then ?_)
 refine W_block ?_
 replace hS := hS.nilRow 3 1
 replace hS : St w noX M19 [.row (.slice none 0 0) 3 1, .box b22 (Zr.zc (Vector Bool 32)) 61, .box b17 k0_19 117, .stk u1_19 3 1 x1_19, .box b4 cx1 64] w21 := hS
 refine W_loop (fun k35 T' w' => ∃ M25 cs27 d28 cs29 d30 v33 l32, Mm.ext w.heap.size noX M19 M25 ∧ St w noX M25 [.row v33 3 1, .box b22 cs27 61, .box b17 cs29 117, .stk u1_19 3 1 x1_19, .box b4 cx1 64] w' ∧ rep M25 cs27 d28 ∧ rep M25 cs29 d30 ∧ sl cs29 (0 + 160) 1 = [u1_19] ∧ repL M25 v33 l32 ∧ T' 5 = .pointer (some ⟨b17, 0, none⟩) ∧ T' 6 = v33 ∧ T' 7 = .pointer (some ⟨b22, 0, none⟩) ∧ gorder_l1 fu k35 d28 d30 l32 = some r) fu ?_ ?_ ?_
 exact ⟨M19, (Zr.zc (Vector Bool 32)), (Zr.zd : Vector Bool 32), k0_19, r20.1, (.slice none 0 0), ([] : List Int), (Mm.ext.refl _ _ _), hS, zb22, f19_0, f19_2, (repL_nil _), rfl, rfl, rfl, hz⟩
 rintro T' w' ⟨_, _, _, _, _, _, _, _, _, _, _, _, _, _, _, _, hz⟩
 rw [gorder_l1] at hz
 cases hz
 intro k35
 rintro T26 w24 ⟨M25, cs27, d28, cs29, d30, v33, l32, hx37, hS, hb27, hb29, hp31, hv33, hT26_5, hT26_6, hT26_7, hz⟩
 replace hcx1 := Rep.mono hx37.1 hcx1
 replace f19_1 := skr.mono hx37.1 f19_1
 replace hE := Mm.ext.trans hE hx37
 have hF36 := hx37
 rw [gorder_l1] at hz
 obtain ⟨rec34, hrec34⟩ : ∃ f, f = gorder_l1 fu k35 := ⟨_, rfl⟩
 rw [← hrec34] at hz
 refine W_block <|W_seq <|W_reg <|WL_y (Y_assign (.int .i64 (-1)) rfl) ?_
 refine WL_nil (nm_then ?_)
 refine W_seqJ (fun T' w' => ∃ M39 cs41 d42 y44, Mm.ext w.heap.size noX M25 M39 ∧ St w noX M39 [.row v33 3 1, .box b22 cs27 61, .box b17 cs41 117, .stk u1_19 3 1 x1_19, .box b4 cx1 64] w' ∧ rep M39 cs41 d42 ∧ sl cs41 (0 + 160) 1 = [u1_19] ∧ T' 5 = .pointer (some ⟨b17, 0, none⟩) ∧ T' 6 = v33 ∧ T' 7 = .pointer (some ⟨b22, 0, none⟩) ∧ T' 8 = .int .i64 y44 ∧ gorder_j1 fu d28 l32 rec34 d42 y44 = some r) ?_ ?_
 have hF100 := Mm.ext.refl w.heap.size noX M25
 refine W_seq <|W_reg <|WL_y (Y_move (.int .i64 0) rfl) ?_
 refine WL_nil (nm_then ?_)
 refine W_block ?_
 refine W_loop (fun k110 T' w' => ∃ M102 cs104 d105 y107 y108, Mm.ext w.heap.size noX M25 M102 ∧ St w noX M102 [.row v33 3 1, .box b22 cs27 61, .box b17 cs104 117, .stk u1_19 3 1 x1_19, .box b4 cx1 64] w' ∧ rep M102 cs104 d105 ∧ sl cs104 (0 + 160) 1 = [u1_19] ∧ T' 5 = .pointer (some ⟨b17, 0, none⟩) ∧ T' 6 = v33 ∧ T' 7 = .pointer (some ⟨b22, 0, none⟩) ∧ T' 8 = .int .i64 y107 ∧ T' 21 = .int .i64 y108 ∧ gorder_l3 fu d28 l32 rec34 k110 d105 y107 y108 = some r) fu ?_ ?_ ?_
 exact ⟨M25, cs29, d30, ((-1) : Int), (0 : Int), (Mm.ext.refl _ _ _), hS, hb29, hp31, hT26_5, hT26_6, hT26_7, rfl, rfl, hz⟩
 rintro T' w' ⟨_, _, _, _, _, _, _, _, _, _, _, _, _, _, hz⟩
 rw [gorder_l3] at hz
 cases hz
 intro k110
 rintro T103 w101 ⟨M102, cs104, d105, y107, y108, hx112, hS, hb104, hp106, hT103_5, hT103_6, hT103_7, hT103_8, hT103_21, hz⟩
 replace hcx1 := Rep.mono hx112.1 hcx1
 replace f19_1 := skr.mono hx112.1 f19_1
 replace hb27 := Rep.mono hx112.1 hb27
 replace hv33 := repL.mono hx112.1 hv33
 replace hE := Mm.ext.trans hE hx112
 replace hF36 := Mm.ext.trans hF36 hx112
 replace hF100 := Mm.ext.trans hF100 hx112
 have hF111 := hx112
 rw [gorder_l3] at hz
 obtain ⟨rec109, hrec109⟩ : ∃ f, f = gorder_l3 fu d28 l32 rec34 k110 := ⟨_, rfl⟩
 rw [← hrec109] at hz
 refine W_seq <|W_reg <|WL_y (Y_lss hT103_21 rfl) ?_
 refine WL_nil (nm_then ?_)
 refine W_seq ?_
 refine W_cond rfl (fun hc113 => ?_) (fun hc113 => ?_)
 replace hz := bif_ok_t hz hc113
 refine W_skip (nm_then ?_)
 refine W_seqJ (fun T' w' => ∃ M115 cs117 d118 y120, Mm.ext w.heap.size noX M102 M115 ∧ St w noX M115 [.row v33 3 1, .box b22 cs27 61, .box b17 cs117 117, .stk u1_19 3 1 x1_19, .box b4 cx1 64] w' ∧ rep M115 cs117 d118 ∧ sl cs117 (0 + 160) 1 = [u1_19] ∧ T' 5 = .pointer (some ⟨b17, 0, none⟩) ∧ T' 6 = v33 ∧ T' 7 = .pointer (some ⟨b22, 0, none⟩) ∧ T' 8 = .int .i64 y120 ∧ T' 21 = .int .i64 y108 ∧ gorder_j4 y108 rec109 d118 y120 = some r) ?_ ?_
 have hF122 := Mm.ext.refl w.heap.size noX M102
 refine W_block <|W_seq <|W_reg <|WL_y (Y_move (.int .i64 y108) hT103_21) <|WL_y (Y_assign (.int .i64 y108) rfl) ?_
 refine WL_nil (nm_then ?_)
 refine W_seqJ (fun T' w' => ∃ M124 cs126 d127 c129, Mm.ext w.heap.size noX M102 M124 ∧ St w noX M124 [.row v33 3 1, .box b22 cs27 61, .box b17 cs126 117, .stk u1_19 3 1 x1_19, .box b4 cx1 64] w' ∧ rep M124 cs126 d127 ∧ sl cs126 (0 + 160) 1 = [u1_19] ∧ T' 5 = .pointer (some ⟨b17, 0, none⟩) ∧ T' 6 = v33 ∧ T' 7 = .pointer (some ⟨b22, 0, none⟩) ∧ T' 8 = .int .i64 y107 ∧ T' 9 = .int .i64 y108 ∧ T' 21 = .int .i64 y108 ∧ T' 52 = .bool c129 ∧ gorder_j5 fu d28 l32 rec34 y107 y108 rec109 d127 c129 = some r) ?_ ?_
 have hF132 := Mm.ext.refl w.heap.size noX M102
 refine W_reg <|WL_y (Y_move (.pointer (some ⟨b17, 0, none⟩)) hT103_5) <|WL_y (Y_move (.int .i64 y108) rfl) <|WL_y (Y_nil rfl) <|WL_y (Y_fa fa117_1 rfl) ?_
 obtain ⟨u133, hx134, hz⟩ := bind_ok hz
 obtain ⟨hx134a, hx134b⟩ := inR_some hx134
 refine WL_y (Y_ixA ia66 rfl rfl hx134a hx134b) ?_
 obtain ⟨x135, hx136, hz⟩ := bind_ok hz
 refine WL_y (Y_ld1 (.int .i64 x135) ts3 rfl (hS.bvB 2 rfl) (vp (k := 1) rfl rfl (GSearch.p1 (rep_root (k := 194) rfl hb104)) hx136)) <|WL_y (Y_gtr rfl rfl) <|WL_y (Y_move (.bool (decide (x135 > 0))) rfl) ?_
 rcases ic hz with ⟨hc137, hz⟩ | ⟨hc137, hz⟩ <;> rw [hc137]
 refine WL_gy rfl rfl (Y_move (.int .i64 y108) rfl) ?_
 obtain ⟨u138, hx139, hz⟩ := bind_ok hz
 obtain ⟨hx139a, hx139b⟩ := inR_some hx139
 refine WL_gy rfl rfl (Y_ixA ia61 hT103_7 rfl hx139a hx139b) ?_
 obtain ⟨x140, hx141, hz⟩ := bind_ok hz
 refine WL_gy rfl rfl (Y_ld1 (.bool x140) ts4 rfl (hS.bvB 1 rfl) (vp (k := 1) rfl rfl (rep_root (k := 32) rfl hb27) hx141)) <|WL_gy rfl rfl (Y_not rfl) <|WL_d 2 rfl ?_
 rcases ic hz with ⟨hc142, hz⟩ | ⟨hc142, hz⟩ <;> rw [hc142]
 refine WL_gy rfl rfl (Y_move (.pointer (some ⟨b17, 0, none⟩)) hT103_5) <|WL_gy rfl rfl (Y_move (.int .i64 y108) rfl) <|WL_gy rfl rfl (Y_nil rfl) <|WL_gy rfl rfl (Y_fa fa117_5 rfl) ?_
 obtain ⟨u143, hx144, hz⟩ := bind_ok hz
 obtain ⟨hx144a, hx144b⟩ := inR_some hx144
 refine WL_gy rfl rfl (Y_ixA ia66 rfl rfl hx144a hx144b) ?_
 obtain ⟨x145, hx146, hz⟩ := bind_ok hz
 refine WL_gy rfl rfl (Y_ld1 (.int .i64 x145) ts3 rfl (hS.bvB 2 rfl) (vp (k := 1) rfl rfl (GSearch.p5 (rep_root (k := 194) rfl hb104)) hx146)) <|WL_gy rfl rfl (Y_move (.int .i64 y108) rfl) <|WL_gy rfl rfl (Y_eql rfl rfl) <|WL_d 2 rfl ?_
 rcases ic hz with ⟨hc147, hz⟩ | ⟨hc147, hz⟩ <;> rw [hc147]
 refine WL_gy rfl rfl (Y_move (.pointer (some ⟨b17, 0, none⟩)) hT103_5) <|WL_gy rfl rfl (Y_move (.int .i64 y108) rfl) ?_
 have ha148 := (rep_root (k := 32) rfl hb27)
 refine WL_gy rfl rfl (Y_ldn ta61 hT103_7 (hS.bvB 1 rfl) (Rep.len ha148)) ?_
 obtain ⟨r151, hr150, hz⟩ := bind_ok hz
 refine WL_g rfl rfl (O_lend (vs := [.pointer (some ⟨b17, 0, none⟩), .int .i64 y108, .agg (sl cs27 (0) 32).toArray]) (L := [.box b17 cs104 117]) (R := [.row v33 3 1, .box b22 cs27 61, .stk u1_19 3 1 x1_19, .box b4 cx1 64]) (rv := (fun M' u L' => u = .bool r151 ∧ L' = [.box b17 cs104 117])) cb87 (args3 rfl rfl rfl) hS (hS.sel [2, 0, 1, 3, 4] (by decide) rfl) (fun hS => free_ok hS hb104 ha148 hr150) ?_)
 rintro u150 M150 w149 L150 hx150 ⟨rfl, hL150⟩ hS
 replace hS := hS _ hL150
 replace hcx1 := Rep.mono hx150.1 hcx1
 replace f19_1 := skr.mono hx150.1 f19_1
 replace hb27 := Rep.mono hx150.1 hb27
 replace hv33 := repL.mono hx150.1 hv33
 replace hb104 := Rep.mono hx150.1 hb104
 replace ha148 := Rep.mono hx150.1 ha148
 replace hE := Mm.ext.trans hE hx150
 replace hF36 := Mm.ext.trans hF36 hx150
 replace hF100 := Mm.ext.trans hF100 hx150
 replace hF111 := Mm.ext.trans hF111 hx150
 replace hF122 := Mm.ext.trans hF122 hx150
 replace hF132 := Mm.ext.trans hF132 hx150
 replace hS : St w noX M150 [.box b17 cs104 117, .row v33 3 1, .box b22 cs27 61, .stk u1_19 3 1 x1_19, .box b4 cx1 64] w149 := hS
 refine WL_y (Y_pick_t (.bool r151) rfl rfl) ?_
 refine WL_nil (nm_then ?_)
 exact ⟨M150, cs104, d105, r151, hF132, (hS.sel (H' := [.row v33 3 1, .box b22 cs27 61, .box b17 cs104 117, .stk u1_19 3 1 x1_19, .box b4 cx1 64]) [1, 2, 0, 3, 4] (by decide) rfl), hb104, hp106, hT103_5, hT103_6, hT103_7, hT103_8, rfl, hT103_21, rfl, hz⟩
 refine WL_d 5 rfl ?_
 refine WL_nil (nm_then ?_)
 exact ⟨M102, cs104, d105, false, hF132, hS, hb104, hp106, hT103_5, hT103_6, hT103_7, hT103_8, rfl, hT103_21, rfl, hz⟩
 refine WL_d 15 rfl ?_
 refine WL_nil (nm_then ?_)
 exact ⟨M102, cs104, d105, false, hF132, hS, hb104, hp106, hT103_5, hT103_6, hT103_7, hT103_8, rfl, hT103_21, rfl, hz⟩
 refine WL_d 21 rfl ?_
 refine WL_nil (nm_then ?_)
 exact ⟨M102, cs104, d105, false, hF132, hS, hb104, hp106, hT103_5, hT103_6, hT103_7, hT103_8, rfl, hT103_21, rfl, hz⟩
 rintro T125 w123 ⟨M124, cs126, d127, c129, hx130, hS, hb126, hp128, hT125_5, hT125_6, hT125_7, hT125_8, hT125_9, hT125_21, hT125_52, hz⟩
 replace hcx1 := Rep.mono hx130.1 hcx1
 replace f19_1 := skr.mono hx130.1 f19_1
 replace hb27 := Rep.mono hx130.1 hb27
 replace hv33 := repL.mono hx130.1 hv33
 replace hE := Mm.ext.trans hE hx130
 replace hF36 := Mm.ext.trans hF36 hx130
 replace hF100 := Mm.ext.trans hF100 hx130
 replace hF111 := Mm.ext.trans hF111 hx130
 replace hF122 := Mm.ext.trans hF122 hx130
 rw [gorder_j5] at hz
 refine W_cond hT125_52 (fun hc131 => ?_) (fun hc131 => ?_)
 replace hz := bif_ok_t hz hc131
 refine W_seq <|W_reg <|WL_y (Y_move (.int .i64 y108) hT125_9) <|WL_y (Y_assign (.int .i64 y108) rfl) ?_
 refine WL_nil (nm_then ?_)
 refine W_exit <|ex_blk rfl <|ex_then <|ex_then <|ex_hit ?_
 refine (nm_then ?_)
 exact ⟨M124, cs126, d127, y108, hF100, hS, hb126, hp128, hT125_5, hT125_6, hT125_7, rfl, hz⟩
 replace hz := bif_ok_f hz hc131
 refine W_skip (nm_blk ?_)
 refine (nm_then ?_)
 exact ⟨M124, cs126, d127, y107, hF122, hS, hb126, hp128, hT125_5, hT125_6, hT125_7, hT125_8, hT125_21, hz⟩
 rintro T116 w114 ⟨M115, cs117, d118, y120, hx121, hS, hb117, hp119, hT116_5, hT116_6, hT116_7, hT116_8, hT116_21, hz⟩
 replace hcx1 := Rep.mono hx121.1 hcx1
 replace f19_1 := skr.mono hx121.1 f19_1
 replace hb27 := Rep.mono hx121.1 hb27
 replace hv33 := repL.mono hx121.1 hv33
 replace hE := Mm.ext.trans hE hx121
 replace hF36 := Mm.ext.trans hF36 hx121
 replace hF100 := Mm.ext.trans hF100 hx121
 replace hF111 := Mm.ext.trans hF111 hx121
 rw [gorder_j4] at hz
 refine W_reg <|WL_y (Y_add hT116_21 rfl) <|WL_y (Y_move (.int .i64 (IntKind.wrap .i64 (y108 + 1))) rfl) ?_
 refine WL_nil (nm_then ?_)
 exact ⟨M115, cs117, d118, y120, (IntKind.wrap .i64 (y108 + 1)), hF111, hS, hb117, hp119, hT116_5, hT116_6, hT116_7, hT116_8, rfl, (by rw [← hrec109]; exact hz)⟩
 replace hz := bif_ok_f hz hc113
 refine W_exit <|ex_then <|ex_then <|ex_hit ?_
 refine (nm_then ?_)
 exact ⟨M102, cs104, d105, y107, hF100, hS, hb104, hp106, hT103_5, hT103_6, hT103_7, hT103_8, hz⟩
 rintro T40 w38 ⟨M39, cs41, d42, y44, hx45, hS, hb41, hp43, hT40_5, hT40_6, hT40_7, hT40_8, hz⟩
 replace hcx1 := Rep.mono hx45.1 hcx1
 replace f19_1 := skr.mono hx45.1 f19_1
 replace hb27 := Rep.mono hx45.1 hb27
 replace hv33 := repL.mono hx45.1 hv33
 replace hE := Mm.ext.trans hE hx45
 replace hF36 := Mm.ext.trans hF36 hx45
 rw [gorder_j1] at hz
 refine W_seq <|W_seq <|W_reg <|WL_y (Y_move (.int .i64 y44) hT40_8) <|WL_y (Y_lss rfl rfl) ?_
 refine WL_nil (nm_then ?_)
 refine W_cond rfl (fun hc46 => ?_) (fun hc46 => ?_)
 replace hz := bif_ok_t hz hc46
 refine W_seq <|W_reg <|WL_y (Y_move (v33) hT40_6) <|WL_y (Y_assign (v33) rfl) ?_
 refine WL_nil (nm_then ?_)
 cases hz
 exact W_ret (rt_then (rt_blk (rt_then (rt_blk (R_t1 rfl rfl (Gives.mk (St.dropB (St.drop (St.dropB (St.dropB (St.drop hS) hb22) hb17)) hb4) hE hv33))))))
 replace hz := bif_ok_f hz hc46
 refine W_skip (nm_then ?_)
 refine W_seq <|W_reg <|WL_y (Y_move (.int .i64 0) rfl) ?_
 refine WL_nil (nm_then ?_)
 refine W_block ?_
 refine W_loop (fun k56 T' w' => ∃ M48 cs50 d51 v53 l52 y54, Mm.ext w.heap.size noX M39 M48 ∧ St w noX M48 [.row v53 3 1, .box b22 cs50 61, .box b17 cs41 117, .stk u1_19 3 1 x1_19, .box b4 cx1 64] w' ∧ rep M48 cs50 d51 ∧ repL M48 v53 l52 ∧ T' 5 = .pointer (some ⟨b17, 0, none⟩) ∧ T' 6 = v53 ∧ T' 7 = .pointer (some ⟨b22, 0, none⟩) ∧ T' 8 = .int .i64 y44 ∧ T' 58 = .int .i64 y54 ∧ gorder_l2 rec34 d42 y44 k56 d51 l52 y54 = some r) fu ?_ ?_ ?_
 exact ⟨M39, cs27, d28, v33, l32, (0 : Int), (Mm.ext.refl _ _ _), hS, hb27, hv33, hT40_5, hT40_6, hT40_7, hT40_8, rfl, hz⟩
 rintro T' w' ⟨_, _, _, _, _, _, _, _, _, _, _, _, _, _, _, hz⟩
 rw [gorder_l2] at hz
 cases hz
 intro k56
 rintro T49 w47 ⟨M48, cs50, d51, v53, l52, y54, hx58, hS, hb50, hv53, hT49_5, hT49_6, hT49_7, hT49_8, hT49_58, hz⟩
 replace hcx1 := Rep.mono hx58.1 hcx1
 replace f19_1 := skr.mono hx58.1 f19_1
 replace hb41 := Rep.mono hx58.1 hb41
 replace hE := Mm.ext.trans hE hx58
 replace hF36 := Mm.ext.trans hF36 hx58
 have hF57 := hx58
 rw [gorder_l2] at hz
 obtain ⟨rec55, hrec55⟩ : ∃ f, f = gorder_l2 rec34 d42 y44 k56 := ⟨_, rfl⟩
 rw [← hrec55] at hz
 refine W_seq <|W_reg <|WL_y (Y_lss hT49_58 rfl) ?_
 refine WL_nil (nm_then ?_)
 refine W_seq ?_
 refine W_cond rfl (fun hc59 => ?_) (fun hc59 => ?_)
 replace hz := bif_ok_t hz hc59
 refine W_skip (nm_then ?_)
 refine W_seqJ (fun T' w' => ∃ M61 cs63 d64 v66 l65, Mm.ext w.heap.size noX M48 M61 ∧ St w noX M61 [.row v66 3 1, .box b22 cs63 61, .box b17 cs41 117, .stk u1_19 3 1 x1_19, .box b4 cx1 64] w' ∧ rep M61 cs63 d64 ∧ repL M61 v66 l65 ∧ T' 5 = .pointer (some ⟨b17, 0, none⟩) ∧ T' 6 = v66 ∧ T' 7 = .pointer (some ⟨b22, 0, none⟩) ∧ T' 8 = .int .i64 y44 ∧ T' 58 = .int .i64 y54 ∧ gorder_j2 y54 rec55 d64 l65 = some r) ?_ ?_
 have hF68 := Mm.ext.refl w.heap.size noX M48
 refine W_block <|W_seq <|W_reg <|WL_y (Y_move (.int .i64 y54) hT49_58) <|WL_y (Y_assign (.int .i64 y54) rfl) ?_
 refine WL_nil (nm_then ?_)
 refine W_seqJ (fun T' w' => ∃ M70 c72, Mm.ext w.heap.size noX M48 M70 ∧ St w noX M70 [.row v53 3 1, .box b22 cs50 61, .box b17 cs41 117, .stk u1_19 3 1 x1_19, .box b4 cx1 64] w' ∧ T' 5 = .pointer (some ⟨b17, 0, none⟩) ∧ T' 6 = v53 ∧ T' 7 = .pointer (some ⟨b22, 0, none⟩) ∧ T' 8 = .int .i64 y44 ∧ T' 10 = .int .i64 y54 ∧ T' 58 = .int .i64 y54 ∧ T' 77 = .bool c72 ∧ gorder_j3 d51 l52 y54 rec55 c72 = some r) ?_ ?_
 have hF90 := Mm.ext.refl w.heap.size noX M48
 refine W_reg <|WL_y (Y_move (.pointer (some ⟨b17, 0, none⟩)) hT49_5) <|WL_y (Y_move (.int .i64 y54) rfl) <|WL_y (Y_nil rfl) <|WL_y (Y_fa fa117_1 rfl) ?_
 obtain ⟨u91, hx92, hz⟩ := bind_ok hz
 obtain ⟨hx92a, hx92b⟩ := inR_some hx92
 refine WL_y (Y_ixA ia66 rfl rfl hx92a hx92b) ?_
 obtain ⟨x93, hx94, hz⟩ := bind_ok hz
 refine WL_y (Y_ld1 (.int .i64 x93) ts3 rfl (hS.bvB 2 rfl) (vp (k := 1) rfl rfl (GSearch.p1 (rep_root (k := 194) rfl hb41)) hx94)) <|WL_y (Y_gtr rfl rfl) <|WL_y (Y_move (.bool (decide (x93 > 0))) rfl) ?_
 rcases ic hz with ⟨hc95, hz⟩ | ⟨hc95, hz⟩ <;> rw [hc95]
 refine WL_gy rfl rfl (Y_move (.pointer (some ⟨b17, 0, none⟩)) hT49_5) <|WL_gy rfl rfl (Y_move (.int .i64 y54) rfl) <|WL_gy rfl rfl (Y_nil rfl) <|WL_gy rfl rfl (Y_fa fa117_5 rfl) ?_
 obtain ⟨u96, hx97, hz⟩ := bind_ok hz
 obtain ⟨hx97a, hx97b⟩ := inR_some hx97
 refine WL_gy rfl rfl (Y_ixA ia66 rfl rfl hx97a hx97b) ?_
 obtain ⟨x98, hx99, hz⟩ := bind_ok hz
 refine WL_gy rfl rfl (Y_ld1 (.int .i64 x98) ts3 rfl (hS.bvB 2 rfl) (vp (k := 1) rfl rfl (GSearch.p5 (rep_root (k := 194) rfl hb41)) hx99)) <|WL_gy rfl rfl (Y_move (.int .i64 y44) hT49_8) <|WL_gy rfl rfl (Y_eql rfl rfl) <|WL_y (Y_pick_t (.bool (x98 == y44)) rfl rfl) ?_
 refine WL_nil (nm_then ?_)
 exact ⟨M48, (x98 == y44), hF90, hS, hT49_5, hT49_6, hT49_7, hT49_8, rfl, hT49_58, rfl, hz⟩
 refine WL_d 9 rfl ?_
 refine WL_nil (nm_then ?_)
 exact ⟨M48, false, hF90, hS, hT49_5, hT49_6, hT49_7, hT49_8, rfl, hT49_58, rfl, hz⟩
 rintro T71 w69 ⟨M70, c72, hx73, hS, hT71_5, hT71_6, hT71_7, hT71_8, hT71_10, hT71_58, hT71_77, hz⟩
 replace hcx1 := Rep.mono hx73.1 hcx1
 replace f19_1 := skr.mono hx73.1 f19_1
 replace hb41 := Rep.mono hx73.1 hb41
 replace hb50 := Rep.mono hx73.1 hb50
 replace hv53 := repL.mono hx73.1 hv53
 replace hE := Mm.ext.trans hE hx73
 replace hF36 := Mm.ext.trans hF36 hx73
 replace hF57 := Mm.ext.trans hF57 hx73
 replace hF68 := Mm.ext.trans hF68 hx73
 rw [gorder_j3] at hz
 refine W_cond hT71_77 (fun hc74 => ?_) (fun hc74 => ?_)
 replace hz := bif_ok_t hz hc74
 refine W_seq <|W_reg <|WL_y (Y_move (.int .i64 y54) hT71_10) ?_
 obtain ⟨u75, hx76, hz⟩ := bind_ok hz
 obtain ⟨hx76a, hx76b⟩ := inR_some hx76
 refine WL_y (Y_ixA ia61 hT71_7 rfl hx76a hx76b) ?_
 obtain ⟨x79, hx80, hz⟩ := bind_ok hz
 have hw78 : ([.bool true] : List Value).length = 1 := Rep.len (show rep M70 [Value.bool true] (true : Bool) from rfl)
 have hl78 : (cs50).length = 32 := Rep.len hb50
 have hq81 := (idxV_some hx80)
 obtain ⟨a82, hx83, hz⟩ := bind_ok hz
 obtain ⟨d84, hd78, hz⟩ := bind_ok hz
 have hb78 : rep M70 (pt cs50 (0 + Int.toNat y54 * 1) [.bool true]) d84 := rep_eq (rep_whole (k := 32) (by rw [pt_length (by omega)]; exact hl78) (vs (k := 1) rfl rfl (rep_root (k := 32) rfl hb50) (rep_leaf rfl (show rep M70 [Value.bool true] (true : Bool) from rfl) (by omega)) hx83 (by omega) (by omega) (by omega))) hd78
 generalize hg78 : (pt cs50 (0 + Int.toNat y54 * 1) [.bool true]) = cs78 at hb78
 refine WL_c (O_st (j := 1) (v := .bool true) (ws := [.bool true]) hS rfl (by kernel_rfl) rfl rfl rfl hw78 (Rep.one (show rep M70 [Value.bool true] (true : Bool) from rfl)) (by omega) ?_)
 rw [hg78]
 clear hg78
 intro w77 hS
 replace hS : St w noX M70 [.row v53 3 1, .box b22 cs78 61, .box b17 cs41 117, .stk u1_19 3 1 x1_19, .box b4 cx1 64] w77 := hS
 refine WL_nil (nm_then ?_)
 refine W_reg <|WL_y (Y_move (v53) hT71_6) <|WL_y (Y_move (.int .i64 y54) hT71_10) ?_
 refine WL_c (O_bslice (α := Int) (l := ([y54] : List Int)) [.int .i64 y54] tl27 (bpc rfl bp0) rfl rfl (by decide) (by decide) (by decide) hS (brc (show rep M70 [Value.int .i64 y54] (y54 : Int) from rfl) br0) ?_)
 intro v86 M86 w85 hx86 hv86 hS
 replace hcx1 := Rep.mono hx86.1 hcx1
 replace f19_1 := skr.mono hx86.1 f19_1
 replace hb41 := Rep.mono hx86.1 hb41
 replace hv53 := repL.mono hx86.1 hv53
 replace hb78 := Rep.mono hx86.1 hb78
 replace hE := Mm.ext.trans hE hx86
 replace hF36 := Mm.ext.trans hF36 hx86
 replace hF57 := Mm.ext.trans hF57 hx86
 replace hF68 := Mm.ext.trans hF68 hx86
 obtain ⟨l89, hr88, hz⟩ := bind_ok hz
 obtain ⟨hy88, hs88⟩ := app_some hr88
 refine WL_c (O_app (α := Int) (j := 0) tp27 hS rfl rfl rfl hv53 hv86 hy88 ?_)
 intro v88 M88 w87 hx88 hv88 hS
 rw [← hs88] at hv88
 clear hr88 hs88
 replace hcx1 := Rep.mono hx88.1 hcx1
 replace f19_1 := skr.mono hx88.1 f19_1
 replace hb41 := Rep.mono hx88.1 hb41
 replace hv53 := repL.mono hx88.1 hv53
 replace hb78 := Rep.mono hx88.1 hb78
 replace hv86 := repL.mono hx88.1 hv86
 replace hE := Mm.ext.trans hE hx88
 replace hF36 := Mm.ext.trans hF36 hx88
 replace hF57 := Mm.ext.trans hF57 hx88
 replace hF68 := Mm.ext.trans hF68 hx88
 replace hS : St w noX M88 [.row v88 3 1, .box b22 cs78 61, .box b17 cs41 117, .stk u1_19 3 1 x1_19, .box b4 cx1 64] w87 := hS
 refine WL_y (Y_assign (v88) rfl) ?_
 refine WL_nil (nm_blk ?_)
 refine (nm_then ?_)
 exact ⟨M88, cs78, d84, v88, l89, hF68, hS, hb78, hv88, hT71_5, rfl, hT71_7, hT71_8, hT71_58, hz⟩
 replace hz := bif_ok_f hz hc74
 refine W_skip (nm_blk ?_)
 refine (nm_then ?_)
 exact ⟨M70, cs50, d51, v53, l52, hF68, hS, hb50, hv53, hT71_5, hT71_6, hT71_7, hT71_8, hT71_58, hz⟩
 rintro T62 w60 ⟨M61, cs63, d64, v66, l65, hx67, hS, hb63, hv66, hT62_5, hT62_6, hT62_7, hT62_8, hT62_58, hz⟩
 replace hcx1 := Rep.mono hx67.1 hcx1
 replace f19_1 := skr.mono hx67.1 f19_1
 replace hb41 := Rep.mono hx67.1 hb41
 replace hE := Mm.ext.trans hE hx67
 replace hF36 := Mm.ext.trans hF36 hx67
 replace hF57 := Mm.ext.trans hF57 hx67
 rw [gorder_j2] at hz
 refine W_reg <|WL_y (Y_add hT62_58 rfl) <|WL_y (Y_move (.int .i64 (IntKind.wrap .i64 (y54 + 1))) rfl) ?_
 refine WL_nil (nm_then ?_)
 exact ⟨M61, cs63, d64, v66, l65, (IntKind.wrap .i64 (y54 + 1)), hF57, hS, hb63, hv66, hT62_5, hT62_6, hT62_7, hT62_8, rfl, (by rw [← hrec55]; exact hz)⟩
 replace hz := bif_ok_f hz hc59
 refine W_exit <|ex_then <|ex_then <|ex_hit ?_
 refine (nm_blk ?_)
 refine (nm_then ?_)
 exact ⟨M48, cs50, d51, cs41, d42, v53, l52, hF36, hS, hb50, hb41, hp43, hv53, hT49_5, hT49_6, hT49_7, (by rw [← hrec34]; exact hz)⟩
end Go.Proofs.Ytopgdemmdcipcaa
namespace Go.Proofs.Ytopgdemmdcipcaa
open Go.RowKit
open Rep (rep)
section
variable {P : Program} {n : Nat} {Q : Exit → Tm → World → Prop} {T : Tm} {w : World}
theorem W_J {x : Code} (J : Tm → World → Prop) (h : W P n x (thenQ J Q) T w) (hJ : ∀ T w, J T w → Q .normal T w) : W P n x Q T w :=
  W_mono (fun e T w hq => by cases e <;> first | exact hJ _ _ hq | exact hq) h
end
section
variable {P : Program} {ops : Array Oper} {Q : Exit → Act → World → Prop} {md : Region.Mode} {S : World → Prop} {B C : Nat → Bool}
theorem wpAnyB_firstC {i : Nat} {oi : Oper} {v : Value} (hi : ops[i]? = some oi) (hsel : ∀ (j : Nat) (o : Oper) cs b, ops[j]? = some o → o.op ≠ .select cs b)
    (hQ : ∀ c a w, Q (.panic c) (a.put oi.dst v) w → Q (.panic c) a w) (hBi : C i = false) (hBC : ∀ j, B j = true → C j = true) (hC : ∀ j, C j = true → ∃ k, (k = i ∨ C k = true) ∧ waits md ops k j = true) :
    ∀ (fuel : Nat) (listed : Array Bool) (a : Act) (w : World),
      (∀ j oj, ops[j]? = some oj → j ≠ i → listed.getD j true = false → (∀ e ∈ oj.after, Region.binds md e = true → e.on ≠ i) → oi.apart ops oj = true) →
      i ∈ Region.ready md ops listed → YieldsIf P ops S oi v a → noB C listed → (noB B listed → S w) →
      wpAnyB P md ops Q S B fuel (listed.setIfInBounds i true) (a.put oi.dst v) w → wpAnyB P md ops Q S B (fuel + 1) listed a w := by
  have toB : ∀ L : Array Bool, noB C L → noB B L := fun L h b hb => h b (hBC b hb)
  have hBi' : B i = false := by
    cases h : B i with
    | false => rfl
    | true => rw [hBC i h] at hBi; cases hBi
  intro fuel
  induction fuel with
  | zero =>
    intro listed a w _ hr hy hN hSi H
    refine ⟨fun h => (by rw [h] at hr; cases hr), fun j hj => ?_⟩
    by_cases hji : j = i
    · subst hji; exact hy.wpOp hi (hSi (toB _ hN)) ⟨fun hn => hSi ((noB_set hBi').1 hn), H⟩
    · have := ready_mono hj hji
      rw [H.1] at this
      cases this
  | succ fuel ih =>
    intro listed a w hfree hr hy hN hSi H
    refine ⟨fun h => (by rw [h] at hr; cases hr), fun j hj => ?_⟩
    by_cases hji : j = i
    · subst hji; exact hy.wpOp hi (hSi (toB _ hN)) ⟨fun hn => hSi ((noB_set hBi').1 hn), H⟩
    · have h1 := H.2 j (ready_mono hj hji)
      obtain ⟨hjun, oj, hoj, hall⟩ := mem_ready.1 hj
      have hun : ∀ k, listed.getD k true = false → ∀ e ∈ oj.after, Region.binds md e = true → e.on ≠ k := fun k h0 e he hb heq => by
        have h1 := hall e he hb
        rw [heq] at h1
        rcases Nat.lt_or_ge k listed.size with h' | h'
        · simp [h'] at h0 h1; rw [h0] at h1; cases h1
        · simp [Array.getElem?_eq_none h'] at h1
      have hnot := hun i (mem_ready.1 hr).1
      have hCj : C j = false := by
        cases hb : C j with
        | false => rfl
        | true =>
          obtain ⟨k, hk, hw⟩ := hC j hb
          have hk0 : listed.getD k true = false := by
            rcases hk with rfl | hk
            · exact (mem_ready.1 hr).1
            · exact hN k hk
          simp only [waits, hoj, Option.map_some, Option.getD_some, Array.any_eq_true, Bool.and_eq_true, beq_iff_eq] at hw
          obtain ⟨q, hq, hbq, hon⟩ := hw
          exact absurd hon (hun k hk0 _ (Array.getElem_mem hq) hbq)
      have h2 := wpOp_putIf hoj (hfree j oj hoj hji hjun hnot) (fun cs b => hsel i oi cs b hi) (fun cs b => hsel j oj cs b hoj) hQ hy h1
      have hfree' : ∀ k ok, ops[k]? = some ok → k ≠ i → (listed.setIfInBounds j true).getD k true = false →
          (∀ e ∈ ok.after, Region.binds md e = true → e.on ≠ i) → oi.apart ops ok = true := fun k ok hk hki hun hno => by
        refine hfree k ok hk hki ?_ hno
        by_cases hjk : j = k
        · subst hjk; exact hjun
        · rw [getD_set_ne true hjk] at hun; exact hun
      have hcomm : (listed.setIfInBounds i true).setIfInBounds j true = (listed.setIfInBounds j true).setIfInBounds i true := Array.setIfInBounds_comm _ _ (Ne.symm hji)
      refine wpOp_mono (fun a' w' h3 => ?_) h2
      have hSj : noB B (listed.setIfInBounds j true) → S w' := fun hn => h3.2.1 (by rw [hcomm]; exact (noB_set hBi').2 hn)
      refine ⟨hSj, ih (listed.setIfInBounds j true) a' w' hfree' (ready_mono hr (Ne.symm hji)) h3.1 ((noB_set hCj).2 hN) hSj ?_⟩
      rw [← hcomm]
      exact h3.2.2
end
section
variable {P : Program} {n : Nat} {Q : Exit → Tm → World → Prop} {T : Tm} {w : World} {l : List Oper} {S : World → Prop} {B C : Nat → Bool}
theorem WB_ldC {i f d : Nat} {op : Op} {ty : TypeId} {pos : String} {af : Array Edge} {v : Value} {L : List Bool} (hi : l[i]? = some ⟨some d, op, ty, pos, af, none⟩)
    (hs : mayFirst l L i = true) (hBi : C i = false) (hCl : ∀ b, C b = true → b < L.length) (hBC : (List.range L.length).all (fun j => !B j || C j) = true ∧ (∀ b, B b = true → b < L.length))
    (hC : (List.range L.length).all (fun j => !C j || (List.range L.length).any fun k => (k == i || C k) && waits .any l.toArray k j) = true) (hN : noBb C L = true)
    (h : YV P S T ⟨some d, op, ty, pos, af, none⟩ v) (hS : S w) (k : WB P n l Q S B f (L.set i true) (upd T d v) w) : WB P n l Q S B (f + 1) L T w := by
  intro hok a ha
  simp only [mayFirst, Bool.and_eq_true] at hs
  have hi' : l.toArray[i]? = some ⟨some d, op, ty, pos, af, none⟩ := by simpa using hi
  refine wpAnyB_firstC (C := C) (v := v) hi' (Region.noSelect_spec hs.1.1) (fun c a w h => h) hBi (fun j hj => ?_) (fun j hj => ?_) f L.toArray a w (Region.free_spec hi' hs.1.2) (by simpa using hs.2) (.inl ⟨rfl, fun w' hw' => ?_⟩) (noB_of hCl hN) (fun _ => hS) ?_
  · have := List.all_eq_true.1 hBC.1 j (List.mem_range.2 (hBC.2 j hj))
    rw [hj] at this
    simpa using this
  · have := List.all_eq_true.1 hC j (List.mem_range.2 (hCl j hj))
    rw [hj] at this
    simp only [Bool.not_true, Bool.false_or, List.any_eq_true, Bool.and_eq_true, Bool.or_eq_true, beq_iff_eq] at this
    obtain ⟨k, _, hk, hw⟩ := this
    exact ⟨k, hk, hw⟩
  · rw [ha.eval]; exact h w' hw'
  · have := k hok _ (ha.put (some d) v (operOk.lt (okAt hi hok)))
    simpa using this
end
end Go.Proofs.Ytopgdemmdcipcaa
