/- What the proof of NodeReplays rests on, part 3: rules of walks, what functions compute, and plain laws of it. -/
import Derived.Test.YtopgdemmdcipcaaNodeReplaysB2
namespace Go.Proofs.Ytopgdemmdcipcaa
open Go.RowKit
open Rep (rep)
set_option linter.unusedVariables false
def reach_j2 (y68 : Int) (rec69 : (Vector Bool 32) → (List Int) → Int → Option (Vector Bool 32)) (d78 : Vector Bool 32) (l81 : List Int) : Option (Vector Bool 32) :=
 rec69 d78 l81 (IntKind.wrap .i64 (y68 + 1))
def reach_j3 (d63 : Vector Bool 32) (l66 : List Int) (y68 : Int) (rec69 : (Vector Bool 32) → (List Int) → Int → Option (Vector Bool 32)) (x86 : Int) (c90 : Bool) : Option (Vector Bool 32) :=
 (bif c90 then
 (inR x86 32).bind fun _ =>
 (idxV d63 x86).bind fun x97 =>
 (setV d63 x86 true).bind fun a99 =>
 (some a99).bind fun d101 =>
 (app l66 ([x86] : List Int)).bind fun l106 =>
 reach_j2 y68 rec69 d101 l106
 else
 reach_j2 y68 rec69 d63 l66)
def reach_l2 (rec36 : (Vector Bool 32) → (List Int) → Option (Vector Bool 32)) (x55 : List Int) : Nat → (Vector Bool 32) → (List Int) → Int → Option (Vector Bool 32)
 | 0, _, _, _ => none
 | n + 1, d63, l66, y68 =>
 (bif decide (y68 < (x55.length : Int)) then
 (idx x55 y68).bind fun x86 =>
 (bif decide (x86 ≥ 0) then
 (bif decide (x86 < 32) then
 (inR x86 32).bind fun _ =>
 (idxV d63 x86).bind fun x112 =>
 reach_j3 d63 l66 y68 (reach_l2 rec36 x55 n) x86 (!x112)
 else
 reach_j3 d63 l66 y68 (reach_l2 rec36 x55 n) x86 false)
 else
 reach_j3 d63 l66 y68 (reach_l2 rec36 x55 n) x86 false)
 else
 rec36 d63 l66)
def reach_l1 (fu : Nat) (x1 : GGraph) : Nat → (Vector Bool 32) → (List Int) → Option (Vector Bool 32)
 | 0, _, _ => none
 | n + 1, d31, l34 =>
 (bif decide ((l34.length : Int) > 0) then
 (idx l34 (IntKind.wrap .i64 ((l34.length : Int) - 1))).bind fun x44 =>
 (cutL l34 none (some (IntKind.wrap .i64 ((l34.length : Int) - 1)))).bind fun l47 =>
 (inR x44 32).bind fun _ =>
 (idxV x1.known x44).bind fun x50 =>
 (bif !x50 then
 (reach_l1 fu x1 n) d31 l47
 else
 (inR x44 32).bind fun _ =>
 (idxV x1.deps x44).bind fun x55 =>
 reach_l2 (reach_l1 fu x1 n) x55 fu d31 l47 0)
 else
 (some d31).bind fun d117 =>
 some d117)
def reach_j1 (fu : Nat) (x1 : GGraph) (x2 : Int) (d13 : Vector Bool 32) : Option (Vector Bool 32) :=
 (inR x2 32).bind fun _ =>
 (idxV (Zr.zd : Vector Bool 32) x2).bind fun x19 =>
 (setV (Zr.zd : Vector Bool 32) x2 true).bind fun a21 =>
 (some a21).bind fun d23 =>
 reach_l1 fu x1 fu d23 ([x2] : List Int)
def reach_j4 (fu : Nat) (x1 : GGraph) (x2 : Int) (c122 : Bool) : Option (Vector Bool 32) :=
 (bif c122 then
 (some (Zr.zd : Vector Bool 32)).bind fun d128 =>
 some d128
 else
 reach_j1 fu x1 x2 (Zr.zd : Vector Bool 32))
def reachD (fu : Nat) (x1 : GGraph) (x2 : Int) : Option (Vector Bool 32) :=
 (bif decide (x2 < 0) then
 reach_j4 fu x1 x2 true
 else
 reach_j4 fu x1 x2 (decide (x2 ≥ 32)))
set_option maxRecDepth 100000 in
set_option maxHeartbeats 4000000 in
theorem reach_ok {M : Mm} {w : World} {cx1 : List Value} {x1 : GGraph} {x2 : Int} {fu : Nat} {r : (Vector Bool 32)} (hA : Agree M w) (hcx1 : rep M cx1 x1) (hz : reachD fu x1 x2 = some r) :
    Calls Try.prog 32 #[.agg cx1.toArray, .int .i64 x2] w (Gives M w (fun M' u => ∃ cs, u = .agg cs.toArray ∧ rep M' cs r)) := by
 refine calls_W Try.func32 rfl 69 rfl rfl (by kernel_rfl) fun T hT => ?_
 have hT_0 : T 0 = .agg cx1.toArray := hT 0
 have hT_1 : T 1 = .int .i64 x2 := hT 1
 clear hT
 have hE := Mm.ext.refl w.heap.size noX M
 have hS : St w noX M [] w := St.start hA
 rw [reachD] at hz
 refine W_seq <|W_reg ?_
 refine WL_c (O_box (v := .agg cx1.toArray) (cs := cx1) hT_0 rfl hS ?_)
 intro b4 w3 hb4 hS
 refine WL_c (O_alloc tz61 hS ?_)
 intro b6 w5 hb6 hS
 have zb6 : rep M (Zr.zc (Vector Bool 32)) (Zr.zd : Vector Bool 32) := Zr.zr
 refine WL_nil (nm_then ?_)
 refine W_seq <|W_reg ?_
 refine WL_c (O_alloc tz61 hS ?_)
 intro b8 w7 hb8 hS
 have zb8 : rep M (Zr.zc (Vector Bool 32)) (Zr.zd : Vector Bool 32) := Zr.zr
 refine WL_nil (nm_then ?_)
 refine W_seqJ (fun T' w' => ∃ M10 cs12 d13, Mm.ext w.heap.size noX M M10 ∧ St w noX M10 [.box b8 (Zr.zc (Vector Bool 32)) 61, .box b6 cs12 61, .box b4 cx1 64] w' ∧ rep M10 cs12 d13 ∧ T' 1 = .int .i64 x2 ∧ T' 2 = .pointer (some ⟨b4, 0, none⟩) ∧ T' 4 = .pointer (some ⟨b6, 0, none⟩) ∧ T' 5 = .pointer (some ⟨b8, 0, none⟩) ∧ reach_j1 fu x1 x2 d13 = some r) ?_ ?_
 have hF118 := Mm.ext.refl w.heap.size noX M
 refine W_seqJ (fun T' w' => ∃ M120 c122, Mm.ext w.heap.size noX M M120 ∧ St w noX M120 [.box b8 (Zr.zc (Vector Bool 32)) 61, .box b6 (Zr.zc (Vector Bool 32)) 61, .box b4 cx1 64] w' ∧ T' 1 = .int .i64 x2 ∧ T' 2 = .pointer (some ⟨b4, 0, none⟩) ∧ T' 4 = .pointer (some ⟨b6, 0, none⟩) ∧ T' 5 = .pointer (some ⟨b8, 0, none⟩) ∧ T' 15 = .bool c122 ∧ reach_j4 fu x1 x2 c122 = some r) ?_ ?_
 have hF129 := Mm.ext.refl w.heap.size noX M
 refine W_reg <|WL_y (Y_move (.int .i64 x2) hT_1) <|WL_y (Y_lss rfl rfl) <|WL_y (Y_move (.bool (decide (x2 < 0))) rfl) ?_
 rcases ic hz with ⟨hc130, hz⟩ | ⟨hc130, hz⟩ <;> rw [hc130]
 refine WL_d 3 rfl ?_
 refine WL_nil (nm_then ?_)
 exact ⟨M, true, hF129, hS, hT_1, rfl, rfl, rfl, rfl, hz⟩
 refine WL_gy rfl rfl (Y_move (.int .i64 x2) hT_1) <|WL_gy rfl rfl (Y_geq rfl rfl) <|WL_y (Y_pick_f (.bool (decide (x2 ≥ 32))) rfl rfl) ?_
 refine WL_nil (nm_then ?_)
 exact ⟨M, (decide (x2 ≥ 32)), hF129, hS, hT_1, rfl, rfl, rfl, rfl, hz⟩
 rintro T121 w119 ⟨M120, c122, hx123, hS, hT121_1, hT121_2, hT121_4, hT121_5, hT121_15, hz⟩
 replace hcx1 := Rep.mono hx123.1 hcx1
 replace zb6 := Rep.mono hx123.1 zb6
 replace zb8 := Rep.mono hx123.1 zb8
 replace hE := Mm.ext.trans hE hx123
 replace hF118 := Mm.ext.trans hF118 hx123
 rw [reach_j4] at hz
 refine W_cond hT121_15 (fun hc124 => ?_) (fun hc124 => ?_)
 replace hz := bif_ok_t hz hc124
 refine W_seq <|W_reg ?_
 have ha125 := (rr zb8)
 refine WL_y (Y_ldn ta61 hT121_5 (hS.bvB 0 rfl) (Rep.len ha125)) ?_
 obtain ⟨d128, hd127, hz⟩ := bind_ok hz
 refine WL_c (O_sx 1 32 hS rfl zb6 hT121_4 rfl ha125 rfl rfl (Lf (rr zb6) ha125) hd127 ?_)
 intro cs127 w126 hb127 ha127 hs127 hS
 refine WL_nil (nm_then ?_)
 cases hz
 exact W_ret (rt_then (R_c (j := 1) rfl hT121_4 (by rw [Rep.len hb127]; exact ta61) hS rfl (Gives.mk (St.dropB (St.dropB (St.dropB hS hb8) hb6) hb4) hE ⟨_, rfl, hb127⟩)))
 replace hz := bif_ok_f hz hc124
 refine W_skip (nm_then ?_)
 exact ⟨M120, (Zr.zc (Vector Bool 32)), (Zr.zd : Vector Bool 32), hF118, hS, zb6, hT121_1, hT121_2, hT121_4, hT121_5, hz⟩
 rintro T11 w9 ⟨M10, cs12, d13, hx14, hS, hb12, hT11_1, hT11_2, hT11_4, hT11_5, hz⟩
 replace hcx1 := Rep.mono hx14.1 hcx1
 replace zb8 := Rep.mono hx14.1 zb8
 replace hE := Mm.ext.trans hE hx14
 rw [reach_j1] at hz
 refine W_seq <|W_reg <|WL_y (Y_move (.int .i64 x2) hT11_1) ?_
 obtain ⟨u15, hx16, hz⟩ := bind_ok hz
 obtain ⟨hx16a, hx16b⟩ := inR_some hx16
 refine WL_y (Y_ixA ia61 hT11_5 rfl hx16a hx16b) ?_
 obtain ⟨x19, hx20, hz⟩ := bind_ok hz
 obtain ⟨a21, hx22, hz⟩ := bind_ok hz
 obtain ⟨d23, hd18, hz⟩ := bind_ok hz
 refine WL_c (O_sx 0 1 hS rfl zb8 rfl rfl (rb true : rep M10 _ _) rfl rfl (vu (k := 1) rfl rfl (rr zb8) (Lf (vp (k := 1) rfl rfl (rr zb8) hx20) (rb true : rep M10 _ _)) hx22) hd18 ?_)
 intro cs18 w17 hb18 ha18 hs18 hS
 refine WL_nil (nm_then ?_)
 refine W_seq <|W_reg <|WL_y (Y_move (.int .i64 x2) hT11_1) ?_
 refine WL_c (O_bsliceS (α := Int) (l := ([x2] : List Int)) [.int .i64 x2] tp27 (bpc rfl bp0) rfl rfl (by decide) (by decide) (by decide) hS (brc (ri x2 : rep M10 _ _) br0) ?_)
 intro v25 xs25 w24 hk25 hS
 refine WL_y (Y_assign (v25) rfl) ?_
 refine WL_nil (nm_then ?_)
 refine W_seq <|W_block ?_
 refine W_loop (fun k37 T' w' => ∃ M28 cs30 d31 v32 xs33 l34, Mm.ext w.heap.size noX M10 M28 ∧ St w noX M28 [.stk v32 3 1 xs33, .box b8 cs30 61, .box b6 cs12 61, .box b4 cx1 64] w' ∧ rep M28 cs30 d31 ∧ skr M28 v32 xs33 l34 ∧ T' 2 = .pointer (some ⟨b4, 0, none⟩) ∧ T' 4 = .pointer (some ⟨b6, 0, none⟩) ∧ T' 5 = .pointer (some ⟨b8, 0, none⟩) ∧ T' 6 = v32 ∧ reach_l1 fu x1 k37 d31 l34 = some r) fu ?_ ?_ ?_
 exact ⟨M10, cs18, d23, v25, xs25, ([x2] : List Int), (Mm.ext.refl _ _ _), hS, hb18, hk25, hT11_2, hT11_4, hT11_5, rfl, hz⟩
 rintro T' w' ⟨_, _, _, _, _, _, _, _, _, _, _, _, _, _, hz⟩
 rw [reach_l1] at hz
 cases hz
 intro k37
 rintro T29 w27 ⟨M28, cs30, d31, v32, xs33, l34, hx39, hS, hb30, hk35, hT29_2, hT29_4, hT29_5, hT29_6, hz⟩
 replace hcx1 := Rep.mono hx39.1 hcx1
 replace hb12 := Rep.mono hx39.1 hb12
 replace hE := Mm.ext.trans hE hx39
 have hF38 := hx39
 rw [reach_l1] at hz
 obtain ⟨rec36, hrec36⟩ : ∃ f, f = reach_l1 fu x1 k37 := ⟨_, rfl⟩
 rw [← hrec36] at hz
 refine W_seq <|W_seq <|W_reg <|WL_y (Y_move (v32) hT29_6) ?_
 obtain ⟨a40, c40, hv40, _⟩ := skr_shape hk35
 refine WL_y (Y_lenL Try.underlying27 (tr2 hv40 rfl)) <|WL_y (Y_gtr rfl rfl) ?_
 refine WL_nil (nm_then ?_)
 refine W_cond rfl (fun hc41 => ?_) (fun hc41 => ?_)
 replace hz := bif_ok_t hz hc41
 refine W_skip (nm_then ?_)
 refine W_block <|W_seq <|W_reg <|WL_y (Y_move (v32) hT29_6) <|WL_y (Y_move (v32) hT29_6) ?_
 obtain ⟨a42, c42, hv42, _⟩ := skr_shape hk35
 refine WL_y (Y_lenL Try.underlying27 (tr2 hv42 rfl)) <|WL_y (Y_sub rfl rfl) ?_
 obtain ⟨x44, hx43, hz⟩ := bind_ok hz
 obtain ⟨b43, o43, c43, hv43, hi43, hj43, hM43, hr43⟩ := skv_at (hS.skv (j := 0) rfl hk35) hx43
 replace hr43 : rep _ (sl xs33 (o43 + Int.toNat (IntKind.wrap .i64 ((l34.length : Int) - 1)) * 1) 1) x44 := hr43
 refine WL_y (Y_ixL il27 rfl hv43 rfl hi43 hj43) <|WL_y (Y_ld1 (.int .i64 x44) ts3 rfl (hS.bvK (j := 0) rfl hM43) hr43) <|WL_y (Y_assign (.int .i64 x44) rfl) ?_
 refine WL_nil (nm_then ?_)
 refine W_seq <|W_reg <|WL_y (Y_move (v32) hT29_6) <|WL_y (Y_move (v32) hT29_6) ?_
 obtain ⟨a45, c45, hv45, _⟩ := skr_shape hk35
 refine WL_y (Y_lenL Try.underlying27 (tr2 hv45 rfl)) <|WL_y (Y_sub rfl rfl) ?_
 obtain ⟨l47, hx46, hz⟩ := bind_ok hz
 obtain ⟨⟨pp46, qq46⟩, hc46, hx46⟩ := Option.map_eq_some_iff.1 hx46
 obtain ⟨a46, c46, hv46, hn46⟩ := skr_shape hk35
 refine WL_y (Y_cutL (l := none) (h := (some (IntKind.wrap .i64 ((l34.length : Int) - 1)))) il27 rfl hv46 evn (evs rfl) hc46 hn46) ?_
 obtain ⟨hk46, hS⟩ := hS.pop (j := 0) rfl hk35 hc46
 rw [show (List.drop pp46 (List.take qq46 l34)) = l47 from hx46] at hk46
 replace hk46 : skr M28 (cutV v32 1 pp46 qq46) (List.take (qq46 * 1) xs33) l47 := hk46
 refine WL_y (Y_assign ((cutV v32 1 pp46 qq46)) rfl) ?_
 refine WL_nil (nm_then ?_)
 refine W_seq <|W_seq <|W_reg <|WL_y (Y_move (.int .i64 x44) rfl) <|WL_y (Y_fa fa64_0 hT29_2) ?_
 obtain ⟨u48, hx49, hz⟩ := bind_ok hz
 obtain ⟨hx49a, hx49b⟩ := inR_some hx49
 refine WL_y (Y_ixA ia61 rfl rfl hx49a hx49b) ?_
 obtain ⟨x50, hx51, hz⟩ := bind_ok hz
 refine WL_y (Y_ld1 (.bool x50) ts4 rfl (hS.bvB 3 rfl) (vp (k := 1) rfl rfl (GGraph.p0 (rr hcx1)) hx51)) <|WL_y (Y_not rfl) ?_
 refine WL_nil (nm_then ?_)
 refine W_cond rfl (fun hc52 => ?_) (fun hc52 => ?_)
 replace hz := bif_ok_t hz hc52
 refine W_exit <|ex_then <|ex_hit ?_
 refine (nm_then ?_)
 exact ⟨M28, cs30, d31, (cutV v32 1 pp46 qq46), (List.take (qq46 * 1) xs33), l47, hF38, hS, hb30, hk46, hT29_2, hT29_4, hT29_5, rfl, (by rw [← hrec36]; exact hz)⟩
 replace hz := bif_ok_f hz hc52
 refine W_skip (nm_then ?_)
 refine W_seq <|W_reg <|WL_y (Y_move (.int .i64 x44) rfl) <|WL_y (Y_fa fa64_1 hT29_2) ?_
 obtain ⟨u53, hx54, hz⟩ := bind_ok hz
 obtain ⟨hx54a, hx54b⟩ := inR_some hx54
 refine WL_y (Y_ixA ia62 rfl rfl hx54a hx54b) ?_
 obtain ⟨x55, hx56, hz⟩ := bind_ok hz
 obtain ⟨v57, ev57, hv57⟩ := (vp (k := 1) rfl rfl (GGraph.p1 (rr hcx1)) hx56)
 refine WL_y (Y_ld1 v57 ts27 rfl (hS.bvB 3 rfl) ev57) ?_
 obtain ⟨a58, c58, hv58, _⟩ := repL_shape hv57
 refine WL_y (Y_lenL Try.underlying27 (tr2 hv58 rfl)) <|WL_y (Y_move (.int .i64 0) rfl) ?_
 refine WL_nil (nm_then ?_)
 refine W_block ?_
 refine W_loop (fun k70 T' w' => ∃ M60 cs62 d63 v64 xs65 l66 y68, Mm.ext w.heap.size noX M28 M60 ∧ St w noX M60 [.stk v64 3 1 xs65, .box b8 cs62 61, .box b6 cs12 61, .box b4 cx1 64] w' ∧ rep M60 cs62 d63 ∧ skr M60 v64 xs65 l66 ∧ T' 2 = .pointer (some ⟨b4, 0, none⟩) ∧ T' 4 = .pointer (some ⟨b6, 0, none⟩) ∧ T' 5 = .pointer (some ⟨b8, 0, none⟩) ∧ T' 6 = v64 ∧ T' 43 = v57 ∧ T' 44 = .int .i64 (x55.length : Int) ∧ T' 45 = .int .i64 y68 ∧ reach_l2 rec36 x55 k70 d63 l66 y68 = some r) fu ?_ ?_ ?_
 exact ⟨M28, cs30, d31, (cutV v32 1 pp46 qq46), (List.take (qq46 * 1) xs33), l47, (0 : Int), (Mm.ext.refl _ _ _), hS, hb30, hk46, hT29_2, hT29_4, hT29_5, rfl, rfl, rfl, rfl, hz⟩
 rintro T' w' ⟨_, _, _, _, _, _, _, _, _, _, _, _, _, _, _, _, _, _, hz⟩
 rw [reach_l2] at hz
 cases hz
 intro k70
 rintro T61 w59 ⟨M60, cs62, d63, v64, xs65, l66, y68, hx72, hS, hb62, hk67, hT61_2, hT61_4, hT61_5, hT61_6, hT61_43, hT61_44, hT61_45, hz⟩
 replace hcx1 := Rep.mono hx72.1 hcx1
 replace hb12 := Rep.mono hx72.1 hb12
 replace hv57 := repL.mono hx72.1 hv57
 replace hE := Mm.ext.trans hE hx72
 replace hF38 := Mm.ext.trans hF38 hx72
 have hF71 := hx72
 rw [reach_l2] at hz
 obtain ⟨rec69, hrec69⟩ : ∃ f, f = reach_l2 rec36 x55 k70 := ⟨_, rfl⟩
 rw [← hrec69] at hz
 refine W_seq <|W_reg <|WL_y (Y_lss hT61_45 hT61_44) ?_
 refine WL_nil (nm_then ?_)
 refine W_seq ?_
 refine W_cond rfl (fun hc73 => ?_) (fun hc73 => ?_)
 replace hz := bif_ok_t hz hc73
 refine W_skip (nm_then ?_)
 refine W_seqJ (fun T' w' => ∃ M75 cs77 d78 v79 xs80 l81, Mm.ext w.heap.size noX M60 M75 ∧ St w noX M75 [.stk v79 3 1 xs80, .box b8 cs77 61, .box b6 cs12 61, .box b4 cx1 64] w' ∧ rep M75 cs77 d78 ∧ skr M75 v79 xs80 l81 ∧ T' 2 = .pointer (some ⟨b4, 0, none⟩) ∧ T' 4 = .pointer (some ⟨b6, 0, none⟩) ∧ T' 5 = .pointer (some ⟨b8, 0, none⟩) ∧ T' 6 = v79 ∧ T' 43 = v57 ∧ T' 44 = .int .i64 (x55.length : Int) ∧ T' 45 = .int .i64 y68 ∧ reach_j2 y68 rec69 d78 l81 = some r) ?_ ?_
 have hF84 := Mm.ext.refl w.heap.size noX M60
 refine W_block <|W_seq <|W_reg ?_
 obtain ⟨x86, hx85, hz⟩ := bind_ok hz
 obtain ⟨b85, o85, c85, p85, hv85, hi85, hj85, hM85, hr85⟩ := repL_at hv57 hx85
 replace hr85 : rep _ (sl p85 (o85 + Int.toNat y68 * 1) 1) x86 := hr85
 refine WL_y (Y_ixL il27 hT61_43 hv85 hT61_45 hi85 hj85) <|WL_y (Y_ld1 (.int .i64 x86) ts3 rfl (hS.bvM hM85) hr85) <|WL_y (Y_assign (.int .i64 x86) rfl) ?_
 refine WL_nil (nm_then ?_)
 refine W_seqJ (fun T' w' => ∃ M88 c90, Mm.ext w.heap.size noX M60 M88 ∧ St w noX M88 [.stk v64 3 1 xs65, .box b8 cs62 61, .box b6 cs12 61, .box b4 cx1 64] w' ∧ T' 2 = .pointer (some ⟨b4, 0, none⟩) ∧ T' 4 = .pointer (some ⟨b6, 0, none⟩) ∧ T' 5 = .pointer (some ⟨b8, 0, none⟩) ∧ T' 6 = v64 ∧ T' 9 = .int .i64 x86 ∧ T' 43 = v57 ∧ T' 44 = .int .i64 (x55.length : Int) ∧ T' 45 = .int .i64 y68 ∧ T' 60 = .bool c90 ∧ reach_j3 d63 l66 y68 rec69 x86 c90 = some r) ?_ ?_
 have hF107 := Mm.ext.refl w.heap.size noX M60
 refine W_reg <|WL_y (Y_move (.int .i64 x86) rfl) <|WL_y (Y_geq rfl rfl) <|WL_y (Y_move (.bool (decide (x86 ≥ 0))) rfl) ?_
 rcases ic hz with ⟨hc108, hz⟩ | ⟨hc108, hz⟩ <;> rw [hc108]
 refine WL_gy rfl rfl (Y_move (.int .i64 x86) rfl) <|WL_gy rfl rfl (Y_lss rfl rfl) <|WL_d 2 rfl ?_
 rcases ic hz with ⟨hc109, hz⟩ | ⟨hc109, hz⟩ <;> rw [hc109]
 refine WL_gy rfl rfl (Y_move (.int .i64 x86) rfl) ?_
 obtain ⟨u110, hx111, hz⟩ := bind_ok hz
 obtain ⟨hx111a, hx111b⟩ := inR_some hx111
 refine WL_gy rfl rfl (Y_ixA ia61 hT61_5 rfl hx111a hx111b) ?_
 obtain ⟨x112, hx113, hz⟩ := bind_ok hz
 refine WL_gy rfl rfl (Y_ld1 (.bool x112) ts4 rfl (hS.bvB 1 rfl) (vp (k := 1) rfl rfl (rr hb62) hx113)) <|WL_gy rfl rfl (Y_not rfl) <|WL_y (Y_pick_t (.bool (!x112)) rfl rfl) ?_
 refine WL_nil (nm_then ?_)
 exact ⟨M60, (!x112), hF107, hS, hT61_2, hT61_4, hT61_5, hT61_6, rfl, hT61_43, hT61_44, hT61_45, rfl, hz⟩
 refine WL_d 5 rfl ?_
 refine WL_nil (nm_then ?_)
 exact ⟨M60, false, hF107, hS, hT61_2, hT61_4, hT61_5, hT61_6, rfl, hT61_43, hT61_44, hT61_45, rfl, hz⟩
 refine WL_d 9 rfl ?_
 refine WL_nil (nm_then ?_)
 exact ⟨M60, false, hF107, hS, hT61_2, hT61_4, hT61_5, hT61_6, rfl, hT61_43, hT61_44, hT61_45, rfl, hz⟩
 rintro T89 w87 ⟨M88, c90, hx91, hS, hT89_2, hT89_4, hT89_5, hT89_6, hT89_9, hT89_43, hT89_44, hT89_45, hT89_60, hz⟩
 replace hcx1 := Rep.mono hx91.1 hcx1
 replace hb12 := Rep.mono hx91.1 hb12
 replace hv57 := repL.mono hx91.1 hv57
 replace hb62 := Rep.mono hx91.1 hb62
 replace hk67 := skr.mono hx91.1 hk67
 replace hE := Mm.ext.trans hE hx91
 replace hF38 := Mm.ext.trans hF38 hx91
 replace hF71 := Mm.ext.trans hF71 hx91
 replace hF84 := Mm.ext.trans hF84 hx91
 rw [reach_j3] at hz
 refine W_cond hT89_60 (fun hc92 => ?_) (fun hc92 => ?_)
 replace hz := bif_ok_t hz hc92
 refine W_seq <|W_reg <|WL_y (Y_move (.int .i64 x86) hT89_9) ?_
 obtain ⟨u93, hx94, hz⟩ := bind_ok hz
 obtain ⟨hx94a, hx94b⟩ := inR_some hx94
 refine WL_y (Y_ixA ia61 hT89_5 rfl hx94a hx94b) ?_
 obtain ⟨x97, hx98, hz⟩ := bind_ok hz
 obtain ⟨a99, hx100, hz⟩ := bind_ok hz
 obtain ⟨d101, hd96, hz⟩ := bind_ok hz
 refine WL_c (O_sx 1 1 hS rfl hb62 rfl rfl (rb true : rep M88 _ _) rfl rfl (vu (k := 1) rfl rfl (rr hb62) (Lf (vp (k := 1) rfl rfl (rr hb62) hx98) (rb true : rep M88 _ _)) hx100) hd96 ?_)
 intro cs96 w95 hb96 ha96 hs96 hS
 refine WL_nil (nm_then ?_)
 refine W_reg <|WL_y (Y_move (v64) hT89_6) <|WL_y (Y_move (.int .i64 x86) hT89_9) ?_
 refine WL_c (O_bslice (α := Int) (l := ([x86] : List Int)) [.int .i64 x86] tl27 (bpc rfl bp0) rfl rfl (by decide) (by decide) (by decide) hS (brc (ri x86 : rep M88 _ _) br0) ?_)
 intro v103 M103 w102 hx103 hv103 hS
 replace hcx1 := Rep.mono hx103.1 hcx1
 replace hb12 := Rep.mono hx103.1 hb12
 replace hv57 := repL.mono hx103.1 hv57
 replace hk67 := skr.mono hx103.1 hk67
 replace hb96 := Rep.mono hx103.1 hb96
 replace hE := Mm.ext.trans hE hx103
 replace hF38 := Mm.ext.trans hF38 hx103
 replace hF71 := Mm.ext.trans hF71 hx103
 replace hF84 := Mm.ext.trans hF84 hx103
 obtain ⟨l106, hr105, hz⟩ := bind_ok hz
 obtain ⟨hy105, hs105⟩ := app_some hr105
 refine WL_c (O_appS (α := Int) (j := 0) tp27 hS rfl rfl rfl hk67 hv103 hy105 ?_)
 intro v105 xs105 w104 hk105 hS
 rw [← hs105] at hk105
 clear hr105 hs105
 refine WL_y (Y_assign (v105) rfl) ?_
 refine WL_nil (nm_blk ?_)
 refine (nm_then ?_)
 exact ⟨M103, cs96, d101, v105, xs105, l106, hF84, hS, hb96, hk105, hT89_2, hT89_4, hT89_5, rfl, hT89_43, hT89_44, hT89_45, hz⟩
 replace hz := bif_ok_f hz hc92
 refine W_skip (nm_blk ?_)
 refine (nm_then ?_)
 exact ⟨M88, cs62, d63, v64, xs65, l66, hF84, hS, hb62, hk67, hT89_2, hT89_4, hT89_5, hT89_6, hT89_43, hT89_44, hT89_45, hz⟩
 rintro T76 w74 ⟨M75, cs77, d78, v79, xs80, l81, hx83, hS, hb77, hk82, hT76_2, hT76_4, hT76_5, hT76_6, hT76_43, hT76_44, hT76_45, hz⟩
 replace hcx1 := Rep.mono hx83.1 hcx1
 replace hb12 := Rep.mono hx83.1 hb12
 replace hv57 := repL.mono hx83.1 hv57
 replace hE := Mm.ext.trans hE hx83
 replace hF38 := Mm.ext.trans hF38 hx83
 replace hF71 := Mm.ext.trans hF71 hx83
 rw [reach_j2] at hz
 refine W_reg <|WL_y (Y_add hT76_45 rfl) <|WL_y (Y_move (.int .i64 (IntKind.wrap .i64 (y68 + 1))) rfl) ?_
 refine WL_nil (nm_then ?_)
 exact ⟨M75, cs77, d78, v79, xs80, l81, (IntKind.wrap .i64 (y68 + 1)), hF71, hS, hb77, hk82, hT76_2, hT76_4, hT76_5, hT76_6, hT76_43, hT76_44, rfl, (by rw [← hrec69]; exact hz)⟩
 replace hz := bif_ok_f hz hc73
 refine W_exit <|ex_then <|ex_then <|ex_hit ?_
 refine (nm_blk ?_)
 refine (nm_then ?_)
 exact ⟨M60, cs62, d63, v64, xs65, l66, hF38, hS, hb62, hk67, hT61_2, hT61_4, hT61_5, hT61_6, (by rw [← hrec36]; exact hz)⟩
 replace hz := bif_ok_f hz hc41
 refine W_exit <|ex_then <|ex_then <|ex_hit ?_
 refine (nm_then ?_)
 refine W_seq <|W_reg ?_
 have ha114 := (rr hb30)
 refine WL_y (Y_ldn ta61 hT29_5 (hS.bvB 1 rfl) (Rep.len ha114)) ?_
 obtain ⟨d117, hd116, hz⟩ := bind_ok hz
 refine WL_c (O_sx 2 32 hS rfl hb12 hT29_4 rfl ha114 rfl rfl (Lf (rr hb12) ha114) hd116 ?_)
 intro cs116 w115 hb116 ha116 hs116 hS
 refine WL_nil (nm_then ?_)
 cases hz
 exact W_ret (R_c (j := 2) rfl hT29_4 (by rw [Rep.len hb116]; exact ta61) hS rfl (Gives.mk (St.dropB (St.dropB (St.dropB (St.drop hS) hb8) hb6) hb4) hE ⟨_, rfl, hb116⟩))
def ready_j2 (y16 : Int) (rec17 : Int → Option Bool) : Option Bool :=
 rec17 (IntKind.wrap .i64 (y16 + 1))
def ready_j3 (y16 : Int) (rec17 : Int → Option Bool) (c32 : Bool) : Option Bool :=
 (bif c32 then
 some false
 else
 ready_j2 y16 rec17)
def ready_l1 (x1 : GGraph) (r12 : (Vector Bool 32)) : Nat → Int → Option Bool
 | 0, _ => none
 | n + 1, y16 =>
 (bif decide (y16 < 32) then
 (idxV r12 y16).bind fun x27 =>
 (bif x27 then
 (inR y16 32).bind fun _ =>
 (idxV x1.known y16).bind fun x39 =>
 ready_j3 y16 (ready_l1 x1 r12 n) (!x39)
 else
 ready_j3 y16 (ready_l1 x1 r12 n) false)
 else
 some true)
def ready_j1 (fu : Nat) (x1 : GGraph) (x2 : Int) : Option Bool :=
 (reachD fu x1 x2).bind fun r12 =>
 ready_l1 x1 r12 fu 0
def ready_j4 (fu : Nat) (x1 : GGraph) (x2 : Int) (c45 : Bool) : Option Bool :=
 (bif c45 then
 some false
 else
 ready_j1 fu x1 x2)
def readyD (fu : Nat) (x1 : GGraph) (x2 : Int) : Option Bool :=
 (bif decide (x2 < 0) then
 ready_j4 fu x1 x2 true
 else
 ready_j4 fu x1 x2 (decide (x2 ≥ 32)))
set_option maxRecDepth 100000 in
set_option maxHeartbeats 4000000 in
theorem ready_ok {M : Mm} {w : World} {cx1 : List Value} {x1 : GGraph} {x2 : Int} {fu : Nat} {r : Bool} (hA : Agree M w) (hcx1 : rep M cx1 x1) (hz : readyD fu x1 x2 = some r) :
    Calls Try.prog 85 #[.agg cx1.toArray, .int .i64 x2] w (GivesV w (.bool r)) := by
 refine calls_W Try.func85 rfl 29 rfl rfl (by kernel_rfl) fun T hT => ?_
 have hT_0 : T 0 = .agg cx1.toArray := hT 0
 have hT_1 : T 1 = .int .i64 x2 := hT 1
 clear hT
 have hE := Mm.ext.refl w.heap.size noX M
 have hS : St w noX M [] w := St.start hA
 rw [readyD] at hz
 refine W_seq <|W_reg ?_
 refine WL_c (O_box (v := .agg cx1.toArray) (cs := cx1) hT_0 rfl hS ?_)
 intro b4 w3 hb4 hS
 refine WL_y (Y_assign (.bool false) rfl) ?_
 refine WL_nil (nm_then ?_)
 refine W_seqJ (fun T' w' => ∃ M6, Mm.ext w.heap.size noX M M6 ∧ St w noX M6 [.box b4 cx1 64] w' ∧ T' 1 = .int .i64 x2 ∧ T' 2 = .pointer (some ⟨b4, 0, none⟩) ∧ ready_j1 fu x1 x2 = some r) ?_ ?_
 have hF41 := Mm.ext.refl w.heap.size noX M
 refine W_seqJ (fun T' w' => ∃ M43 c45, Mm.ext w.heap.size noX M M43 ∧ St w noX M43 [.box b4 cx1 64] w' ∧ T' 1 = .int .i64 x2 ∧ T' 2 = .pointer (some ⟨b4, 0, none⟩) ∧ T' 12 = .bool c45 ∧ ready_j4 fu x1 x2 c45 = some r) ?_ ?_
 have hF48 := Mm.ext.refl w.heap.size noX M
 refine W_reg <|WL_y (Y_move (.int .i64 x2) hT_1) <|WL_y (Y_lss rfl rfl) <|WL_y (Y_move (.bool (decide (x2 < 0))) rfl) ?_
 rcases ic hz with ⟨hc49, hz⟩ | ⟨hc49, hz⟩ <;> rw [hc49]
 refine WL_d 3 rfl ?_
 refine WL_nil (nm_then ?_)
 exact ⟨M, true, hF48, hS, hT_1, rfl, rfl, hz⟩
 refine WL_gy rfl rfl (Y_move (.int .i64 x2) hT_1) <|WL_gy rfl rfl (Y_geq rfl rfl) <|WL_y (Y_pick_f (.bool (decide (x2 ≥ 32))) rfl rfl) ?_
 refine WL_nil (nm_then ?_)
 exact ⟨M, (decide (x2 ≥ 32)), hF48, hS, hT_1, rfl, rfl, hz⟩
 rintro T44 w42 ⟨M43, c45, hx46, hS, hT44_1, hT44_2, hT44_12, hz⟩
 replace hcx1 := Rep.mono hx46.1 hcx1
 replace hE := Mm.ext.trans hE hx46
 replace hF41 := Mm.ext.trans hF41 hx46
 rw [ready_j4] at hz
 refine W_cond hT44_12 (fun hc47 => ?_) (fun hc47 => ?_)
 replace hz := bif_ok_t hz hc47
 refine W_seq <|W_reg <|WL_y (Y_assign (.bool false) rfl) ?_
 refine WL_nil (nm_then ?_)
 cases hz
 exact W_ret (rt_then (R_t1 rfl rfl ⟨rfl, (St.dropB hS hb4).kept⟩))
 replace hz := bif_ok_f hz hc47
 refine W_skip (nm_then ?_)
 exact ⟨M43, hF41, hS, hT44_1, hT44_2, hz⟩
 rintro T7 w5 ⟨M6, hx8, hS, hT7_1, hT7_2, hz⟩
 replace hcx1 := Rep.mono hx8.1 hcx1
 replace hE := Mm.ext.trans hE hx8
 rw [ready_j1] at hz
 refine W_seq <|W_seq <|W_reg ?_
 have ha9 := (rr hcx1)
 refine WL_y (Y_ldn ta64 hT7_2 (hS.bvB 0 rfl) (Rep.len ha9)) <|WL_y (Y_move (.int .i64 x2) hT7_1) ?_
 obtain ⟨r12, hr11, hz⟩ := bind_ok hz
 refine WL_c (O_mem (vs := [.agg (sl cx1 (0) 64).toArray, .int .i64 x2]) (rv := (fun M' u => ∃ cs, u = .agg cs.toArray ∧ rep M' cs r12)) cb32 (args2 rfl rfl) hS (reach_ok hS.agree ha9 hr11) ?_)
 intro u11 M11 w10 hx11 hu11 hS
 obtain ⟨c11, hq11, f11⟩ := hu11
 subst hq11
 replace hcx1 := Rep.mono hx11.1 hcx1
 replace ha9 := Rep.mono hx11.1 ha9
 replace hE := Mm.ext.trans hE hx11
 refine WL_y (Y_move (.int .i64 0) rfl) ?_
 refine WL_nil (nm_then ?_)
 refine W_block ?_
 refine W_loop (fun k18 T' w' => ∃ M14 y16, Mm.ext w.heap.size noX M11 M14 ∧ St w noX M14 [.box b4 cx1 64] w' ∧ T' 2 = .pointer (some ⟨b4, 0, none⟩) ∧ T' 15 = .agg c11.toArray ∧ T' 16 = .int .i64 y16 ∧ ready_l1 x1 r12 k18 y16 = some r) fu ?_ ?_ ?_
 exact ⟨M11, (0 : Int), (Mm.ext.refl _ _ _), hS, hT7_2, rfl, rfl, hz⟩
 rintro T' w' ⟨_, _, _, _, _, _, _, hz⟩
 rw [ready_l1] at hz
 cases hz
 intro k18
 rintro T15 w13 ⟨M14, y16, hx20, hS, hT15_2, hT15_15, hT15_16, hz⟩
 replace hcx1 := Rep.mono hx20.1 hcx1
 replace f11 := Rep.mono hx20.1 f11
 replace hE := Mm.ext.trans hE hx20
 have hF19 := hx20
 rw [ready_l1] at hz
 obtain ⟨rec17, hrec17⟩ : ∃ f, f = ready_l1 x1 r12 k18 := ⟨_, rfl⟩
 rw [← hrec17] at hz
 refine W_seq <|W_reg <|WL_y (Y_lss hT15_16 rfl) ?_
 refine WL_nil (nm_then ?_)
 refine W_seq ?_
 refine W_cond rfl (fun hc21 => ?_) (fun hc21 => ?_)
 replace hz := bif_ok_t hz hc21
 refine W_skip (nm_then ?_)
 refine W_seqJ (fun T' w' => ∃ M23, Mm.ext w.heap.size noX M14 M23 ∧ St w noX M23 [.box b4 cx1 64] w' ∧ T' 2 = .pointer (some ⟨b4, 0, none⟩) ∧ T' 15 = .agg c11.toArray ∧ T' 16 = .int .i64 y16 ∧ ready_j2 y16 rec17 = some r) ?_ ?_
 have hF26 := Mm.ext.refl w.heap.size noX M14
 refine W_block <|W_seq <|W_reg <|WL_y (Y_move (.int .i64 y16) hT15_16) ?_
 obtain ⟨x27, hx28, hz⟩ := bind_ok hz
 obtain ⟨hx28a, hx28b, hx28⟩ := repV_at f11 hx28
 refine WL_y (Y_ixV1 (.bool x27) iv61 hT15_15 hT15_16 hx28a hx28b hx28) <|WL_d 2 rfl ?_
 refine WL_nil (nm_then ?_)
 refine W_seqJ (fun T' w' => ∃ M30 c32, Mm.ext w.heap.size noX M14 M30 ∧ St w noX M30 [.box b4 cx1 64] w' ∧ T' 2 = .pointer (some ⟨b4, 0, none⟩) ∧ T' 15 = .agg c11.toArray ∧ T' 16 = .int .i64 y16 ∧ T' 27 = .bool c32 ∧ ready_j3 y16 rec17 c32 = some r) ?_ ?_
 have hF35 := Mm.ext.refl w.heap.size noX M14
 refine W_reg <|WL_d 2 rfl ?_
 rcases ic hz with ⟨hc36, hz⟩ | ⟨hc36, hz⟩ <;> rw [hc36]
 refine WL_gy rfl rfl (Y_move (.int .i64 y16) rfl) <|WL_gy rfl rfl (Y_fa fa64_0 hT15_2) ?_
 obtain ⟨u37, hx38, hz⟩ := bind_ok hz
 obtain ⟨hx38a, hx38b⟩ := inR_some hx38
 refine WL_gy rfl rfl (Y_ixA ia61 rfl rfl hx38a hx38b) ?_
 obtain ⟨x39, hx40, hz⟩ := bind_ok hz
 refine WL_gy rfl rfl (Y_ld1 (.bool x39) ts4 rfl (hS.bvB 0 rfl) (vp (k := 1) rfl rfl (GGraph.p0 (rr hcx1)) hx40)) <|WL_gy rfl rfl (Y_not rfl) <|WL_y (Y_pick_t (.bool (!x39)) rfl rfl) ?_
 refine WL_nil (nm_then ?_)
 exact ⟨M14, (!x39), hF35, hS, hT15_2, hT15_15, hT15_16, rfl, hz⟩
 refine WL_d 6 rfl ?_
 refine WL_nil (nm_then ?_)
 exact ⟨M14, false, hF35, hS, hT15_2, hT15_15, hT15_16, rfl, hz⟩
 rintro T31 w29 ⟨M30, c32, hx33, hS, hT31_2, hT31_15, hT31_16, hT31_27, hz⟩
 replace hcx1 := Rep.mono hx33.1 hcx1
 replace f11 := Rep.mono hx33.1 f11
 replace hE := Mm.ext.trans hE hx33
 replace hF19 := Mm.ext.trans hF19 hx33
 replace hF26 := Mm.ext.trans hF26 hx33
 rw [ready_j3] at hz
 refine W_cond hT31_27 (fun hc34 => ?_) (fun hc34 => ?_)
 replace hz := bif_ok_t hz hc34
 refine W_seq <|W_reg <|WL_y (Y_assign (.bool false) rfl) ?_
 refine WL_nil (nm_then ?_)
 cases hz
 exact W_ret (rt_blk (rt_then (rt_then (rt_blk (rt_then (R_t1 rfl rfl ⟨rfl, (St.dropB hS hb4).kept⟩))))))
 replace hz := bif_ok_f hz hc34
 refine W_skip (nm_blk ?_)
 refine (nm_then ?_)
 exact ⟨M30, hF26, hS, hT31_2, hT31_15, hT31_16, hz⟩
 rintro T24 w22 ⟨M23, hx25, hS, hT24_2, hT24_15, hT24_16, hz⟩
 replace hcx1 := Rep.mono hx25.1 hcx1
 replace f11 := Rep.mono hx25.1 f11
 replace hE := Mm.ext.trans hE hx25
 replace hF19 := Mm.ext.trans hF19 hx25
 rw [ready_j2] at hz
 refine W_reg <|WL_y (Y_add hT24_16 rfl) <|WL_y (Y_move (.int .i64 (IntKind.wrap .i64 (y16 + 1))) rfl) ?_
 refine WL_nil (nm_then ?_)
 exact ⟨M23, (IntKind.wrap .i64 (y16 + 1)), hF19, hS, hT24_2, hT24_15, rfl, (by rw [← hrec17]; exact hz)⟩
 replace hz := bif_ok_f hz hc21
 refine W_exit <|ex_then <|ex_then <|ex_hit ?_
 refine (nm_then ?_)
 refine W_seq <|W_reg <|WL_y (Y_assign (.bool true) rfl) ?_
 refine WL_nil (nm_then ?_)
 cases hz
 exact W_ret (R_t1 rfl rfl ⟨rfl, (St.dropB hS hb4).kept⟩)
def visit_j1 (y75 : Int) (rec76 : GSearch → (List Int) → Int → Option (GSearch × (List Int))) (d85 : GSearch) (l88 : List Int) : Option (GSearch × (List Int)) :=
 rec76 d85 l88 (IntKind.wrap .i64 (y75 + 1))
def visit_j2 (x4 : Int) (rec0 : GSearch → (List Int) → Int → Option (GSearch × (List Int))) (d69 : GSearch) (l72 : List Int) (y75 : Int) (rec76 : GSearch → (List Int) → Int → Option (GSearch × (List Int))) (x94 : Int) (c98 : Bool) : Option (GSearch × (List Int)) :=
 (bif c98 then
 visit_j1 y75 rec76 d69 l72
 else
 (inR x94 32).bind fun _ =>
 (idxV d69.mark_ x94).bind fun x103 =>
 (bif x103 == 0 then
 (rec0 d69 l72 x94).bind fun r108 =>
 (inR x4 32).bind fun _ =>
 (idxV r108.1.low x4).bind fun x114 =>
 (inR x94 32).bind fun _ =>
 (idxV r108.1.low x94).bind fun x118 =>
 (inR x4 32).bind fun _ =>
 (idxV r108.1.low x4).bind fun x124 =>
 (setV r108.1.low x4 (min x114 x118)).bind fun a126 =>
 (some ({ r108.1 with low := a126 } : GSearch)).bind fun d128 =>
 visit_j1 y75 rec76 d128 r108.2
 else
 (inR x94 32).bind fun _ =>
 (idxV d69.on_ x94).bind fun x133 =>
 (bif x133 then
 (inR x4 32).bind fun _ =>
 (idxV d69.low x4).bind fun x141 =>
 (inR x94 32).bind fun _ =>
 (idxV d69.mark_ x94).bind fun x145 =>
 (inR x4 32).bind fun _ =>
 (idxV d69.low x4).bind fun x151 =>
 (setV d69.low x4 (min x141 x145)).bind fun a153 =>
 (some ({ d69 with low := a153 } : GSearch)).bind fun d155 =>
 visit_j1 y75 rec76 d155 l72
 else
 visit_j1 y75 rec76 d69 l72)))
def visit_l4 (l72 : List Int) (y174 : Int) (y188 : Int) (l198 : List Int) : Nat → GSearch → Int → Option (GSearch × (List Int))
 | 0, _, _ => none
 | n + 1, d204, y206 =>
 (bif decide (y206 < (l198.length : Int)) then
 (idx l198 y206).bind fun x213 =>
 (inR x213 32).bind fun _ =>
 (idxV d204.ring x213).bind fun x221 =>
 (setV d204.ring x213 y188).bind fun a223 =>
 (some ({ d204 with ring := a223 } : GSearch)).bind fun d225 =>
 (inR x213 32).bind fun _ =>
 (idxV d225.on_ x213).bind fun x233 =>
 (setV d225.on_ x213 false).bind fun a235 =>
 (some ({ d225 with on_ := a235 } : GSearch)).bind fun d237 =>
 (visit_l4 l72 y174 y188 l198 n) d237 (IntKind.wrap .i64 (y206 + 1))
 else
 (cutL l72 none (some y174)).bind fun l242 =>
 (some ({ d204 with stack := Hole.mk } : GSearch)).bind fun d245 =>
 some (d245, l242))
def visit_l3 (fu : Nat) (d69 : GSearch) (l72 : List Int) (y174 : Int) (l183 : List Int) : Nat → Int → Int → Option (GSearch × (List Int))
 | 0, _, _ => none
 | n + 1, y188, y189 =>
 (bif decide (y189 < (l183.length : Int)) then
 (idx l183 y189).bind fun x196 =>
 (visit_l3 fu d69 l72 y174 l183 n) (min y188 x196) (IntKind.wrap .i64 (y189 + 1))
 else
 (cutL l72 (some y174) none).bind fun l198 =>
 visit_l4 l72 y174 y188 l198 fu d69 0)
def visit_l2 (fu : Nat) (x4 : Int) (d69 : GSearch) (l72 : List Int) : Nat → Int → Option (GSearch × (List Int))
 | 0, _ => none
 | n + 1, y174 =>
 (idx l72 y174).bind fun x180 =>
 (bif x180 != x4 then
 (visit_l2 fu x4 d69 l72 n) (IntKind.wrap .i64 (y174 - 1))
 else
 (cutL l72 (some y174) none).bind fun l183 =>
 visit_l3 fu d69 l72 y174 l183 fu x4 0)
def visit_l1 (fu : Nat) (x4 : Int) (rec0 : GSearch → (List Int) → Int → Option (GSearch × (List Int))) (x61 : List Int) : Nat → GSearch → (List Int) → Int → Option (GSearch × (List Int))
 | 0, _, _, _ => none
 | n + 1, d69, l72, y75 =>
 (bif decide (y75 < (x61.length : Int)) then
 (idx x61 y75).bind fun x94 =>
 (bif decide (x94 < 0) then
 visit_j2 x4 rec0 d69 l72 y75 (visit_l1 fu x4 rec0 x61 n) x94 true
 else
 visit_j2 x4 rec0 d69 l72 y75 (visit_l1 fu x4 rec0 x61 n) x94 (decide (x94 ≥ 32)))
 else
 (inR x4 32).bind fun _ =>
 (idxV d69.low x4).bind fun x162 =>
 (inR x4 32).bind fun _ =>
 (idxV d69.mark_ x4).bind fun x166 =>
 (bif x162 != x166 then
 some (d69, l72)
 else
 visit_l2 fu x4 d69 l72 fu (IntKind.wrap .i64 ((l72.length : Int) - 1))))
def visit_r (fu : Nat) : Nat → GSearch → (List Int) → Int → Option (GSearch × (List Int))
 | 0, _, _, _ => none
 | n + 1, x1, l3, x4 =>
 (some ({ x1 with next := IntKind.wrap .i64 (x1.next + 1) } : GSearch)).bind fun d7 =>
 (inR x4 32).bind fun _ =>
 (idxV d7.mark_ x4).bind fun x16 =>
 (setV d7.mark_ x4 d7.next).bind fun a18 =>
 (some ({ d7 with mark_ := a18 } : GSearch)).bind fun d20 =>
 (inR x4 32).bind fun _ =>
 (idxV d20.low x4).bind fun x27 =>
 (setV d20.low x4 d7.next).bind fun a29 =>
 (some ({ d20 with low := a29 } : GSearch)).bind fun d31 =>
 (app l3 ([x4] : List Int)).bind fun l42 =>
 (some ({ d31 with stack := Hole.mk } : GSearch)).bind fun d46 =>
 (inR x4 32).bind fun _ =>
 (idxV d46.on_ x4).bind fun x52 =>
 (setV d46.on_ x4 true).bind fun a54 =>
 (some ({ d46 with on_ := a54 } : GSearch)).bind fun d56 =>
 (inR x4 32).bind fun _ =>
 (idxV d56.g.deps x4).bind fun x61 =>
 visit_l1 fu x4 (visit_r fu n) x61 fu d56 l42 0
def visitD (fu : Nat) (x1 : GSearch) (l3 : List Int) (x4 : Int) : Option (GSearch × (List Int)) :=
 visit_r fu fu x1 l3 x4
set_option maxRecDepth 100000 in
set_option maxHeartbeats 4000000 in
theorem visit_rok (fu : Nat) : ∀ (nn : Nat) {M : Mm} {w : World} {bx1 : Nat} {cx1 : List Value} {ux1_4 : Value} {xsx1_4 : List Value} {x1 : GSearch} {l3 : List Int} {x4 : Int} {r : GSearch × (List Int)} (hS : St w (lentX [.box bx1 cx1 117, .stk ux1_4 3 1 xsx1_4]) M [.box bx1 cx1 117, .stk ux1_4 3 1 xsx1_4] w) (hcx1 : rep M cx1 x1) (hkx1_4 : skr M ux1_4 xsx1_4 l3) (hpx1_4 : sl cx1 160 1 = [ux1_4]) (hz : visit_r fu nn x1 l3 x4 = some r),
    Calls Try.prog 86 #[.pointer (some ⟨bx1, 0, none⟩), .int .i64 x4] w (GivesL M w [.box bx1 cx1 117, .stk ux1_4 3 1 xsx1_4] (fun M' u L' => ∃ k0 u1 x1, u = .tuple #[] ∧ L' = [.box bx1 k0 117, .stk u1 3 1 x1] ∧ rep M' k0 r.1 ∧ skr M' u1 x1 r.2 ∧ sl k0 160 1 = [u1])) := by
 intro nn
 induction nn with
 | zero => intros; rename_i hz; rw [visit_r] at hz; cases hz
 | succ nn ih =>
  intro M w bx1 cx1 ux1_4 xsx1_4 x1 l3 x4 r hS hcx1 hkx1_4 hpx1_4 hz
  refine calls_W Try.func86 rfl 204 rfl rfl (by kernel_rfl) fun T hT => ?_
  have hT_0 : T 0 = .pointer (some ⟨bx1, 0, none⟩) := hT 0
  have hT_1 : T 1 = .int .i64 x4 := hT 1
  clear hT
  have hE := Mm.ext.refl w.heap.size (lentX [.box bx1 cx1 117, .stk ux1_4 3 1 xsx1_4]) M
  rw [visit_r] at hz
  obtain ⟨rec0, hrec0⟩ : ∃ f, f = visit_r fu nn := ⟨_, rfl⟩
  rw [← hrec0] at hz ih
  refine W_seq <|W_reg <|WL_y (Y_move (.pointer (some ⟨bx1, 0, none⟩)) hT_0) <|WL_y (Y_nil rfl) <|WL_y (Y_fa fa117_6 rfl) <|WL_y (Y_ld1 (.int .i64 x1.next) ts3 rfl (hS.bvB 0 rfl) (GSearch.p6 (rr hcx1))) <|WL_y (Y_add rfl rfl) <|WL_y (Y_nil rfl) <|WL_y (Y_fa fa117_6 rfl) ?_
  obtain ⟨d7, hd6, hz⟩ := bind_ok hz
  refine WL_c (O_sx 0 1 hS rfl hcx1 rfl rfl (ri (IntKind.wrap .i64 (x1.next + 1)) : rep M _ _) rfl rfl (GSearch.u6 (rr hcx1) (Lf (GSearch.p6 (rr hcx1)) (ri (IntKind.wrap .i64 (x1.next + 1)) : rep M _ _))) hd6 ?_)
  intro cs6 w5 hb6 ha6 hs6 hS
  have hp8 := (ha6 (by omega)).trans hpx1_4
  refine WL_nil (nm_then ?_)
  refine W_seq <|W_drawB (Rd M [.box bx1 cs6 117]) (inL [15, 19]) mixed hS fun w9 hS => ?_
  have hG10 := Mm.ext.refl w.heap.size (lentX [.box bx1 cx1 117, .stk ux1_4 3 1 xsx1_4]) M
  have hR11 : Rd M [.box bx1 cs6 117] w9 := Rd.of hS hG10 (by simp)
  refine WB_y (i := 0) rfl (by kernel_rfl) rfl (Y_move (.pointer (some ⟨bx1, 0, none⟩)) hT_0) (fun _ => hR11) <|WB_y (i := 1) rfl (by kernel_rfl) rfl (Y_move (.int .i64 x4) hT_1) (fun _ => hR11) <|WB_y (i := 2) rfl (by kernel_rfl) rfl (Y_move (.pointer (some ⟨bx1, 0, none⟩)) hT_0) (fun _ => hR11) <|WB_y (i := 3) rfl (by kernel_rfl) rfl (Y_move (.int .i64 x4) hT_1) (fun _ => hR11) <|WB_y (i := 4) rfl (by kernel_rfl) rfl (Y_move (.pointer (some ⟨bx1, 0, none⟩)) hT_0) (fun _ => hR11) <|WB_y (i := 5) rfl (by kernel_rfl) rfl (Y_nil rfl) (fun _ => hR11) <|WB_y (i := 6) rfl (by kernel_rfl) rfl (Y_fa fa117_6 rfl) (fun _ => hR11) <|WB_ld (i := 7) rfl (by kernel_rfl) rfl (inL_lt rfl) (by kernel_rfl) (by kernel_rfl) (Y_ld1 (.int .i64 d7.next) ts3 rfl (bvR 0 rfl) (GSearch.p6 (rr hb6))) hR11 <|WB_y (i := 8) rfl (by kernel_rfl) rfl (Y_move (.pointer (some ⟨bx1, 0, none⟩)) hT_0) (fun _ => hR11) <|WB_y (i := 9) rfl (by kernel_rfl) rfl (Y_nil rfl) (fun _ => hR11) <|WB_y (i := 10) rfl (by kernel_rfl) rfl (Y_fa fa117_6 rfl) (fun _ => hR11) <|WB_ld (i := 11) rfl (by kernel_rfl) rfl (inL_lt rfl) (by kernel_rfl) (by kernel_rfl) (Y_ld1 (.int .i64 d7.next) ts3 rfl (bvR 0 rfl) (GSearch.p6 (rr hb6))) hR11 <|WB_y (i := 12) rfl (by kernel_rfl) rfl (Y_nil rfl) (fun _ => hR11) <|WB_y (i := 13) rfl (by kernel_rfl) rfl (Y_fa fa117_1 rfl) (fun _ => hR11) ?_
  obtain ⟨u12, hx13, hz⟩ := bind_ok hz
  obtain ⟨hx13a, hx13b⟩ := inR_some hx13
  refine WB_y (i := 14) rfl (by kernel_rfl) rfl (Y_ixA ia66 rfl rfl hx13a hx13b) (fun _ => hR11) <|WB_y (i := 16) rfl (by kernel_rfl) rfl (Y_nil rfl) (fun _ => hR11) <|WB_y (i := 17) rfl (by kernel_rfl) rfl (Y_fa fa117_2 rfl) (fun _ => hR11) ?_
  obtain ⟨x16, hx17, hz⟩ := bind_ok hz
  obtain ⟨a18, hx19, hz⟩ := bind_ok hz
  obtain ⟨d20, hd15, hz⟩ := bind_ok hz
  have hq22 := (idxV_some hx17)
  refine WB_one (i := 15) (by kernel_rfl) rfl (O_sx 0 1 hS rfl hb6 rfl rfl (ri d7.next : rep M _ _) rfl rfl (GSearch.u1 (rr hb6) (vu (k := 1) rfl rfl (GSearch.p1 (rr hb6)) (Lf (vp (k := 1) rfl rfl (GSearch.p1 (rr hb6)) hx17) (ri d7.next : rep M _ _)) hx19)) hd15 ?_)
  intro cs15 w14 hb15 ha15 hs15 hS
  have hp21 := (ha15 (by omega)).trans hp8
  refine ⟨fun h => Bool.noConfusion (show false = true from h), ?_⟩
  obtain ⟨u23, hx24, hz⟩ := bind_ok hz
  obtain ⟨hx24a, hx24b⟩ := inR_some hx24
  refine WB_y (i := 18) rfl (by kernel_rfl) rfl (Y_ixA ia66 rfl rfl hx24a hx24b) (fun h => Bool.noConfusion (show false = true from h)) ?_
  obtain ⟨x27, hx28, hz⟩ := bind_ok hz
  obtain ⟨a29, hx30, hz⟩ := bind_ok hz
  obtain ⟨d31, hd26, hz⟩ := bind_ok hz
  have hq33 := (idxV_some hx28)
  refine WB_one (i := 19) (by kernel_rfl) rfl (O_sx 0 1 hS rfl hb15 rfl rfl (ri d7.next : rep M _ _) rfl rfl (GSearch.u2 (rr hb15) (vu (k := 1) rfl rfl (GSearch.p2 (rr hb15)) (Lf (vp (k := 1) rfl rfl (GSearch.p2 (rr hb15)) hx28) (ri d7.next : rep M _ _)) hx30)) hd26 ?_)
  intro cs26 w25 hb26 ha26 hs26 hS
  have hp32 := (ha26 (by omega)).trans hp21
  refine ⟨fun h => Bool.noConfusion (show false = true from h), ?_⟩
  refine WB_done (by kernel_rfl) (nm_then ?_)
  refine W_seq <|W_drawB (Rd M [.box bx1 cs26 117]) (inL [12, 16]) mixed hS fun w34 hS => ?_
  have hG35 := Mm.ext.refl w.heap.size (lentX [.box bx1 cx1 117, .stk ux1_4 3 1 xsx1_4]) M
  have hR36 : Rd M [.box bx1 cs26 117] w34 := Rd.of hS hG35 (by simp)
  refine WB_y (i := 0) rfl (by kernel_rfl) rfl (Y_move (.pointer (some ⟨bx1, 0, none⟩)) hT_0) (fun _ => hR36) <|WB_y (i := 1) rfl (by kernel_rfl) rfl (Y_move (.pointer (some ⟨bx1, 0, none⟩)) hT_0) (fun _ => hR36) <|WB_y (i := 2) rfl (by kernel_rfl) rfl (Y_move (.int .i64 x4) hT_1) (fun _ => hR36) <|WB_y (i := 3) rfl (by kernel_rfl) rfl (Y_move (.pointer (some ⟨bx1, 0, none⟩)) hT_0) (fun _ => hR36) <|WB_y (i := 4) rfl (by kernel_rfl) rfl (Y_nil rfl) (fun _ => hR36) <|WB_y (i := 5) rfl (by kernel_rfl) rfl (Y_fa fa117_4 rfl) (fun _ => hR36) <|WB_ld (i := 6) rfl (by kernel_rfl) rfl (inL_lt rfl) (by kernel_rfl) (by kernel_rfl) (Y_ld1 ux1_4 ts27 rfl (bvR 0 rfl) hp32) hR36 <|WB_y (i := 7) rfl (by kernel_rfl) rfl (Y_move (.int .i64 x4) hT_1) (fun _ => hR36) <|WB_y (i := 13) rfl (by kernel_rfl) rfl (Y_nil rfl) (fun _ => hR36) <|WB_y (i := 14) rfl (by kernel_rfl) rfl (Y_fa fa117_3 rfl) (fun _ => hR36) ?_
  refine WB_one (i := 8) (by kernel_rfl) rfl (O_bslice (α := Int) (l := ([x4] : List Int)) [.int .i64 x4] tl27 (bpc rfl bp0) rfl rfl (by decide) (by decide) (by decide) hS (brc (ri x4 : rep M _ _) br0) ?_)
  intro v38 M38 w37 hx38 hv38 hS
  replace hkx1_4 := skr.mono hx38.1 hkx1_4
  replace hb26 := Rep.mono hx38.1 hb26
  replace hE := Mm.ext.trans hE hx38
  replace hG35 := Mm.ext.trans hG35 hx38
  have hR39 : Rd M [.box bx1 cs26 117] w37 := Rd.of hS hG35 (by simp)
  refine ⟨fun _ => hR39, ?_⟩
  obtain ⟨l42, hr41, hz⟩ := bind_ok hz
  obtain ⟨hy41, hs41⟩ := app_some hr41
  refine WB_one (i := 9) (by kernel_rfl) rfl (O_appS (α := Int) (j := 1) tp27 hS rfl rfl rfl hkx1_4 hv38 hy41 ?_)
  intro v41 xs41 w40 hk41 hS
  rw [← hs41] at hk41
  clear hr41 hs41
  have hR43 : Rd M [.box bx1 cs26 117] w40 := Rd.of hS hG35 (by simp)
  refine ⟨fun _ => hR43, ?_⟩
  refine WB_y (i := 10) rfl (by kernel_rfl) rfl (Y_nil rfl) (fun _ => hR43) <|WB_y (i := 11) rfl (by kernel_rfl) rfl (Y_fa fa117_4 rfl) (fun _ => hR43) ?_
  obtain ⟨d46, hd45, hz⟩ := bind_ok hz
  refine WB_one (i := 12) (by kernel_rfl) rfl (O_sx 0 1 hS rfl hb26 rfl rfl (hole_rep hk41) (skr_cells hk41) rfl (GSearch.u4 (rr hb26) (Lf (GSearch.p4 (rr hb26)) (hole_rep hk41))) hd45 ?_)
  intro cs45 w44 hb45 ha45 hs45 hS
  have hp47 := hs45
  refine ⟨fun h => Bool.noConfusion (show false = true from h), ?_⟩
  obtain ⟨u48, hx49, hz⟩ := bind_ok hz
  obtain ⟨hx49a, hx49b⟩ := inR_some hx49
  refine WB_y (i := 15) rfl (by kernel_rfl) rfl (Y_ixA ia61 rfl rfl hx49a hx49b) (fun h => Bool.noConfusion (show false = true from h)) ?_
  obtain ⟨x52, hx53, hz⟩ := bind_ok hz
  obtain ⟨a54, hx55, hz⟩ := bind_ok hz
  obtain ⟨d56, hd51, hz⟩ := bind_ok hz
  have hq58 := (idxV_some hx53)
  refine WB_one (i := 16) (by kernel_rfl) rfl (O_sx 0 1 hS rfl hb45 rfl rfl (rb true : rep M38 _ _) rfl rfl (GSearch.u3 (rr hb45) (vu (k := 1) rfl rfl (GSearch.p3 (rr hb45)) (Lf (vp (k := 1) rfl rfl (GSearch.p3 (rr hb45)) hx53) (rb true : rep M38 _ _)) hx55)) hd51 ?_)
  intro cs51 w50 hb51 ha51 hs51 hS
  have hp57 := (ha51 (by omega)).trans hp47
  refine ⟨fun h => Bool.noConfusion (show false = true from h), ?_⟩
  refine WB_done (by kernel_rfl) (nm_then ?_)
  refine W_seq <|W_seq <|W_reg <|WL_y (Y_move (.pointer (some ⟨bx1, 0, none⟩)) hT_0) <|WL_y (Y_move (.int .i64 x4) hT_1) <|WL_y (Y_nil rfl) <|WL_y (Y_fa fa117_0 rfl) <|WL_y (Y_fa fa64_1 rfl) ?_
  obtain ⟨u59, hx60, hz⟩ := bind_ok hz
  obtain ⟨hx60a, hx60b⟩ := inR_some hx60
  refine WL_y (Y_ixA ia62 rfl rfl hx60a hx60b) ?_
  obtain ⟨x61, hx62, hz⟩ := bind_ok hz
  obtain ⟨v63, ev63, hv63⟩ := (vp (k := 1) rfl rfl (GGraph.p1 (GSearch.p0 (rr hb51))) hx62)
  refine WL_y (Y_ld1 v63 ts27 rfl (hS.bvB 0 rfl) ev63) ?_
  obtain ⟨a64, c64, hv64, _⟩ := repL_shape hv63
  refine WL_y (Y_lenL Try.underlying27 (tr2 hv64 rfl)) <|WL_y (Y_move (.int .i64 0) rfl) ?_
  refine WL_nil (nm_then ?_)
  refine W_block ?_
  refine W_loop (fun k77 T' w' => ∃ M66 cs68 d69 v70 xs71 l72 y75, Mm.ext w.heap.size (lentX [.box bx1 cx1 117, .stk ux1_4 3 1 xsx1_4]) M38 M66 ∧ St w (lentX [.box bx1 cx1 117, .stk ux1_4 3 1 xsx1_4]) M66 [.box bx1 cs68 117, .stk v70 3 1 xs71] w' ∧ rep M66 cs68 d69 ∧ skr M66 v70 xs71 l72 ∧ sl cs68 (0 + 160) 1 = [v70] ∧ T' 0 = .pointer (some ⟨bx1, 0, none⟩) ∧ T' 1 = .int .i64 x4 ∧ T' 58 = v63 ∧ T' 59 = .int .i64 (x61.length : Int) ∧ T' 60 = .int .i64 y75 ∧ visit_l1 fu x4 rec0 x61 k77 d69 l72 y75 = some r) fu ?_ ?_ ?_
  exact ⟨M38, cs51, d56, v41, xs41, l42, (0 : Int), (Mm.ext.refl _ _ _), hS, hb51, hk41, hp57, hT_0, hT_1, rfl, rfl, rfl, hz⟩
  rintro T' w' ⟨_, _, _, _, _, _, _, _, _, _, _, _, _, _, _, _, _, hz⟩
  rw [visit_l1] at hz
  cases hz
  intro k77
  rintro T67 w65 ⟨M66, cs68, d69, v70, xs71, l72, y75, hx79, hS, hb68, hk73, hp74, hT67_0, hT67_1, hT67_58, hT67_59, hT67_60, hz⟩
  replace hv63 := repL.mono hx79.1 hv63
  replace hE := Mm.ext.trans hE hx79
  have hF78 := hx79
  rw [visit_l1] at hz
  obtain ⟨rec76, hrec76⟩ : ∃ f, f = visit_l1 fu x4 rec0 x61 k77 := ⟨_, rfl⟩
  rw [← hrec76] at hz
  refine W_seq <|W_reg <|WL_y (Y_lss hT67_60 hT67_59) ?_
  refine WL_nil (nm_then ?_)
  refine W_seq ?_
  refine W_cond rfl (fun hc80 => ?_) (fun hc80 => ?_)
  replace hz := bif_ok_t hz hc80
  refine W_skip (nm_then ?_)
  refine W_seqJ (fun T' w' => ∃ M82 cs84 d85 v86 xs87 l88, Mm.ext w.heap.size (lentX [.box bx1 cx1 117, .stk ux1_4 3 1 xsx1_4]) M66 M82 ∧ St w (lentX [.box bx1 cx1 117, .stk ux1_4 3 1 xsx1_4]) M82 [.box bx1 cs84 117, .stk v86 3 1 xs87] w' ∧ rep M82 cs84 d85 ∧ skr M82 v86 xs87 l88 ∧ sl cs84 (0 + 160) 1 = [v86] ∧ T' 0 = .pointer (some ⟨bx1, 0, none⟩) ∧ T' 1 = .int .i64 x4 ∧ T' 58 = v63 ∧ T' 59 = .int .i64 (x61.length : Int) ∧ T' 60 = .int .i64 y75 ∧ visit_j1 y75 rec76 d85 l88 = some r) ?_ ?_
  have hF92 := Mm.ext.refl w.heap.size (lentX [.box bx1 cx1 117, .stk ux1_4 3 1 xsx1_4]) M66
  refine W_block <|W_seq <|W_reg ?_
  obtain ⟨x94, hx93, hz⟩ := bind_ok hz
  obtain ⟨b93, o93, c93, p93, hv93, hi93, hj93, hM93, hr93⟩ := repL_at hv63 hx93
  replace hr93 : rep _ (sl p93 (o93 + Int.toNat y75 * 1) 1) x94 := hr93
  refine WL_y (Y_ixL il27 hT67_58 hv93 hT67_60 hi93 hj93) <|WL_y (Y_ld1 (.int .i64 x94) ts3 rfl (hS.bvM hM93) hr93) <|WL_y (Y_assign (.int .i64 x94) rfl) ?_
  refine WL_nil (nm_then ?_)
  refine W_block ?_
  refine W_seqJ (fun T' w' => ∃ M96 c98, Mm.ext w.heap.size (lentX [.box bx1 cx1 117, .stk ux1_4 3 1 xsx1_4]) M66 M96 ∧ St w (lentX [.box bx1 cx1 117, .stk ux1_4 3 1 xsx1_4]) M96 [.box bx1 cs68 117, .stk v70 3 1 xs71] w' ∧ T' 0 = .pointer (some ⟨bx1, 0, none⟩) ∧ T' 1 = .int .i64 x4 ∧ T' 5 = .int .i64 x94 ∧ T' 58 = v63 ∧ T' 59 = .int .i64 (x61.length : Int) ∧ T' 60 = .int .i64 y75 ∧ T' 64 = .bool c98 ∧ visit_j2 x4 rec0 d69 l72 y75 rec76 x94 c98 = some r) ?_ ?_
  have hF158 := Mm.ext.refl w.heap.size (lentX [.box bx1 cx1 117, .stk ux1_4 3 1 xsx1_4]) M66
  refine W_reg <|WL_y (Y_move (.int .i64 x94) rfl) <|WL_y (Y_lss rfl rfl) <|WL_y (Y_move (.bool (decide (x94 < 0))) rfl) ?_
  rcases ic hz with ⟨hc159, hz⟩ | ⟨hc159, hz⟩ <;> rw [hc159]
  refine WL_d 4 rfl ?_
  refine WL_nil (nm_then ?_)
  exact ⟨M66, true, hF158, hS, hT67_0, hT67_1, rfl, hT67_58, hT67_59, hT67_60, rfl, hz⟩
  refine WL_gy rfl rfl (Y_move (.int .i64 x94) rfl) <|WL_gy rfl rfl (Y_geq rfl rfl) <|WL_d 2 rfl ?_
  refine WL_nil (nm_then ?_)
  exact ⟨M66, (decide (x94 ≥ 32)), hF158, hS, hT67_0, hT67_1, rfl, hT67_58, hT67_59, hT67_60, rfl, hz⟩
  rintro T97 w95 ⟨M96, c98, hx99, hS, hT97_0, hT97_1, hT97_5, hT97_58, hT97_59, hT97_60, hT97_64, hz⟩
  replace hv63 := repL.mono hx99.1 hv63
  replace hb68 := Rep.mono hx99.1 hb68
  replace hk73 := skr.mono hx99.1 hk73
  replace hE := Mm.ext.trans hE hx99
  replace hF78 := Mm.ext.trans hF78 hx99
  replace hF92 := Mm.ext.trans hF92 hx99
  rw [visit_j2] at hz
  refine W_cond hT97_64 (fun hc100 => ?_) (fun hc100 => ?_)
  replace hz := bif_ok_t hz hc100
  refine W_skip (nm_blk ?_)
  refine (nm_blk ?_)
  refine (nm_then ?_)
  exact ⟨M96, cs68, d69, v70, xs71, l72, hF92, hS, hb68, hk73, hp74, hT97_0, hT97_1, hT97_58, hT97_59, hT97_60, hz⟩
  replace hz := bif_ok_f hz hc100
  refine W_seq <|W_reg <|WL_y (Y_move (.pointer (some ⟨bx1, 0, none⟩)) hT97_0) <|WL_y (Y_move (.int .i64 x94) hT97_5) <|WL_y (Y_nil rfl) <|WL_y (Y_fa fa117_1 rfl) ?_
  obtain ⟨u101, hx102, hz⟩ := bind_ok hz
  obtain ⟨hx102a, hx102b⟩ := inR_some hx102
  refine WL_y (Y_ixA ia66 rfl rfl hx102a hx102b) ?_
  obtain ⟨x103, hx104, hz⟩ := bind_ok hz
  refine WL_y (Y_ld1 (.int .i64 x103) ts3 rfl (hS.bvB 0 rfl) (vp (k := 1) rfl rfl (GSearch.p1 (rr hb68)) hx104)) <|WL_y (Y_eql rfl rfl) <|WL_y (Y_assign (.bool (x103 == 0)) rfl) ?_
  refine WL_nil (nm_then ?_)
  refine W_cond rfl (fun hc105 => ?_) (fun hc105 => ?_)
  replace hz := bif_ok_t hz hc105
  refine W_seq <|W_reg <|WL_y (Y_move (.pointer (some ⟨bx1, 0, none⟩)) hT97_0) <|WL_y (Y_move (.int .i64 x94) hT97_5) ?_
  obtain ⟨r108, hr107, hz⟩ := bind_ok hz
  refine WL_c (O_lend (vs := [.pointer (some ⟨bx1, 0, none⟩), .int .i64 x94]) (L := [.box bx1 cs68 117, .stk v70 3 1 xs71]) (R := []) (rv := (fun M' u L' => ∃ k0 u1 x1, u = .tuple #[] ∧ L' = [.box bx1 k0 117, .stk u1 3 1 x1] ∧ rep M' k0 r108.1 ∧ skr M' u1 x1 r108.2 ∧ sl k0 160 1 = [u1])) cb86 (args2 rfl rfl) hS (hS.sel [0, 1] (by decide) rfl) (fun hS => ih hS hb68 hk73 hp74 hr107) ?_)
  rintro u107 M107 w106 L107 hx107 ⟨k0_107, u1_107, x1_107, rfl, hL107, f107_0, f107_1, f107_2⟩ hS
  replace hS := hS _ hL107
  replace hv63 := repL.mono hx107.1 hv63
  replace hb68 := Rep.mono hx107.1 hb68
  replace hk73 := skr.mono hx107.1 hk73
  replace hE := Mm.ext.trans hE hx107
  replace hF78 := Mm.ext.trans hF78 hx107
  replace hF92 := Mm.ext.trans hF92 hx107
  refine WL_nil (nm_then ?_)
  refine W_drawB (Rd M107 [.box bx1 k0_107 117]) (inL [18]) mixed hS fun w109 hS => ?_
  have hG110 := Mm.ext.refl w.heap.size (lentX [.box bx1 cx1 117, .stk ux1_4 3 1 xsx1_4]) M107
  have hR111 : Rd M107 [.box bx1 k0_107 117] w109 := Rd.of hS hG110 (by simp)
  refine WB_y (i := 0) rfl (by kernel_rfl) rfl (Y_move (.pointer (some ⟨bx1, 0, none⟩)) hT97_0) (fun _ => hR111) <|WB_y (i := 1) rfl (by kernel_rfl) rfl (Y_move (.int .i64 x4) hT97_1) (fun _ => hR111) <|WB_y (i := 2) rfl (by kernel_rfl) rfl (Y_move (.pointer (some ⟨bx1, 0, none⟩)) hT97_0) (fun _ => hR111) <|WB_y (i := 3) rfl (by kernel_rfl) rfl (Y_move (.int .i64 x4) hT97_1) (fun _ => hR111) <|WB_y (i := 4) rfl (by kernel_rfl) rfl (Y_nil rfl) (fun _ => hR111) <|WB_y (i := 5) rfl (by kernel_rfl) rfl (Y_fa fa117_2 rfl) (fun _ => hR111) ?_
  obtain ⟨u112, hx113, hz⟩ := bind_ok hz
  obtain ⟨hx113a, hx113b⟩ := inR_some hx113
  refine WB_y (i := 6) rfl (by kernel_rfl) rfl (Y_ixA ia66 rfl rfl hx113a hx113b) (fun _ => hR111) ?_
  obtain ⟨x114, hx115, hz⟩ := bind_ok hz
  refine WB_ld (i := 7) rfl (by kernel_rfl) rfl (inL_lt rfl) (by kernel_rfl) (by kernel_rfl) (Y_ld1 (.int .i64 x114) ts3 rfl (bvR 0 rfl) (vp (k := 1) rfl rfl (GSearch.p2 (rr f107_0)) hx115)) hR111 <|WB_y (i := 8) rfl (by kernel_rfl) rfl (Y_move (.pointer (some ⟨bx1, 0, none⟩)) hT97_0) (fun _ => hR111) <|WB_y (i := 9) rfl (by kernel_rfl) rfl (Y_move (.int .i64 x94) hT97_5) (fun _ => hR111) <|WB_y (i := 10) rfl (by kernel_rfl) rfl (Y_nil rfl) (fun _ => hR111) <|WB_y (i := 11) rfl (by kernel_rfl) rfl (Y_fa fa117_2 rfl) (fun _ => hR111) ?_
  obtain ⟨u116, hx117, hz⟩ := bind_ok hz
  obtain ⟨hx117a, hx117b⟩ := inR_some hx117
  refine WB_y (i := 12) rfl (by kernel_rfl) rfl (Y_ixA ia66 rfl rfl hx117a hx117b) (fun _ => hR111) ?_
  obtain ⟨x118, hx119, hz⟩ := bind_ok hz
  refine WB_ld (i := 13) rfl (by kernel_rfl) rfl (inL_lt rfl) (by kernel_rfl) (by kernel_rfl) (Y_ld1 (.int .i64 x118) ts3 rfl (bvR 0 rfl) (vp (k := 1) rfl rfl (GSearch.p2 (rr f107_0)) hx119)) hR111 <|WB_y (i := 14) rfl (by kernel_rfl) rfl (Y_min rfl rfl) (fun _ => hR111) <|WB_y (i := 15) rfl (by kernel_rfl) rfl (Y_nil rfl) (fun _ => hR111) <|WB_y (i := 16) rfl (by kernel_rfl) rfl (Y_fa fa117_2 rfl) (fun _ => hR111) ?_
  obtain ⟨u120, hx121, hz⟩ := bind_ok hz
  obtain ⟨hx121a, hx121b⟩ := inR_some hx121
  refine WB_y (i := 17) rfl (by kernel_rfl) rfl (Y_ixA ia66 rfl rfl hx121a hx121b) (fun _ => hR111) ?_
  obtain ⟨x124, hx125, hz⟩ := bind_ok hz
  obtain ⟨a126, hx127, hz⟩ := bind_ok hz
  obtain ⟨d128, hd123, hz⟩ := bind_ok hz
  have hq130 := (idxV_some hx125)
  refine WB_one (i := 18) (by kernel_rfl) rfl (O_sx 0 1 hS rfl f107_0 rfl rfl (ri (min x114 x118) : rep M107 _ _) rfl rfl (GSearch.u2 (rr f107_0) (vu (k := 1) rfl rfl (GSearch.p2 (rr f107_0)) (Lf (vp (k := 1) rfl rfl (GSearch.p2 (rr f107_0)) hx125) (ri (min x114 x118) : rep M107 _ _)) hx127)) hd123 ?_)
  intro cs123 w122 hb123 ha123 hs123 hS
  have hp129 := (ha123 (by omega)).trans f107_2
  refine ⟨fun h => Bool.noConfusion (show false = true from h), ?_⟩
  refine WB_done (by kernel_rfl) (nm_blk ?_)
  refine (nm_blk ?_)
  refine (nm_then ?_)
  exact ⟨M107, cs123, d128, u1_107, x1_107, r108.2, hF92, hS, hb123, f107_1, hp129, hT97_0, hT97_1, hT97_58, hT97_59, hT97_60, hz⟩
  replace hz := bif_ok_f hz hc105
  refine W_seq <|W_reg <|WL_y (Y_move (.pointer (some ⟨bx1, 0, none⟩)) hT97_0) <|WL_y (Y_move (.int .i64 x94) hT97_5) <|WL_y (Y_nil rfl) <|WL_y (Y_fa fa117_3 rfl) ?_
  obtain ⟨u131, hx132, hz⟩ := bind_ok hz
  obtain ⟨hx132a, hx132b⟩ := inR_some hx132
  refine WL_y (Y_ixA ia61 rfl rfl hx132a hx132b) ?_
  obtain ⟨x133, hx134, hz⟩ := bind_ok hz
  refine WL_y (Y_ld1 (.bool x133) ts4 rfl (hS.bvB 0 rfl) (vp (k := 1) rfl rfl (GSearch.p3 (rr hb68)) hx134)) <|WL_y (Y_assign (.bool x133) rfl) ?_
  refine WL_nil (nm_then ?_)
  refine W_cond rfl (fun hc135 => ?_) (fun hc135 => ?_)
  replace hz := bif_ok_t hz hc135
  refine W_drawB (Rd M96 [.box bx1 cs68 117]) (inL [18]) mixed hS fun w136 hS => ?_
  have hG137 := Mm.ext.refl w.heap.size (lentX [.box bx1 cx1 117, .stk ux1_4 3 1 xsx1_4]) M96
  have hR138 : Rd M96 [.box bx1 cs68 117] w136 := Rd.of hS hG137 (by simp)
  refine WB_y (i := 0) rfl (by kernel_rfl) rfl (Y_move (.pointer (some ⟨bx1, 0, none⟩)) hT97_0) (fun _ => hR138) <|WB_y (i := 1) rfl (by kernel_rfl) rfl (Y_move (.int .i64 x4) hT97_1) (fun _ => hR138) <|WB_y (i := 2) rfl (by kernel_rfl) rfl (Y_move (.pointer (some ⟨bx1, 0, none⟩)) hT97_0) (fun _ => hR138) <|WB_y (i := 3) rfl (by kernel_rfl) rfl (Y_move (.int .i64 x4) hT97_1) (fun _ => hR138) <|WB_y (i := 4) rfl (by kernel_rfl) rfl (Y_nil rfl) (fun _ => hR138) <|WB_y (i := 5) rfl (by kernel_rfl) rfl (Y_fa fa117_2 rfl) (fun _ => hR138) ?_
  obtain ⟨u139, hx140, hz⟩ := bind_ok hz
  obtain ⟨hx140a, hx140b⟩ := inR_some hx140
  refine WB_y (i := 6) rfl (by kernel_rfl) rfl (Y_ixA ia66 rfl rfl hx140a hx140b) (fun _ => hR138) ?_
  obtain ⟨x141, hx142, hz⟩ := bind_ok hz
  refine WB_ld (i := 7) rfl (by kernel_rfl) rfl (inL_lt rfl) (by kernel_rfl) (by kernel_rfl) (Y_ld1 (.int .i64 x141) ts3 rfl (bvR 0 rfl) (vp (k := 1) rfl rfl (GSearch.p2 (rr hb68)) hx142)) hR138 <|WB_y (i := 8) rfl (by kernel_rfl) rfl (Y_move (.pointer (some ⟨bx1, 0, none⟩)) hT97_0) (fun _ => hR138) <|WB_y (i := 9) rfl (by kernel_rfl) rfl (Y_move (.int .i64 x94) hT97_5) (fun _ => hR138) <|WB_y (i := 10) rfl (by kernel_rfl) rfl (Y_nil rfl) (fun _ => hR138) <|WB_y (i := 11) rfl (by kernel_rfl) rfl (Y_fa fa117_1 rfl) (fun _ => hR138) ?_
  obtain ⟨u143, hx144, hz⟩ := bind_ok hz
  obtain ⟨hx144a, hx144b⟩ := inR_some hx144
  refine WB_y (i := 12) rfl (by kernel_rfl) rfl (Y_ixA ia66 rfl rfl hx144a hx144b) (fun _ => hR138) ?_
  obtain ⟨x145, hx146, hz⟩ := bind_ok hz
  refine WB_ld (i := 13) rfl (by kernel_rfl) rfl (inL_lt rfl) (by kernel_rfl) (by kernel_rfl) (Y_ld1 (.int .i64 x145) ts3 rfl (bvR 0 rfl) (vp (k := 1) rfl rfl (GSearch.p1 (rr hb68)) hx146)) hR138 <|WB_y (i := 14) rfl (by kernel_rfl) rfl (Y_min rfl rfl) (fun _ => hR138) <|WB_y (i := 15) rfl (by kernel_rfl) rfl (Y_nil rfl) (fun _ => hR138) <|WB_y (i := 16) rfl (by kernel_rfl) rfl (Y_fa fa117_2 rfl) (fun _ => hR138) ?_
  obtain ⟨u147, hx148, hz⟩ := bind_ok hz
  obtain ⟨hx148a, hx148b⟩ := inR_some hx148
  refine WB_y (i := 17) rfl (by kernel_rfl) rfl (Y_ixA ia66 rfl rfl hx148a hx148b) (fun _ => hR138) ?_
  obtain ⟨x151, hx152, hz⟩ := bind_ok hz
  obtain ⟨a153, hx154, hz⟩ := bind_ok hz
  obtain ⟨d155, hd150, hz⟩ := bind_ok hz
  have hq157 := (idxV_some hx152)
  refine WB_one (i := 18) (by kernel_rfl) rfl (O_sx 0 1 hS rfl hb68 rfl rfl (ri (min x141 x145) : rep M96 _ _) rfl rfl (GSearch.u2 (rr hb68) (vu (k := 1) rfl rfl (GSearch.p2 (rr hb68)) (Lf (vp (k := 1) rfl rfl (GSearch.p2 (rr hb68)) hx152) (ri (min x141 x145) : rep M96 _ _)) hx154)) hd150 ?_)
  intro cs150 w149 hb150 ha150 hs150 hS
  have hp156 := (ha150 (by omega)).trans hp74
  refine ⟨fun h => Bool.noConfusion (show false = true from h), ?_⟩
  refine WB_done (by kernel_rfl) (nm_blk ?_)
  refine (nm_blk ?_)
  refine (nm_then ?_)
  exact ⟨M96, cs150, d155, v70, xs71, l72, hF92, hS, hb150, hk73, hp156, hT97_0, hT97_1, hT97_58, hT97_59, hT97_60, hz⟩
  replace hz := bif_ok_f hz hc135
  refine W_skip (nm_blk ?_)
  refine (nm_blk ?_)
  refine (nm_then ?_)
  exact ⟨M96, cs68, d69, v70, xs71, l72, hF92, hS, hb68, hk73, hp74, hT97_0, hT97_1, hT97_58, hT97_59, hT97_60, hz⟩
  rintro T83 w81 ⟨M82, cs84, d85, v86, xs87, l88, hx91, hS, hb84, hk89, hp90, hT83_0, hT83_1, hT83_58, hT83_59, hT83_60, hz⟩
  replace hv63 := repL.mono hx91.1 hv63
  replace hE := Mm.ext.trans hE hx91
  replace hF78 := Mm.ext.trans hF78 hx91
  rw [visit_j1] at hz
  refine W_reg <|WL_y (Y_add hT83_60 rfl) <|WL_y (Y_move (.int .i64 (IntKind.wrap .i64 (y75 + 1))) rfl) ?_
  refine WL_nil (nm_then ?_)
  exact ⟨M82, cs84, d85, v86, xs87, l88, (IntKind.wrap .i64 (y75 + 1)), hF78, hS, hb84, hk89, hp90, hT83_0, hT83_1, hT83_58, hT83_59, rfl, (by rw [← hrec76]; exact hz)⟩
  replace hz := bif_ok_f hz hc80
  refine W_exit <|ex_then <|ex_then <|ex_hit ?_
  refine (nm_then ?_)
  refine W_seq <|W_seq <|W_drawq mixed (by kernel_rfl) hS <|WQ_y (Y_move (.pointer (some ⟨bx1, 0, none⟩)) hT67_0) <|WQ_y (Y_move (.int .i64 x4) hT67_1) <|WQ_y (Y_nil rfl) <|WQ_y (Y_fa fa117_2 rfl) ?_
  obtain ⟨u160, hx161, hz⟩ := bind_ok hz
  obtain ⟨hx161a, hx161b⟩ := inR_some hx161
  refine WQ_y (Y_ixA ia66 rfl rfl hx161a hx161b) ?_
  obtain ⟨x162, hx163, hz⟩ := bind_ok hz
  refine WQ_y (Y_ld1 (.int .i64 x162) ts3 rfl (bvBS (j := 0) rfl) (vp (k := 1) rfl rfl (GSearch.p2 (rr hb68)) hx163)) <|WQ_y (Y_move (.pointer (some ⟨bx1, 0, none⟩)) hT67_0) <|WQ_y (Y_move (.int .i64 x4) hT67_1) <|WQ_y (Y_nil rfl) <|WQ_y (Y_fa fa117_1 rfl) ?_
  obtain ⟨u164, hx165, hz⟩ := bind_ok hz
  obtain ⟨hx165a, hx165b⟩ := inR_some hx165
  refine WQ_y (Y_ixA ia66 rfl rfl hx165a hx165b) ?_
  obtain ⟨x166, hx167, hz⟩ := bind_ok hz
  refine WQ_y (Y_ld1 (.int .i64 x166) ts3 rfl (bvBS (j := 0) rfl) (vp (k := 1) rfl rfl (GSearch.p1 (rr hb68)) hx167)) <|WQ_y (Y_neq rfl rfl) <|WQ_nil ?_
  intro w168 hS
  refine (nm_then ?_)
  refine W_cond rfl (fun hc169 => ?_) (fun hc169 => ?_)
  replace hz := bif_ok_t hz hc169
  cases hz
  exact W_ret (rt_then (R_t0 rfl  ⟨_, M66, _, rfl, hE, (hS.sel (H' := [.box bx1 cs68 117, .stk v70 3 1 xs71]) [0, 1] (by decide) rfl), cs68, v70, xs71, rfl, rfl, hb68, hk73, hp74⟩))
  replace hz := bif_ok_f hz hc169
  refine W_skip (nm_then ?_)
  refine W_seq <|W_reg <|WL_y (Y_move (.pointer (some ⟨bx1, 0, none⟩)) hT67_0) <|WL_y (Y_nil rfl) <|WL_y (Y_fa fa117_4 rfl) <|WL_y (Y_ld1 v70 ts27 rfl (hS.bvB 0 rfl) hp74) ?_
  obtain ⟨a170, c170, hv170, _⟩ := skr_shape hk73
  refine WL_y (Y_lenL Try.underlying27 (tr2 hv170 rfl)) <|WL_y (Y_sub rfl rfl) <|WL_y (Y_assign (.int .i64 (IntKind.wrap .i64 ((l72.length : Int) - 1))) rfl) ?_
  refine WL_nil (nm_then ?_)
  refine W_seq <|W_block ?_
  refine W_loop (fun k176 T' w' => ∃ M172 y174, Mm.ext w.heap.size (lentX [.box bx1 cx1 117, .stk ux1_4 3 1 xsx1_4]) M66 M172 ∧ St w (lentX [.box bx1 cx1 117, .stk ux1_4 3 1 xsx1_4]) M172 [.box bx1 cs68 117, .stk v70 3 1 xs71] w' ∧ T' 0 = .pointer (some ⟨bx1, 0, none⟩) ∧ T' 1 = .int .i64 x4 ∧ T' 6 = .int .i64 y174 ∧ visit_l2 fu x4 d69 l72 k176 y174 = some r) fu ?_ ?_ ?_
  exact ⟨M66, (IntKind.wrap .i64 ((l72.length : Int) - 1)), (Mm.ext.refl _ _ _), hS, hT67_0, hT67_1, rfl, hz⟩
  rintro T' w' ⟨_, _, _, _, _, _, _, hz⟩
  rw [visit_l2] at hz
  cases hz
  intro k176
  rintro T173 w171 ⟨M172, y174, hx178, hS, hT173_0, hT173_1, hT173_6, hz⟩
  replace hb68 := Rep.mono hx178.1 hb68
  replace hk73 := skr.mono hx178.1 hk73
  replace hE := Mm.ext.trans hE hx178
  replace hF78 := Mm.ext.trans hF78 hx178
  have hF177 := hx178
  rw [visit_l2] at hz
  obtain ⟨rec175, hrec175⟩ : ∃ f, f = visit_l2 fu x4 d69 l72 k176 := ⟨_, rfl⟩
  rw [← hrec175] at hz
  refine W_seq <|W_seq <|W_reg <|WL_y (Y_move (.pointer (some ⟨bx1, 0, none⟩)) hT173_0) <|WL_y (Y_nil rfl) <|WL_y (Y_fa fa117_4 rfl) <|WL_y (Y_ld1 v70 ts27 rfl (hS.bvB 0 rfl) hp74) <|WL_y (Y_move (.int .i64 y174) hT173_6) ?_
  obtain ⟨x180, hx179, hz⟩ := bind_ok hz
  obtain ⟨b179, o179, c179, hv179, hi179, hj179, hM179, hr179⟩ := skv_at (hS.skv (j := 1) rfl hk73) hx179
  replace hr179 : rep _ (sl xs71 (o179 + Int.toNat y174 * 1) 1) x180 := hr179
  refine WL_y (Y_ixL il27 rfl hv179 rfl hi179 hj179) <|WL_y (Y_ld1 (.int .i64 x180) ts3 rfl (hS.bvK (j := 1) rfl hM179) hr179) <|WL_y (Y_move (.int .i64 x4) hT173_1) <|WL_y (Y_neq rfl rfl) ?_
  refine WL_nil (nm_then ?_)
  refine W_cond rfl (fun hc181 => ?_) (fun hc181 => ?_)
  replace hz := bif_ok_t hz hc181
  refine W_skip (nm_then ?_)
  refine W_block <|W_reg <|WL_y (Y_move (.int .i64 y174) hT173_6) <|WL_y (Y_sub rfl rfl) <|WL_y (Y_assign (.int .i64 (IntKind.wrap .i64 (y174 - 1))) rfl) ?_
  refine WL_nil (nm_blk ?_)
  refine (nm_then ?_)
  exact ⟨M172, (IntKind.wrap .i64 (y174 - 1)), hF177, hS, hT173_0, hT173_1, rfl, (by rw [← hrec175]; exact hz)⟩
  replace hz := bif_ok_f hz hc181
  refine W_exit <|ex_then <|ex_then <|ex_hit ?_
  refine (nm_then ?_)
  refine W_seq <|W_reg <|WL_y (Y_move (.int .i64 x4) hT173_1) <|WL_y (Y_assign (.int .i64 x4) rfl) ?_
  refine WL_nil (nm_then ?_)
  refine W_seq <|W_seq <|W_reg <|WL_y (Y_move (.pointer (some ⟨bx1, 0, none⟩)) hT173_0) <|WL_y (Y_nil rfl) <|WL_y (Y_fa fa117_4 rfl) <|WL_y (Y_ld1 v70 ts27 rfl (hS.bvB 0 rfl) hp74) <|WL_y (Y_move (.int .i64 y174) hT173_6) ?_
  obtain ⟨l183, hx182, hz⟩ := bind_ok hz
  obtain ⟨⟨pp182, qq182⟩, hc182, hx182⟩ := Option.map_eq_some_iff.1 hx182
  obtain ⟨a182, c182, hv182, hn182⟩ := skr_shape hk73
  refine WL_y (Y_cutL (l := (some y174)) (h := none) il27 rfl hv182 (evs rfl) evn hc182 hn182) ?_
  have hk182 : skv M172 v70 (cutV v70 1 pp182 qq182) xs71 l183 := (show _ = l183 from hx182) ▸ skv_cut (hS.skv (j := 1) rfl hk73) hc182
  obtain ⟨a184, c184, hv184, _⟩ := skv_shape hk182
  refine WL_y (Y_lenL Try.underlying27 (tr2 hv184 rfl)) <|WL_y (Y_move (.int .i64 0) rfl) ?_
  refine WL_nil (nm_then ?_)
  refine W_block ?_
  refine W_loop (fun k191 T' w' => ∃ M186 y188 y189, Mm.ext w.heap.size (lentX [.box bx1 cx1 117, .stk ux1_4 3 1 xsx1_4]) M172 M186 ∧ St w (lentX [.box bx1 cx1 117, .stk ux1_4 3 1 xsx1_4]) M186 [.box bx1 cs68 117, .stk v70 3 1 xs71] w' ∧ T' 0 = .pointer (some ⟨bx1, 0, none⟩) ∧ T' 6 = .int .i64 y174 ∧ T' 7 = .int .i64 y188 ∧ T' 162 = (cutV v70 1 pp182 qq182) ∧ T' 163 = .int .i64 (l183.length : Int) ∧ T' 164 = .int .i64 y189 ∧ visit_l3 fu d69 l72 y174 l183 k191 y188 y189 = some r) fu ?_ ?_ ?_
  exact ⟨M172, x4, (0 : Int), (Mm.ext.refl _ _ _), hS, hT173_0, hT173_6, rfl, rfl, rfl, rfl, hz⟩
  rintro T' w' ⟨_, _, _, _, _, _, _, _, _, _, _, hz⟩
  rw [visit_l3] at hz
  cases hz
  intro k191
  rintro T187 w185 ⟨M186, y188, y189, hx193, hS, hT187_0, hT187_6, hT187_7, hT187_162, hT187_163, hT187_164, hz⟩
  replace hb68 := Rep.mono hx193.1 hb68
  replace hk73 := skr.mono hx193.1 hk73
  replace hk182 := skv.mono hx193.1 hk182
  replace hE := Mm.ext.trans hE hx193
  replace hF78 := Mm.ext.trans hF78 hx193
  replace hF177 := Mm.ext.trans hF177 hx193
  have hF192 := hx193
  rw [visit_l3] at hz
  obtain ⟨rec190, hrec190⟩ : ∃ f, f = visit_l3 fu d69 l72 y174 l183 k191 := ⟨_, rfl⟩
  rw [← hrec190] at hz
  refine W_seq <|W_reg <|WL_y (Y_lss hT187_164 hT187_163) ?_
  refine WL_nil (nm_then ?_)
  refine W_seq ?_
  refine W_cond rfl (fun hc194 => ?_) (fun hc194 => ?_)
  replace hz := bif_ok_t hz hc194
  refine W_skip (nm_then ?_)
  refine W_seq <|W_block <|W_seq <|W_reg ?_
  obtain ⟨x196, hx195, hz⟩ := bind_ok hz
  obtain ⟨b195, o195, c195, hv195, hi195, hj195, hM195, hr195⟩ := skv_at hk182 hx195
  replace hr195 : rep _ (sl xs71 (o195 + Int.toNat y189 * 1) 1) x196 := hr195
  refine WL_y (Y_ixL il27 hT187_162 hv195 hT187_164 hi195 hj195) <|WL_y (Y_ld1 (.int .i64 x196) ts3 rfl (hS.bvK (j := 1) rfl hM195) hr195) <|WL_y (Y_assign (.int .i64 x196) rfl) ?_
  refine WL_nil (nm_then ?_)
  refine W_reg <|WL_y (Y_move (.int .i64 y188) hT187_7) <|WL_y (Y_move (.int .i64 x196) rfl) <|WL_y (Y_min rfl rfl) <|WL_y (Y_assign (.int .i64 (min y188 x196)) rfl) ?_
  refine WL_nil (nm_blk ?_)
  refine (nm_then ?_)
  refine W_reg <|WL_y (Y_add hT187_164 rfl) <|WL_y (Y_move (.int .i64 (IntKind.wrap .i64 (y189 + 1))) rfl) ?_
  refine WL_nil (nm_then ?_)
  exact ⟨M186, (min y188 x196), (IntKind.wrap .i64 (y189 + 1)), hF192, hS, hT187_0, hT187_6, rfl, hT187_162, hT187_163, rfl, (by rw [← hrec190]; exact hz)⟩
  replace hz := bif_ok_f hz hc194
  refine W_exit <|ex_then <|ex_then <|ex_hit ?_
  refine (nm_then ?_)
  refine W_seq <|W_seq <|W_reg <|WL_y (Y_move (.pointer (some ⟨bx1, 0, none⟩)) hT187_0) <|WL_y (Y_nil rfl) <|WL_y (Y_fa fa117_4 rfl) <|WL_y (Y_ld1 v70 ts27 rfl (hS.bvB 0 rfl) hp74) <|WL_y (Y_move (.int .i64 y174) hT187_6) ?_
  obtain ⟨l198, hx197, hz⟩ := bind_ok hz
  obtain ⟨⟨pp197, qq197⟩, hc197, hx197⟩ := Option.map_eq_some_iff.1 hx197
  obtain ⟨a197, c197, hv197, hn197⟩ := skr_shape hk73
  refine WL_y (Y_cutL (l := (some y174)) (h := none) il27 rfl hv197 (evs rfl) evn hc197 hn197) ?_
  have hk197 : skv M186 v70 (cutV v70 1 pp197 qq197) xs71 l198 := (show _ = l198 from hx197) ▸ skv_cut (hS.skv (j := 1) rfl hk73) hc197
  obtain ⟨a199, c199, hv199, _⟩ := skv_shape hk197
  refine WL_y (Y_lenL Try.underlying27 (tr2 hv199 rfl)) <|WL_y (Y_move (.int .i64 0) rfl) ?_
  refine WL_nil (nm_then ?_)
  refine W_block ?_
  refine W_loop (fun k208 T' w' => ∃ M201 cs203 d204 y206, Mm.ext w.heap.size (lentX [.box bx1 cx1 117, .stk ux1_4 3 1 xsx1_4]) M186 M201 ∧ St w (lentX [.box bx1 cx1 117, .stk ux1_4 3 1 xsx1_4]) M201 [.box bx1 cs203 117, .stk v70 3 1 xs71] w' ∧ rep M201 cs203 d204 ∧ sl cs203 (0 + 160) 1 = [v70] ∧ T' 0 = .pointer (some ⟨bx1, 0, none⟩) ∧ T' 6 = .int .i64 y174 ∧ T' 7 = .int .i64 y188 ∧ T' 177 = (cutV v70 1 pp197 qq197) ∧ T' 178 = .int .i64 (l198.length : Int) ∧ T' 179 = .int .i64 y206 ∧ visit_l4 l72 y174 y188 l198 k208 d204 y206 = some r) fu ?_ ?_ ?_
  exact ⟨M186, cs68, d69, (0 : Int), (Mm.ext.refl _ _ _), hS, hb68, hp74, hT187_0, hT187_6, hT187_7, rfl, rfl, rfl, hz⟩
  rintro T' w' ⟨_, _, _, _, _, _, _, _, _, _, _, _, _, _, hz⟩
  rw [visit_l4] at hz
  cases hz
  intro k208
  rintro T202 w200 ⟨M201, cs203, d204, y206, hx210, hS, hb203, hp205, hT202_0, hT202_6, hT202_7, hT202_177, hT202_178, hT202_179, hz⟩
  replace hk73 := skr.mono hx210.1 hk73
  replace hk197 := skv.mono hx210.1 hk197
  replace hE := Mm.ext.trans hE hx210
  replace hF78 := Mm.ext.trans hF78 hx210
  replace hF177 := Mm.ext.trans hF177 hx210
  replace hF192 := Mm.ext.trans hF192 hx210
  have hF209 := hx210
  rw [visit_l4] at hz
  obtain ⟨rec207, hrec207⟩ : ∃ f, f = visit_l4 l72 y174 y188 l198 k208 := ⟨_, rfl⟩
  rw [← hrec207] at hz
  refine W_seq <|W_reg <|WL_y (Y_lss hT202_179 hT202_178) ?_
  refine WL_nil (nm_then ?_)
  refine W_seq ?_
  refine W_cond rfl (fun hc211 => ?_) (fun hc211 => ?_)
  replace hz := bif_ok_t hz hc211
  refine W_skip (nm_then ?_)
  refine W_seq <|W_block <|W_seq <|W_reg ?_
  obtain ⟨x213, hx212, hz⟩ := bind_ok hz
  obtain ⟨b212, o212, c212, hv212, hi212, hj212, hM212, hr212⟩ := skv_at hk197 hx212
  replace hr212 : rep _ (sl xs71 (o212 + Int.toNat y206 * 1) 1) x213 := hr212
  refine WL_y (Y_ixL il27 hT202_177 hv212 hT202_179 hi212 hj212) <|WL_y (Y_ld1 (.int .i64 x213) ts3 rfl (hS.bvK (j := 1) rfl hM212) hr212) <|WL_y (Y_assign (.int .i64 x213) rfl) ?_
  refine WL_nil (nm_then ?_)
  refine W_drawB (Rd M201 []) (inL []) mixed hS fun w214 hS => ?_
  have hG215 := Mm.ext.refl w.heap.size (lentX [.box bx1 cx1 117, .stk ux1_4 3 1 xsx1_4]) M201
  have hR216 : Rd M201 [] w214 := Rd.of hS hG215 (by simp)
  refine WB_y (i := 0) rfl (by kernel_rfl) rfl (Y_move (.pointer (some ⟨bx1, 0, none⟩)) hT202_0) (fun _ => hR216) <|WB_y (i := 1) rfl (by kernel_rfl) rfl (Y_move (.int .i64 x213) rfl) (fun _ => hR216) <|WB_y (i := 2) rfl (by kernel_rfl) rfl (Y_move (.pointer (some ⟨bx1, 0, none⟩)) hT202_0) (fun _ => hR216) <|WB_y (i := 3) rfl (by kernel_rfl) rfl (Y_move (.int .i64 x213) rfl) (fun _ => hR216) <|WB_y (i := 4) rfl (by kernel_rfl) rfl (Y_move (.int .i64 y188) hT202_7) (fun _ => hR216) <|WB_y (i := 5) rfl (by kernel_rfl) rfl (Y_nil rfl) (fun _ => hR216) <|WB_y (i := 6) rfl (by kernel_rfl) rfl (Y_fa fa117_5 rfl) (fun _ => hR216) ?_
  obtain ⟨u217, hx218, hz⟩ := bind_ok hz
  obtain ⟨hx218a, hx218b⟩ := inR_some hx218
  refine WB_y (i := 7) rfl (by kernel_rfl) rfl (Y_ixA ia66 rfl rfl hx218a hx218b) (fun _ => hR216) <|WB_y (i := 9) rfl (by kernel_rfl) rfl (Y_nil rfl) (fun _ => hR216) <|WB_y (i := 10) rfl (by kernel_rfl) rfl (Y_fa fa117_3 rfl) (fun _ => hR216) ?_
  obtain ⟨x221, hx222, hz⟩ := bind_ok hz
  obtain ⟨a223, hx224, hz⟩ := bind_ok hz
  obtain ⟨d225, hd220, hz⟩ := bind_ok hz
  have hq227 := (idxV_some hx222)
  refine WB_one (i := 8) (by kernel_rfl) rfl (O_sx 0 1 hS rfl hb203 rfl rfl (ri y188 : rep M201 _ _) rfl rfl (GSearch.u5 (rr hb203) (vu (k := 1) rfl rfl (GSearch.p5 (rr hb203)) (Lf (vp (k := 1) rfl rfl (GSearch.p5 (rr hb203)) hx222) (ri y188 : rep M201 _ _)) hx224)) hd220 ?_)
  intro cs220 w219 hb220 ha220 hs220 hS
  have hp226 := (ha220 (by omega)).trans hp205
  have hR228 : Rd M201 [] w219 := Rd.of hS hG215 (by simp)
  refine ⟨fun _ => hR228, ?_⟩
  obtain ⟨u229, hx230, hz⟩ := bind_ok hz
  obtain ⟨hx230a, hx230b⟩ := inR_some hx230
  refine WB_y (i := 11) rfl (by kernel_rfl) rfl (Y_ixA ia61 rfl rfl hx230a hx230b) (fun _ => hR228) ?_
  obtain ⟨x233, hx234, hz⟩ := bind_ok hz
  obtain ⟨a235, hx236, hz⟩ := bind_ok hz
  obtain ⟨d237, hd232, hz⟩ := bind_ok hz
  have hq239 := (idxV_some hx234)
  refine WB_one (i := 12) (by kernel_rfl) rfl (O_sx 0 1 hS rfl hb220 rfl rfl (rb false : rep M201 _ _) rfl rfl (GSearch.u3 (rr hb220) (vu (k := 1) rfl rfl (GSearch.p3 (rr hb220)) (Lf (vp (k := 1) rfl rfl (GSearch.p3 (rr hb220)) hx234) (rb false : rep M201 _ _)) hx236)) hd232 ?_)
  intro cs232 w231 hb232 ha232 hs232 hS
  have hp238 := (ha232 (by omega)).trans hp226
  have hR240 : Rd M201 [] w231 := Rd.of hS hG215 (by simp)
  refine ⟨fun _ => hR240, ?_⟩
  refine WB_done (by kernel_rfl) (nm_blk ?_)
  refine (nm_then ?_)
  refine W_reg <|WL_y (Y_add hT202_179 rfl) <|WL_y (Y_move (.int .i64 (IntKind.wrap .i64 (y206 + 1))) rfl) ?_
  refine WL_nil (nm_then ?_)
  exact ⟨M201, cs232, d237, (IntKind.wrap .i64 (y206 + 1)), hF209, hS, hb232, hp238, hT202_0, hT202_6, hT202_7, hT202_177, hT202_178, rfl, (by rw [← hrec207]; exact hz)⟩
  replace hz := bif_ok_f hz hc211
  refine W_exit <|ex_then <|ex_then <|ex_hit ?_
  refine (nm_then ?_)
  refine W_reg <|WL_y (Y_move (.pointer (some ⟨bx1, 0, none⟩)) hT202_0) <|WL_y (Y_move (.pointer (some ⟨bx1, 0, none⟩)) hT202_0) <|WL_y (Y_nil rfl) <|WL_y (Y_fa fa117_4 rfl) <|WL_y (Y_ld1 v70 ts27 rfl (hS.bvB 0 rfl) hp205) <|WL_y (Y_move (.int .i64 y174) hT202_6) ?_
  obtain ⟨l242, hx241, hz⟩ := bind_ok hz
  obtain ⟨⟨pp241, qq241⟩, hc241, hx241⟩ := Option.map_eq_some_iff.1 hx241
  obtain ⟨a241, c241, hv241, hn241⟩ := skr_shape hk73
  refine WL_y (Y_cutL (l := none) (h := (some y174)) il27 rfl hv241 evn (evs rfl) hc241 hn241) ?_
  obtain ⟨hk241, hS⟩ := hS.pop (j := 1) rfl hk73 hc241
  rw [show (List.drop pp241 (List.take qq241 l72)) = l242 from hx241] at hk241
  replace hk241 : skr M201 (cutV v70 1 pp241 qq241) (List.take (qq241 * 1) xs71) l242 := hk241
  refine WL_y (Y_nil rfl) <|WL_y (Y_fa fa117_4 rfl) ?_
  obtain ⟨d245, hd244, hz⟩ := bind_ok hz
  refine WL_c (O_sx 0 1 hS rfl hb203 rfl rfl (hole_rep hk241) (skr_cells hk241) rfl (GSearch.u4 (rr hb203) (Lf (GSearch.p4 (rr hb203)) (hole_rep hk241))) hd244 ?_)
  intro cs244 w243 hb244 ha244 hs244 hS
  have hp246 := hs244
  cases hz
  exact WL_nil (RetQ_ret (R_t0 rfl  ⟨_, M201, _, rfl, hE, (hS.sel (H' := [.box bx1 cs244 117, .stk (cutV v70 1 pp241 qq241) 3 1 (List.take (qq241 * 1) xs71)]) [0, 1] (by decide) rfl), cs244, (cutV v70 1 pp241 qq241), (List.take (qq241 * 1) xs71), rfl, rfl, hb244, hk241, hp246⟩))
theorem visit_ok {M : Mm} {w : World} {bx1 : Nat} {cx1 : List Value} {ux1_4 : Value} {xsx1_4 : List Value} {x1 : GSearch} {l3 : List Int} {x4 : Int} {fu : Nat} {r : GSearch × (List Int)} (hS : St w (lentX [.box bx1 cx1 117, .stk ux1_4 3 1 xsx1_4]) M [.box bx1 cx1 117, .stk ux1_4 3 1 xsx1_4] w) (hcx1 : rep M cx1 x1) (hkx1_4 : skr M ux1_4 xsx1_4 l3) (hpx1_4 : sl cx1 160 1 = [ux1_4]) (hz : visitD fu x1 l3 x4 = some r) :
    Calls Try.prog 86 #[.pointer (some ⟨bx1, 0, none⟩), .int .i64 x4] w (GivesL M w [.box bx1 cx1 117, .stk ux1_4 3 1 xsx1_4] (fun M' u L' => ∃ k0 u1 x1, u = .tuple #[] ∧ L' = [.box bx1 k0 117, .stk u1 3 1 x1] ∧ rep M' k0 r.1 ∧ skr M' u1 x1 r.2 ∧ sl k0 160 1 = [u1])) :=
  visit_rok fu fu hS hcx1 hkx1_4 hpx1_4 hz
def free_j1 (y9 : Int) (rec10 : Int → Option Bool) : Option Bool :=
 rec10 (IntKind.wrap .i64 (y9 + 1))
def free_j3 (y33 : Int) (rec34 : Int → Option Bool) : Option Bool :=
 rec34 (IntKind.wrap .i64 (y33 + 1))
def free_j4 (y33 : Int) (rec34 : Int → Option Bool) (c49 : Bool) : Option Bool :=
 (bif c49 then
 some false
 else
 free_j3 y33 rec34)
def free_l2 (x1 : GSearch) (x2 : Int) (x3 : Vector Bool 32) (y9 : Int) (rec10 : Int → Option Bool) (x26 : List Int) : Nat → Int → Option Bool
 | 0, _ => none
 | n + 1, y33 =>
 (bif decide (y33 < (x26.length : Int)) then
 (idx x26 y33).bind fun x45 =>
 (bif decide (x45 ≥ 0) then
 (bif decide (x45 < 32) then
 (inR x45 32).bind fun _ =>
 (idxV x1.ring x45).bind fun x57 =>
 (bif x57 != x2 then
 (inR x45 32).bind fun _ =>
 (idxV x3 x45).bind fun x62 =>
 free_j4 y33 (free_l2 x1 x2 x3 y9 rec10 x26 n) (!x62)
 else
 free_j4 y33 (free_l2 x1 x2 x3 y9 rec10 x26 n) false)
 else
 free_j4 y33 (free_l2 x1 x2 x3 y9 rec10 x26 n) false)
 else
 free_j4 y33 (free_l2 x1 x2 x3 y9 rec10 x26 n) false)
 else
 free_j1 y9 rec10)
def free_j2 (fu : Nat) (x1 : GSearch) (x2 : Int) (x3 : Vector Bool 32) (y9 : Int) (rec10 : Int → Option Bool) : Option Bool :=
 (inR y9 32).bind fun _ =>
 (idxV x1.g.deps y9).bind fun x26 =>
 free_l2 x1 x2 x3 y9 rec10 x26 fu 0
def free_j5 (fu : Nat) (x1 : GSearch) (x2 : Int) (x3 : Vector Bool 32) (y9 : Int) (rec10 : Int → Option Bool) (c68 : Bool) : Option Bool :=
 (bif c68 then
 free_j1 y9 rec10
 else
 free_j2 fu x1 x2 x3 y9 rec10)
def free_l1 (fu : Nat) (x1 : GSearch) (x2 : Int) (x3 : Vector Bool 32) : Nat → Int → Option Bool
 | 0, _ => none
 | n + 1, y9 =>
 (bif decide (y9 < 32) then
 (inR y9 32).bind fun _ =>
 (idxV x1.mark_ y9).bind fun x74 =>
 (bif x74 == 0 then
 free_j5 fu x1 x2 x3 y9 (free_l1 fu x1 x2 x3 n) true
 else
 (inR y9 32).bind fun _ =>
 (idxV x1.ring y9).bind fun x79 =>
 free_j5 fu x1 x2 x3 y9 (free_l1 fu x1 x2 x3 n) (x79 != x2))
 else
 some true)
def freeD (fu : Nat) (x1 : GSearch) (x2 : Int) (x3 : Vector Bool 32) : Option Bool :=
 free_l1 fu x1 x2 x3 fu 0
set_option maxRecDepth 100000 in
set_option maxHeartbeats 4000000 in
theorem free_ok {M : Mm} {w : World} {bx1 : Nat} {cx1 : List Value} {cx3 : List Value} {x1 : GSearch} {x2 : Int} {x3 : Vector Bool 32} {fu : Nat} {r : Bool} (hS : St w (lentX [.box bx1 cx1 117]) M [.box bx1 cx1 117] w) (hcx1 : rep M cx1 x1) (hcx3 : rep M cx3 x3) (hz : freeD fu x1 x2 x3 = some r) :
    Calls Try.prog 87 #[.pointer (some ⟨bx1, 0, none⟩), .int .i64 x2, .agg cx3.toArray] w (GivesL M w [.box bx1 cx1 117] (fun M' u L' => u = .bool r ∧ L' = [.box bx1 cx1 117])) := by
 refine calls_W Try.func87 rfl 66 rfl rfl (by kernel_rfl) fun T hT => ?_
 have hT_0 : T 0 = .pointer (some ⟨bx1, 0, none⟩) := hT 0
 have hT_1 : T 1 = .int .i64 x2 := hT 1
 have hT_2 : T 2 = .agg cx3.toArray := hT 2
 clear hT
 have hE := Mm.ext.refl w.heap.size (lentX [.box bx1 cx1 117]) M
 rw [freeD] at hz
 refine W_seq <|W_reg ?_
 refine WL_c (O_box (v := .agg cx3.toArray) (cs := cx3) hT_2 rfl hS ?_)
 intro b5 w4 hb5 hS
 refine WL_y (Y_assign (.bool false) rfl) ?_
 refine WL_nil (nm_then ?_)
 refine W_seq <|W_seq <|W_reg <|WL_y (Y_move (.int .i64 0) rfl) ?_
 refine WL_nil (nm_then ?_)
 refine W_block ?_
 refine W_loop (fun k11 T' w' => ∃ M7 y9, Mm.ext w.heap.size (lentX [.box bx1 cx1 117]) M M7 ∧ St w (lentX [.box bx1 cx1 117]) M7 [.box b5 cx3 61, .box bx1 cx1 117] w' ∧ T' 0 = .pointer (some ⟨bx1, 0, none⟩) ∧ T' 1 = .int .i64 x2 ∧ T' 5 = .pointer (some ⟨b5, 0, none⟩) ∧ T' 10 = .int .i64 y9 ∧ free_l1 fu x1 x2 x3 k11 y9 = some r) fu ?_ ?_ ?_
 exact ⟨M, (0 : Int), (Mm.ext.refl _ _ _), hS, hT_0, hT_1, rfl, rfl, hz⟩
 rintro T' w' ⟨_, _, _, _, _, _, _, _, hz⟩
 rw [free_l1] at hz
 cases hz
 intro k11
 rintro T8 w6 ⟨M7, y9, hx13, hS, hT8_0, hT8_1, hT8_5, hT8_10, hz⟩
 replace hcx1 := Rep.mono hx13.1 hcx1
 replace hcx3 := Rep.mono hx13.1 hcx3
 replace hE := Mm.ext.trans hE hx13
 have hF12 := hx13
 rw [free_l1] at hz
 obtain ⟨rec10, hrec10⟩ : ∃ f, f = free_l1 fu x1 x2 x3 k11 := ⟨_, rfl⟩
 rw [← hrec10] at hz
 refine W_seq <|W_reg <|WL_y (Y_lss hT8_10 rfl) ?_
 refine WL_nil (nm_then ?_)
 refine W_seq ?_
 refine W_cond rfl (fun hc14 => ?_) (fun hc14 => ?_)
 replace hz := bif_ok_t hz hc14
 refine W_skip (nm_then ?_)
 refine W_seqJ (fun T' w' => ∃ M16, Mm.ext w.heap.size (lentX [.box bx1 cx1 117]) M7 M16 ∧ St w (lentX [.box bx1 cx1 117]) M16 [.box b5 cx3 61, .box bx1 cx1 117] w' ∧ T' 0 = .pointer (some ⟨bx1, 0, none⟩) ∧ T' 1 = .int .i64 x2 ∧ T' 5 = .pointer (some ⟨b5, 0, none⟩) ∧ T' 10 = .int .i64 y9 ∧ free_j1 y9 rec10 = some r) ?_ ?_
 have hF19 := Mm.ext.refl w.heap.size (lentX [.box bx1 cx1 117]) M7
 refine W_block <|W_seq <|W_reg <|WL_y (Y_move (.int .i64 y9) hT8_10) <|WL_y (Y_assign (.int .i64 y9) rfl) ?_
 refine WL_nil (nm_then ?_)
 refine W_seqJ (fun T' w' => ∃ M21, Mm.ext w.heap.size (lentX [.box bx1 cx1 117]) M7 M21 ∧ St w (lentX [.box bx1 cx1 117]) M21 [.box b5 cx3 61, .box bx1 cx1 117] w' ∧ T' 0 = .pointer (some ⟨bx1, 0, none⟩) ∧ T' 1 = .int .i64 x2 ∧ T' 5 = .pointer (some ⟨b5, 0, none⟩) ∧ T' 7 = .int .i64 y9 ∧ T' 10 = .int .i64 y9 ∧ free_j2 fu x1 x2 x3 y9 rec10 = some r) ?_ ?_
 have hF64 := Mm.ext.refl w.heap.size (lentX [.box bx1 cx1 117]) M7
 refine W_seqJ (fun T' w' => ∃ M66 c68, Mm.ext w.heap.size (lentX [.box bx1 cx1 117]) M7 M66 ∧ St w (lentX [.box bx1 cx1 117]) M66 [.box b5 cx3 61, .box bx1 cx1 117] w' ∧ T' 0 = .pointer (some ⟨bx1, 0, none⟩) ∧ T' 1 = .int .i64 x2 ∧ T' 5 = .pointer (some ⟨b5, 0, none⟩) ∧ T' 7 = .int .i64 y9 ∧ T' 10 = .int .i64 y9 ∧ T' 29 = .bool c68 ∧ free_j5 fu x1 x2 x3 y9 rec10 c68 = some r) ?_ ?_
 have hF71 := Mm.ext.refl w.heap.size (lentX [.box bx1 cx1 117]) M7
 refine W_reg <|WL_y (Y_move (.pointer (some ⟨bx1, 0, none⟩)) hT8_0) <|WL_y (Y_move (.int .i64 y9) rfl) <|WL_y (Y_nil rfl) <|WL_y (Y_fa fa117_1 rfl) ?_
 obtain ⟨u72, hx73, hz⟩ := bind_ok hz
 obtain ⟨hx73a, hx73b⟩ := inR_some hx73
 refine WL_y (Y_ixA ia66 rfl rfl hx73a hx73b) ?_
 obtain ⟨x74, hx75, hz⟩ := bind_ok hz
 refine WL_y (Y_ld1 (.int .i64 x74) ts3 rfl (hS.bvB 1 rfl) (vp (k := 1) rfl rfl (GSearch.p1 (rr hcx1)) hx75)) <|WL_y (Y_eql rfl rfl) <|WL_y (Y_move (.bool (x74 == 0)) rfl) ?_
 rcases ic hz with ⟨hc76, hz⟩ | ⟨hc76, hz⟩ <;> rw [hc76]
 refine WL_d 9 rfl ?_
 refine WL_nil (nm_then ?_)
 exact ⟨M7, true, hF71, hS, hT8_0, hT8_1, hT8_5, rfl, hT8_10, rfl, hz⟩
 refine WL_gy rfl rfl (Y_move (.pointer (some ⟨bx1, 0, none⟩)) hT8_0) <|WL_gy rfl rfl (Y_move (.int .i64 y9) rfl) <|WL_gy rfl rfl (Y_nil rfl) <|WL_gy rfl rfl (Y_fa fa117_5 rfl) ?_
 obtain ⟨u77, hx78, hz⟩ := bind_ok hz
 obtain ⟨hx78a, hx78b⟩ := inR_some hx78
 refine WL_gy rfl rfl (Y_ixA ia66 rfl rfl hx78a hx78b) ?_
 obtain ⟨x79, hx80, hz⟩ := bind_ok hz
 refine WL_gy rfl rfl (Y_ld1 (.int .i64 x79) ts3 rfl (hS.bvB 1 rfl) (vp (k := 1) rfl rfl (GSearch.p5 (rr hcx1)) hx80)) <|WL_gy rfl rfl (Y_move (.int .i64 x2) hT8_1) <|WL_gy rfl rfl (Y_neq rfl rfl) <|WL_y (Y_pick_f (.bool (x79 != x2)) rfl rfl) ?_
 refine WL_nil (nm_then ?_)
 exact ⟨M7, (x79 != x2), hF71, hS, hT8_0, hT8_1, hT8_5, rfl, hT8_10, rfl, hz⟩
 rintro T67 w65 ⟨M66, c68, hx69, hS, hT67_0, hT67_1, hT67_5, hT67_7, hT67_10, hT67_29, hz⟩
 replace hcx1 := Rep.mono hx69.1 hcx1
 replace hcx3 := Rep.mono hx69.1 hcx3
 replace hE := Mm.ext.trans hE hx69
 replace hF12 := Mm.ext.trans hF12 hx69
 replace hF19 := Mm.ext.trans hF19 hx69
 replace hF64 := Mm.ext.trans hF64 hx69
 rw [free_j5] at hz
 refine W_cond hT67_29 (fun hc70 => ?_) (fun hc70 => ?_)
 replace hz := bif_ok_t hz hc70
 refine W_exit <|ex_then <|ex_hit ?_
 refine (nm_then ?_)
 exact ⟨M66, hF19, hS, hT67_0, hT67_1, hT67_5, hT67_10, hz⟩
 replace hz := bif_ok_f hz hc70
 refine W_skip (nm_then ?_)
 exact ⟨M66, hF64, hS, hT67_0, hT67_1, hT67_5, hT67_7, hT67_10, hz⟩
 rintro T22 w20 ⟨M21, hx23, hS, hT22_0, hT22_1, hT22_5, hT22_7, hT22_10, hz⟩
 replace hcx1 := Rep.mono hx23.1 hcx1
 replace hcx3 := Rep.mono hx23.1 hcx3
 replace hE := Mm.ext.trans hE hx23
 replace hF12 := Mm.ext.trans hF12 hx23
 replace hF19 := Mm.ext.trans hF19 hx23
 rw [free_j2] at hz
 refine W_seq <|W_reg <|WL_y (Y_move (.pointer (some ⟨bx1, 0, none⟩)) hT22_0) <|WL_y (Y_move (.int .i64 y9) hT22_7) <|WL_y (Y_nil rfl) <|WL_y (Y_fa fa117_0 rfl) <|WL_y (Y_fa fa64_1 rfl) ?_
 obtain ⟨u24, hx25, hz⟩ := bind_ok hz
 obtain ⟨hx25a, hx25b⟩ := inR_some hx25
 refine WL_y (Y_ixA ia62 rfl rfl hx25a hx25b) ?_
 obtain ⟨x26, hx27, hz⟩ := bind_ok hz
 obtain ⟨v28, ev28, hv28⟩ := (vp (k := 1) rfl rfl (GGraph.p1 (GSearch.p0 (rr hcx1))) hx27)
 refine WL_y (Y_ld1 v28 ts27 rfl (hS.bvB 1 rfl) ev28) ?_
 obtain ⟨a29, c29, hv29, _⟩ := repL_shape hv28
 refine WL_y (Y_lenL Try.underlying27 (tr2 hv29 rfl)) <|WL_y (Y_move (.int .i64 0) rfl) ?_
 refine WL_nil (nm_then ?_)
 refine W_block ?_
 refine W_loop (fun k35 T' w' => ∃ M31 y33, Mm.ext w.heap.size (lentX [.box bx1 cx1 117]) M21 M31 ∧ St w (lentX [.box bx1 cx1 117]) M31 [.box b5 cx3 61, .box bx1 cx1 117] w' ∧ T' 0 = .pointer (some ⟨bx1, 0, none⟩) ∧ T' 1 = .int .i64 x2 ∧ T' 5 = .pointer (some ⟨b5, 0, none⟩) ∧ T' 10 = .int .i64 y9 ∧ T' 36 = v28 ∧ T' 37 = .int .i64 (x26.length : Int) ∧ T' 38 = .int .i64 y33 ∧ free_l2 x1 x2 x3 y9 rec10 x26 k35 y33 = some r) fu ?_ ?_ ?_
 exact ⟨M21, (0 : Int), (Mm.ext.refl _ _ _), hS, hT22_0, hT22_1, hT22_5, hT22_10, rfl, rfl, rfl, hz⟩
 rintro T' w' ⟨_, _, _, _, _, _, _, _, _, _, _, hz⟩
 rw [free_l2] at hz
 cases hz
 intro k35
 rintro T32 w30 ⟨M31, y33, hx37, hS, hT32_0, hT32_1, hT32_5, hT32_10, hT32_36, hT32_37, hT32_38, hz⟩
 replace hcx1 := Rep.mono hx37.1 hcx1
 replace hcx3 := Rep.mono hx37.1 hcx3
 replace hv28 := repL.mono hx37.1 hv28
 replace hE := Mm.ext.trans hE hx37
 replace hF12 := Mm.ext.trans hF12 hx37
 replace hF19 := Mm.ext.trans hF19 hx37
 have hF36 := hx37
 rw [free_l2] at hz
 obtain ⟨rec34, hrec34⟩ : ∃ f, f = free_l2 x1 x2 x3 y9 rec10 x26 k35 := ⟨_, rfl⟩
 rw [← hrec34] at hz
 refine W_seq <|W_reg <|WL_y (Y_lss hT32_38 hT32_37) ?_
 refine WL_nil (nm_then ?_)
 refine W_seq ?_
 refine W_cond rfl (fun hc38 => ?_) (fun hc38 => ?_)
 replace hz := bif_ok_t hz hc38
 refine W_skip (nm_then ?_)
 refine W_seqJ (fun T' w' => ∃ M40, Mm.ext w.heap.size (lentX [.box bx1 cx1 117]) M31 M40 ∧ St w (lentX [.box bx1 cx1 117]) M40 [.box b5 cx3 61, .box bx1 cx1 117] w' ∧ T' 0 = .pointer (some ⟨bx1, 0, none⟩) ∧ T' 1 = .int .i64 x2 ∧ T' 5 = .pointer (some ⟨b5, 0, none⟩) ∧ T' 10 = .int .i64 y9 ∧ T' 36 = v28 ∧ T' 37 = .int .i64 (x26.length : Int) ∧ T' 38 = .int .i64 y33 ∧ free_j3 y33 rec34 = some r) ?_ ?_
 have hF43 := Mm.ext.refl w.heap.size (lentX [.box bx1 cx1 117]) M31
 refine W_block <|W_seq <|W_reg ?_
 obtain ⟨x45, hx44, hz⟩ := bind_ok hz
 obtain ⟨b44, o44, c44, p44, hv44, hi44, hj44, hM44, hr44⟩ := repL_at hv28 hx44
 replace hr44 : rep _ (sl p44 (o44 + Int.toNat y33 * 1) 1) x45 := hr44
 refine WL_y (Y_ixL il27 hT32_36 hv44 hT32_38 hi44 hj44) <|WL_y (Y_ld1 (.int .i64 x45) ts3 rfl (hS.bvM hM44) hr44) <|WL_y (Y_assign (.int .i64 x45) rfl) ?_
 refine WL_nil (nm_then ?_)
 refine W_seqJ (fun T' w' => ∃ M47 c49, Mm.ext w.heap.size (lentX [.box bx1 cx1 117]) M31 M47 ∧ St w (lentX [.box bx1 cx1 117]) M47 [.box b5 cx3 61, .box bx1 cx1 117] w' ∧ T' 0 = .pointer (some ⟨bx1, 0, none⟩) ∧ T' 1 = .int .i64 x2 ∧ T' 5 = .pointer (some ⟨b5, 0, none⟩) ∧ T' 10 = .int .i64 y9 ∧ T' 36 = v28 ∧ T' 37 = .int .i64 (x26.length : Int) ∧ T' 38 = .int .i64 y33 ∧ T' 63 = .bool c49 ∧ free_j4 y33 rec34 c49 = some r) ?_ ?_
 have hF52 := Mm.ext.refl w.heap.size (lentX [.box bx1 cx1 117]) M31
 refine W_reg <|WL_y (Y_move (.int .i64 x45) rfl) <|WL_y (Y_geq rfl rfl) <|WL_y (Y_move (.bool (decide (x45 ≥ 0))) rfl) ?_
 rcases ic hz with ⟨hc53, hz⟩ | ⟨hc53, hz⟩ <;> rw [hc53]
 refine WL_gy rfl rfl (Y_move (.int .i64 x45) rfl) <|WL_gy rfl rfl (Y_lss rfl rfl) <|WL_d 2 rfl ?_
 rcases ic hz with ⟨hc54, hz⟩ | ⟨hc54, hz⟩ <;> rw [hc54]
 refine WL_gy rfl rfl (Y_move (.pointer (some ⟨bx1, 0, none⟩)) hT32_0) <|WL_gy rfl rfl (Y_move (.int .i64 x45) rfl) <|WL_gy rfl rfl (Y_nil rfl) <|WL_gy rfl rfl (Y_fa fa117_5 rfl) ?_
 obtain ⟨u55, hx56, hz⟩ := bind_ok hz
 obtain ⟨hx56a, hx56b⟩ := inR_some hx56
 refine WL_gy rfl rfl (Y_ixA ia66 rfl rfl hx56a hx56b) ?_
 obtain ⟨x57, hx58, hz⟩ := bind_ok hz
 refine WL_gy rfl rfl (Y_ld1 (.int .i64 x57) ts3 rfl (hS.bvB 1 rfl) (vp (k := 1) rfl rfl (GSearch.p5 (rr hcx1)) hx58)) <|WL_gy rfl rfl (Y_move (.int .i64 x2) hT32_1) <|WL_gy rfl rfl (Y_neq rfl rfl) <|WL_d 2 rfl ?_
 rcases ic hz with ⟨hc59, hz⟩ | ⟨hc59, hz⟩ <;> rw [hc59]
 refine WL_gy rfl rfl (Y_move (.int .i64 x45) rfl) ?_
 obtain ⟨u60, hx61, hz⟩ := bind_ok hz
 obtain ⟨hx61a, hx61b⟩ := inR_some hx61
 refine WL_gy rfl rfl (Y_ixA ia61 hT32_5 rfl hx61a hx61b) ?_
 obtain ⟨x62, hx63, hz⟩ := bind_ok hz
 refine WL_gy rfl rfl (Y_ld1 (.bool x62) ts4 rfl (hS.bvB 0 rfl) (vp (k := 1) rfl rfl (rr hcx3) hx63)) <|WL_gy rfl rfl (Y_not rfl) <|WL_y (Y_pick_t (.bool (!x62)) rfl rfl) ?_
 refine WL_nil (nm_then ?_)
 exact ⟨M31, (!x62), hF52, hS, hT32_0, hT32_1, hT32_5, hT32_10, hT32_36, hT32_37, hT32_38, rfl, hz⟩
 refine WL_d 5 rfl ?_
 refine WL_nil (nm_then ?_)
 exact ⟨M31, false, hF52, hS, hT32_0, hT32_1, hT32_5, hT32_10, hT32_36, hT32_37, hT32_38, rfl, hz⟩
 refine WL_d 15 rfl ?_
 refine WL_nil (nm_then ?_)
 exact ⟨M31, false, hF52, hS, hT32_0, hT32_1, hT32_5, hT32_10, hT32_36, hT32_37, hT32_38, rfl, hz⟩
 refine WL_d 19 rfl ?_
 refine WL_nil (nm_then ?_)
 exact ⟨M31, false, hF52, hS, hT32_0, hT32_1, hT32_5, hT32_10, hT32_36, hT32_37, hT32_38, rfl, hz⟩
 rintro T48 w46 ⟨M47, c49, hx50, hS, hT48_0, hT48_1, hT48_5, hT48_10, hT48_36, hT48_37, hT48_38, hT48_63, hz⟩
 replace hcx1 := Rep.mono hx50.1 hcx1
 replace hcx3 := Rep.mono hx50.1 hcx3
 replace hv28 := repL.mono hx50.1 hv28
 replace hE := Mm.ext.trans hE hx50
 replace hF12 := Mm.ext.trans hF12 hx50
 replace hF19 := Mm.ext.trans hF19 hx50
 replace hF36 := Mm.ext.trans hF36 hx50
 replace hF43 := Mm.ext.trans hF43 hx50
 rw [free_j4] at hz
 refine W_cond hT48_63 (fun hc51 => ?_) (fun hc51 => ?_)
 replace hz := bif_ok_t hz hc51
 refine W_seq <|W_reg <|WL_y (Y_assign (.bool false) rfl) ?_
 refine WL_nil (nm_then ?_)
 cases hz
 exact W_ret (rt_blk (rt_then (rt_then (rt_blk (rt_blk (rt_then (rt_then (rt_blk (rt_then (R_t1 rfl rfl ⟨_, M47, _, rfl, hE, (hS.sel (H' := [.box bx1 cx1 117]) [1] (by decide) rfl), rfl, rfl⟩))))))))))
 replace hz := bif_ok_f hz hc51
 refine W_skip (nm_blk ?_)
 refine (nm_then ?_)
 exact ⟨M47, hF43, hS, hT48_0, hT48_1, hT48_5, hT48_10, hT48_36, hT48_37, hT48_38, hz⟩
 rintro T41 w39 ⟨M40, hx42, hS, hT41_0, hT41_1, hT41_5, hT41_10, hT41_36, hT41_37, hT41_38, hz⟩
 replace hcx1 := Rep.mono hx42.1 hcx1
 replace hcx3 := Rep.mono hx42.1 hcx3
 replace hv28 := repL.mono hx42.1 hv28
 replace hE := Mm.ext.trans hE hx42
 replace hF12 := Mm.ext.trans hF12 hx42
 replace hF19 := Mm.ext.trans hF19 hx42
 replace hF36 := Mm.ext.trans hF36 hx42
 rw [free_j3] at hz
 refine W_reg <|WL_y (Y_add hT41_38 rfl) <|WL_y (Y_move (.int .i64 (IntKind.wrap .i64 (y33 + 1))) rfl) ?_
 refine WL_nil (nm_then ?_)
 exact ⟨M40, (IntKind.wrap .i64 (y33 + 1)), hF36, hS, hT41_0, hT41_1, hT41_5, hT41_10, hT41_36, hT41_37, rfl, (by rw [← hrec34]; exact hz)⟩
 replace hz := bif_ok_f hz hc38
 refine W_exit <|ex_then <|ex_then <|ex_hit ?_
 refine (nm_blk ?_)
 refine (nm_then ?_)
 exact ⟨M31, hF19, hS, hT32_0, hT32_1, hT32_5, hT32_10, hz⟩
 rintro T17 w15 ⟨M16, hx18, hS, hT17_0, hT17_1, hT17_5, hT17_10, hz⟩
 replace hcx1 := Rep.mono hx18.1 hcx1
 replace hcx3 := Rep.mono hx18.1 hcx3
 replace hE := Mm.ext.trans hE hx18
 replace hF12 := Mm.ext.trans hF12 hx18
 rw [free_j1] at hz
 refine W_reg <|WL_y (Y_add hT17_10 rfl) <|WL_y (Y_move (.int .i64 (IntKind.wrap .i64 (y9 + 1))) rfl) ?_
 refine WL_nil (nm_then ?_)
 exact ⟨M16, (IntKind.wrap .i64 (y9 + 1)), hF12, hS, hT17_0, hT17_1, hT17_5, rfl, (by rw [← hrec10]; exact hz)⟩
 replace hz := bif_ok_f hz hc14
 refine W_exit <|ex_then <|ex_then <|ex_hit ?_
 refine (nm_then ?_)
 refine W_seq <|W_reg <|WL_y (Y_assign (.bool true) rfl) ?_
 refine WL_nil (nm_then ?_)
 cases hz
 exact W_ret (R_t1 rfl rfl ⟨_, M7, _, rfl, hE, (hS.sel (H' := [.box bx1 cx1 117]) [1] (by decide) rfl), rfl, rfl⟩)
def gorder_j2 (y54 : Int) (rec55 : (Vector Bool 32) → (List Int) → Int → Option (List Int)) (d64 : Vector Bool 32) (l65 : List Int) : Option (List Int) :=
 rec55 d64 l65 (IntKind.wrap .i64 (y54 + 1))
def gorder_j3 (d51 : Vector Bool 32) (l52 : List Int) (y54 : Int) (rec55 : (Vector Bool 32) → (List Int) → Int → Option (List Int)) (c72 : Bool) : Option (List Int) :=
 (bif c72 then
 (inR y54 32).bind fun _ =>
 (idxV d51 y54).bind fun x79 =>
 (setV d51 y54 true).bind fun a81 =>
 (some a81).bind fun d83 =>
 (app l52 ([y54] : List Int)).bind fun l88 =>
 gorder_j2 y54 rec55 d83 l88
 else
 gorder_j2 y54 rec55 d51 l52)
def gorder_l2 (rec34 : (Vector Bool 32) → GSearch → (List Int) → Option (List Int)) (d42 : GSearch) (y44 : Int) : Nat → (Vector Bool 32) → (List Int) → Int → Option (List Int)
 | 0, _, _, _ => none
 | n + 1, d51, l52, y54 =>
 (bif decide (y54 < 32) then
 (inR y54 32).bind fun _ =>
 (idxV d42.mark_ y54).bind fun x92 =>
 (bif decide (x92 > 0) then
 (inR y54 32).bind fun _ =>
 (idxV d42.ring y54).bind fun x97 =>
 gorder_j3 d51 l52 y54 (gorder_l2 rec34 d42 y44 n) (x97 == y44)
 else
 gorder_j3 d51 l52 y54 (gorder_l2 rec34 d42 y44 n) false)
 else
 rec34 d51 d42 l52)
def gorder_j1 (fu : Nat) (d28 : Vector Bool 32) (l32 : List Int) (rec34 : (Vector Bool 32) → GSearch → (List Int) → Option (List Int)) (d42 : GSearch) (y44 : Int) : Option (List Int) :=
 (bif decide (y44 < 0) then
 some l32
 else
 gorder_l2 rec34 d42 y44 fu d28 l32 0)
def gorder_j4 (y107 : Int) (rec108 : GSearch → Int → Int → Option (List Int)) (d117 : GSearch) (y119 : Int) : Option (List Int) :=
 rec108 d117 y119 (IntKind.wrap .i64 (y107 + 1))
def gorder_j5 (fu : Nat) (d28 : Vector Bool 32) (l32 : List Int) (rec34 : (Vector Bool 32) → GSearch → (List Int) → Option (List Int)) (y106 : Int) (y107 : Int) (rec108 : GSearch → Int → Int → Option (List Int)) (d126 : GSearch) (c128 : Bool) : Option (List Int) :=
 (bif c128 then
 gorder_j1 fu d28 l32 rec34 d126 y107
 else
 gorder_j4 y107 rec108 d126 y106)
def gorder_l3 (fu : Nat) (d28 : Vector Bool 32) (l32 : List Int) (rec34 : (Vector Bool 32) → GSearch → (List Int) → Option (List Int)) : Nat → GSearch → Int → Int → Option (List Int)
 | 0, _, _, _ => none
 | n + 1, d104, y106, y107 =>
 (bif decide (y107 < 32) then
 (inR y107 32).bind fun _ =>
 (idxV d104.mark_ y107).bind fun x134 =>
 (bif decide (x134 > 0) then
 (inR y107 32).bind fun _ =>
 (idxV d28 y107).bind fun x139 =>
 (bif !x139 then
 (inR y107 32).bind fun _ =>
 (idxV d104.ring y107).bind fun x144 =>
 (bif x144 == y107 then
 (freeD fu d104 y107 d28).bind fun r150 =>
 gorder_j5 fu d28 l32 rec34 y106 y107 (gorder_l3 fu d28 l32 rec34 n) d104 r150
 else
 gorder_j5 fu d28 l32 rec34 y106 y107 (gorder_l3 fu d28 l32 rec34 n) d104 false)
 else
 gorder_j5 fu d28 l32 rec34 y106 y107 (gorder_l3 fu d28 l32 rec34 n) d104 false)
 else
 gorder_j5 fu d28 l32 rec34 y106 y107 (gorder_l3 fu d28 l32 rec34 n) d104 false)
 else
 gorder_j1 fu d28 l32 rec34 d104 y106)
def gorder_l1 (fu : Nat) : Nat → (Vector Bool 32) → GSearch → (List Int) → Option (List Int)
 | 0, _, _, _ => none
 | n + 1, d28, d30, l32 =>
 gorder_l3 fu d28 l32 (gorder_l1 fu n) fu d30 (-1) 0
def gorderD (fu : Nat) (x1 : GGraph) (x2 : Int) : Option (List Int) :=
 (readyD fu x1 x2).bind fun r8 =>
 (bif !r8 then
 some []
 else
 (some ({ g := x1, mark_ := Zr.zd, low := Zr.zd, on_ := Zr.zd, stack := Zr.zd, ring := Zr.zd, next := Zr.zd } : GSearch)).bind fun d12 =>
 (visitD fu d12 ([] : List Int) x2).bind fun r20 =>
 gorder_l1 fu fu (Zr.zd : Vector Bool 32) r20.1 ([] : List Int))
set_option maxRecDepth 100000 in
set_option maxHeartbeats 4000000 in
theorem gorder_ok {M : Mm} {w : World} {cx1 : List Value} {x1 : GGraph} {x2 : Int} {fu : Nat} {r : (List Int)} (hA : Agree M w) (hcx1 : rep M cx1 x1) (hz : gorderD fu x1 x2 = some r) :
    Calls Try.prog 73 #[.agg cx1.toArray, .int .i64 x2] w (Gives M w (fun M' u => repL M' u r)) := by
 refine calls_W Try.func73 rfl 85 rfl rfl (by kernel_rfl) fun T hT => ?_
 have hT_0 : T 0 = .agg cx1.toArray := hT 0
 have hT_1 : T 1 = .int .i64 x2 := hT 1
 clear hT
 have hE := Mm.ext.refl w.heap.size noX M
 have hS : St w noX M [] w := St.start hA
 rw [gorderD] at hz
 refine W_seq <|W_reg ?_
 refine WL_c (O_box (v := .agg cx1.toArray) (cs := cx1) hT_0 rfl hS ?_)
 intro b4 w3 hb4 hS
 refine WL_y (Y_assign ((.slice none 0 0)) rfl) ?_
 refine WL_nil (nm_then ?_)
 refine W_seq <|W_seq <|W_reg ?_
 have ha5 := (rr hcx1)
 refine WL_y (Y_ldn ta64 rfl (hS.bvB 0 rfl) (Rep.len ha5)) <|WL_y (Y_move (.int .i64 x2) hT_1) ?_
 obtain ⟨r8, hr7, hz⟩ := bind_ok hz
 refine WL_c (O_val (vs := [.agg (sl cx1 (0) 64).toArray, .int .i64 x2]) (v := .bool r8) cb85 (args2 rfl rfl) hS (ready_ok hS.agree ha5 hr7) ?_)
 intro w6 hS
 refine WL_y (Y_not rfl) ?_
 refine WL_nil (nm_then ?_)
 refine W_cond rfl (fun hc9 => ?_) (fun hc9 => ?_)
 replace hz := bif_ok_t hz hc9
 refine W_seq <|W_reg <|WL_y (Y_assign ((.slice none 0 0)) rfl) ?_
 refine WL_nil (nm_then ?_)
 cases hz
 exact W_ret (rt_then (R_t1 rfl rfl (Gives.mk (St.dropB hS hb4) hE (repL_nil _))))
 replace hz := bif_ok_f hz hc9
 refine W_skip (nm_then ?_)
 refine W_seq <|W_reg ?_
 have ha10 := (rr hcx1)
 refine WL_y (Y_ldn ta64 rfl (hS.bvB 0 rfl) (Rep.len ha10)) ?_
 have k11_0 := GSearch.w0 (Zr.zr : rep M (Zr.zc GSearch) (Zr.zd : GSearch)) ha10
 obtain ⟨d12, hd11, hz⟩ := bind_ok hz
 obtain ⟨cs11, hf11, ha11⟩ : ∃ cs, fillZ (([(0, 64), (64, 32), (96, 32), (128, 32), (160, 1), (161, 32), (193, 1)] : List (Nat × Nat))[·]?) (Zr.zc GSearch) [(0, .agg (sl cx1 (0) 64).toArray)] = some cs ∧ rep M cs d12 := ⟨_, (fz_cons (Zr.zr : rep M (Zr.zc GSearch) (Zr.zd : GSearch)) rfl rfl (Rep.len ha10) (by decide) fz_nil), rep_eq (x := ({ g := x1, mark_ := Zr.zd, low := Zr.zd, on_ := Zr.zd, stack := Zr.zd, ring := Zr.zd, next := Zr.zd } : GSearch)) k11_0 hd11⟩
 have hp13 : sl cs11 160 1 = [.slice none 0 0] := (fillZ_apart hf11 (by rfl)).trans (by rfl)
 replace hS := hS.nilStk 3 1
 have hk15 : skr M (.slice none 0 0) [] ([] : List Int) := skr_nil
 refine WL_y (Y_build [(0, .agg (sl cx1 (0) 64).toArray)] tb117 (bpc rfl bp0) hf11) ?_
 refine WL_c (O_box (v := .agg cs11.toArray) (cs := cs11) rfl rfl hS ?_)
 intro b17 w16 hb17 hS
 refine WL_y (Y_assign (.pointer (some ⟨b17, 0, none⟩)) rfl) ?_
 refine WL_nil (nm_then ?_)
 refine W_seq <|W_reg <|WL_y (Y_move (.pointer (some ⟨b17, 0, none⟩)) rfl) <|WL_y (Y_move (.int .i64 x2) hT_1) ?_
 obtain ⟨r20, hr19, hz⟩ := bind_ok hz
 refine WL_c (O_lend (vs := [.pointer (some ⟨b17, 0, none⟩), .int .i64 x2]) (L := [.box b17 cs11 117, .stk (.slice none 0 0) 3 1 []]) (R := [.box b4 cx1 64]) (rv := (fun M' u L' => ∃ k0 u1 x1, u = .tuple #[] ∧ L' = [.box b17 k0 117, .stk u1 3 1 x1] ∧ rep M' k0 r20.1 ∧ skr M' u1 x1 r20.2 ∧ sl k0 160 1 = [u1])) cb86 (args2 rfl rfl) hS (hS.sel [0, 1, 2] (by decide) rfl) (fun hS => visit_ok hS ha11 hk15 hp13 hr19) ?_)
 rintro u19 M19 w18 L19 hx19 ⟨k0_19, u1_19, x1_19, rfl, hL19, f19_0, f19_1, f19_2⟩ hS
 replace hS := hS _ hL19
 replace hcx1 := Rep.mono hx19.1 hcx1
 replace ha11 := Rep.mono hx19.1 ha11
 replace hk15 := skr.mono hx19.1 hk15
 replace hE := Mm.ext.trans hE hx19
 refine WL_nil (nm_then ?_)
 refine W_seq <|W_reg <|WL_y (Y_assign ((.slice none 0 0)) rfl) ?_
 refine WL_nil (nm_then ?_)
 refine W_seq <|W_reg ?_
 refine WL_c (O_alloc tz61 hS ?_)
 intro b22 w21 hb22 hS
 have zb22 : rep M19 (Zr.zc (Vector Bool 32)) (Zr.zd : Vector Bool 32) := Zr.zr
 refine WL_nil (nm_then ?_)
 refine W_block ?_
 replace hS := hS.nilRow 3 1
 refine W_loop (fun k35 T' w' => ∃ M25 cs27 d28 cs29 d30 v33 l32, Mm.ext w.heap.size noX M19 M25 ∧ St w noX M25 [.row v33 3 1, .box b22 cs27 61, .box b17 cs29 117, .stk u1_19 3 1 x1_19, .box b4 cx1 64] w' ∧ rep M25 cs27 d28 ∧ rep M25 cs29 d30 ∧ sl cs29 (0 + 160) 1 = [u1_19] ∧ repL M25 v33 l32 ∧ T' 5 = .pointer (some ⟨b17, 0, none⟩) ∧ T' 6 = v33 ∧ T' 7 = .pointer (some ⟨b22, 0, none⟩) ∧ gorder_l1 fu k35 d28 d30 l32 = some r) fu ?_ ?_ ?_
 exact ⟨M19, (Zr.zc (Vector Bool 32)), (Zr.zd : Vector Bool 32), k0_19, r20.1, (.slice none 0 0), ([] : List Int), (Mm.ext.refl _ _ _), hS, zb22, f19_0, f19_2, (repL_nil _), rfl, rfl, rfl, hz⟩
 rintro T' w' ⟨_, _, _, _, _, _, _, _, _, _, _, _, _, _, _, _, hz⟩
 rw [gorder_l1] at hz
 cases hz
 intro k35
 rintro T26 w24 ⟨M25, cs27, d28, cs29, d30, v33, l32, hx37, hS, hb27, hb29, hp31, hv33, hT26_5, hT26_6, hT26_7, hz⟩
 replace hcx1 := Rep.mono hx37.1 hcx1
 replace f19_1 := skr.mono hx37.1 f19_1
 replace hE := Mm.ext.trans hE hx37
 have hF36 := hx37
 rw [gorder_l1] at hz
 obtain ⟨rec34, hrec34⟩ : ∃ f, f = gorder_l1 fu k35 := ⟨_, rfl⟩
 rw [← hrec34] at hz
 refine W_block <|W_seq <|W_reg <|WL_y (Y_assign (.int .i64 (-1)) rfl) ?_
 refine WL_nil (nm_then ?_)
 refine W_seqJ (fun T' w' => ∃ M39 cs41 d42 y44, Mm.ext w.heap.size noX M25 M39 ∧ St w noX M39 [.row v33 3 1, .box b22 cs27 61, .box b17 cs41 117, .stk u1_19 3 1 x1_19, .box b4 cx1 64] w' ∧ rep M39 cs41 d42 ∧ sl cs41 (0 + 160) 1 = [u1_19] ∧ T' 5 = .pointer (some ⟨b17, 0, none⟩) ∧ T' 6 = v33 ∧ T' 7 = .pointer (some ⟨b22, 0, none⟩) ∧ T' 8 = .int .i64 y44 ∧ gorder_j1 fu d28 l32 rec34 d42 y44 = some r) ?_ ?_
 have hF99 := Mm.ext.refl w.heap.size noX M25
 refine W_seq <|W_reg <|WL_y (Y_move (.int .i64 0) rfl) ?_
 refine WL_nil (nm_then ?_)
 refine W_block ?_
 refine W_loop (fun k109 T' w' => ∃ M101 cs103 d104 y106 y107, Mm.ext w.heap.size noX M25 M101 ∧ St w noX M101 [.row v33 3 1, .box b22 cs27 61, .box b17 cs103 117, .stk u1_19 3 1 x1_19, .box b4 cx1 64] w' ∧ rep M101 cs103 d104 ∧ sl cs103 (0 + 160) 1 = [u1_19] ∧ T' 5 = .pointer (some ⟨b17, 0, none⟩) ∧ T' 6 = v33 ∧ T' 7 = .pointer (some ⟨b22, 0, none⟩) ∧ T' 8 = .int .i64 y106 ∧ T' 21 = .int .i64 y107 ∧ gorder_l3 fu d28 l32 rec34 k109 d104 y106 y107 = some r) fu ?_ ?_ ?_
 exact ⟨M25, cs29, d30, ((-1) : Int), (0 : Int), (Mm.ext.refl _ _ _), hS, hb29, hp31, hT26_5, hT26_6, hT26_7, rfl, rfl, hz⟩
 rintro T' w' ⟨_, _, _, _, _, _, _, _, _, _, _, _, _, _, hz⟩
 rw [gorder_l3] at hz
 cases hz
 intro k109
 rintro T102 w100 ⟨M101, cs103, d104, y106, y107, hx111, hS, hb103, hp105, hT102_5, hT102_6, hT102_7, hT102_8, hT102_21, hz⟩
 replace hcx1 := Rep.mono hx111.1 hcx1
 replace f19_1 := skr.mono hx111.1 f19_1
 replace hb27 := Rep.mono hx111.1 hb27
 replace hv33 := repL.mono hx111.1 hv33
 replace hE := Mm.ext.trans hE hx111
 replace hF36 := Mm.ext.trans hF36 hx111
 replace hF99 := Mm.ext.trans hF99 hx111
 have hF110 := hx111
 rw [gorder_l3] at hz
 obtain ⟨rec108, hrec108⟩ : ∃ f, f = gorder_l3 fu d28 l32 rec34 k109 := ⟨_, rfl⟩
 rw [← hrec108] at hz
 refine W_seq <|W_reg <|WL_y (Y_lss hT102_21 rfl) ?_
 refine WL_nil (nm_then ?_)
 refine W_seq ?_
 refine W_cond rfl (fun hc112 => ?_) (fun hc112 => ?_)
 replace hz := bif_ok_t hz hc112
 refine W_skip (nm_then ?_)
 refine W_seqJ (fun T' w' => ∃ M114 cs116 d117 y119, Mm.ext w.heap.size noX M101 M114 ∧ St w noX M114 [.row v33 3 1, .box b22 cs27 61, .box b17 cs116 117, .stk u1_19 3 1 x1_19, .box b4 cx1 64] w' ∧ rep M114 cs116 d117 ∧ sl cs116 (0 + 160) 1 = [u1_19] ∧ T' 5 = .pointer (some ⟨b17, 0, none⟩) ∧ T' 6 = v33 ∧ T' 7 = .pointer (some ⟨b22, 0, none⟩) ∧ T' 8 = .int .i64 y119 ∧ T' 21 = .int .i64 y107 ∧ gorder_j4 y107 rec108 d117 y119 = some r) ?_ ?_
 have hF121 := Mm.ext.refl w.heap.size noX M101
 refine W_block <|W_seq <|W_reg <|WL_y (Y_move (.int .i64 y107) hT102_21) <|WL_y (Y_assign (.int .i64 y107) rfl) ?_
 refine WL_nil (nm_then ?_)
 refine W_seqJ (fun T' w' => ∃ M123 cs125 d126 c128, Mm.ext w.heap.size noX M101 M123 ∧ St w noX M123 [.row v33 3 1, .box b22 cs27 61, .box b17 cs125 117, .stk u1_19 3 1 x1_19, .box b4 cx1 64] w' ∧ rep M123 cs125 d126 ∧ sl cs125 (0 + 160) 1 = [u1_19] ∧ T' 5 = .pointer (some ⟨b17, 0, none⟩) ∧ T' 6 = v33 ∧ T' 7 = .pointer (some ⟨b22, 0, none⟩) ∧ T' 8 = .int .i64 y106 ∧ T' 9 = .int .i64 y107 ∧ T' 21 = .int .i64 y107 ∧ T' 52 = .bool c128 ∧ gorder_j5 fu d28 l32 rec34 y106 y107 rec108 d126 c128 = some r) ?_ ?_
 have hF131 := Mm.ext.refl w.heap.size noX M101
 refine W_reg <|WL_y (Y_move (.pointer (some ⟨b17, 0, none⟩)) hT102_5) <|WL_y (Y_move (.int .i64 y107) rfl) <|WL_y (Y_nil rfl) <|WL_y (Y_fa fa117_1 rfl) ?_
 obtain ⟨u132, hx133, hz⟩ := bind_ok hz
 obtain ⟨hx133a, hx133b⟩ := inR_some hx133
 refine WL_y (Y_ixA ia66 rfl rfl hx133a hx133b) ?_
 obtain ⟨x134, hx135, hz⟩ := bind_ok hz
 refine WL_y (Y_ld1 (.int .i64 x134) ts3 rfl (hS.bvB 2 rfl) (vp (k := 1) rfl rfl (GSearch.p1 (rr hb103)) hx135)) <|WL_y (Y_gtr rfl rfl) <|WL_y (Y_move (.bool (decide (x134 > 0))) rfl) ?_
 rcases ic hz with ⟨hc136, hz⟩ | ⟨hc136, hz⟩ <;> rw [hc136]
 refine WL_gy rfl rfl (Y_move (.int .i64 y107) rfl) ?_
 obtain ⟨u137, hx138, hz⟩ := bind_ok hz
 obtain ⟨hx138a, hx138b⟩ := inR_some hx138
 refine WL_gy rfl rfl (Y_ixA ia61 hT102_7 rfl hx138a hx138b) ?_
 obtain ⟨x139, hx140, hz⟩ := bind_ok hz
 refine WL_gy rfl rfl (Y_ld1 (.bool x139) ts4 rfl (hS.bvB 1 rfl) (vp (k := 1) rfl rfl (rr hb27) hx140)) <|WL_gy rfl rfl (Y_not rfl) <|WL_d 2 rfl ?_
 rcases ic hz with ⟨hc141, hz⟩ | ⟨hc141, hz⟩ <;> rw [hc141]
 refine WL_gy rfl rfl (Y_move (.pointer (some ⟨b17, 0, none⟩)) hT102_5) <|WL_gy rfl rfl (Y_move (.int .i64 y107) rfl) <|WL_gy rfl rfl (Y_nil rfl) <|WL_gy rfl rfl (Y_fa fa117_5 rfl) ?_
 obtain ⟨u142, hx143, hz⟩ := bind_ok hz
 obtain ⟨hx143a, hx143b⟩ := inR_some hx143
 refine WL_gy rfl rfl (Y_ixA ia66 rfl rfl hx143a hx143b) ?_
 obtain ⟨x144, hx145, hz⟩ := bind_ok hz
 refine WL_gy rfl rfl (Y_ld1 (.int .i64 x144) ts3 rfl (hS.bvB 2 rfl) (vp (k := 1) rfl rfl (GSearch.p5 (rr hb103)) hx145)) <|WL_gy rfl rfl (Y_move (.int .i64 y107) rfl) <|WL_gy rfl rfl (Y_eql rfl rfl) <|WL_d 2 rfl ?_
 rcases ic hz with ⟨hc146, hz⟩ | ⟨hc146, hz⟩ <;> rw [hc146]
 refine WL_gy rfl rfl (Y_move (.pointer (some ⟨b17, 0, none⟩)) hT102_5) <|WL_gy rfl rfl (Y_move (.int .i64 y107) rfl) ?_
 have ha147 := (rr hb27)
 refine WL_gy rfl rfl (Y_ldn ta61 hT102_7 (hS.bvB 1 rfl) (Rep.len ha147)) ?_
 obtain ⟨r150, hr149, hz⟩ := bind_ok hz
 refine WL_g rfl rfl (O_lend (vs := [.pointer (some ⟨b17, 0, none⟩), .int .i64 y107, .agg (sl cs27 (0) 32).toArray]) (L := [.box b17 cs103 117]) (R := [.row v33 3 1, .box b22 cs27 61, .stk u1_19 3 1 x1_19, .box b4 cx1 64]) (rv := (fun M' u L' => u = .bool r150 ∧ L' = [.box b17 cs103 117])) cb87 (args3 rfl rfl rfl) hS (hS.sel [2, 0, 1, 3, 4] (by decide) rfl) (fun hS => free_ok hS hb103 ha147 hr149) ?_)
 rintro u149 M149 w148 L149 hx149 ⟨rfl, hL149⟩ hS
 replace hS := hS _ hL149
 replace hcx1 := Rep.mono hx149.1 hcx1
 replace f19_1 := skr.mono hx149.1 f19_1
 replace hb27 := Rep.mono hx149.1 hb27
 replace hv33 := repL.mono hx149.1 hv33
 replace hb103 := Rep.mono hx149.1 hb103
 replace ha147 := Rep.mono hx149.1 ha147
 replace hE := Mm.ext.trans hE hx149
 replace hF36 := Mm.ext.trans hF36 hx149
 replace hF99 := Mm.ext.trans hF99 hx149
 replace hF110 := Mm.ext.trans hF110 hx149
 replace hF121 := Mm.ext.trans hF121 hx149
 replace hF131 := Mm.ext.trans hF131 hx149
 refine WL_y (Y_pick_t (.bool r150) rfl rfl) ?_
 refine WL_nil (nm_then ?_)
 exact ⟨M149, cs103, d104, r150, hF131, (hS.sel (H' := [.row v33 3 1, .box b22 cs27 61, .box b17 cs103 117, .stk u1_19 3 1 x1_19, .box b4 cx1 64]) [1, 2, 0, 3, 4] (by decide) rfl), hb103, hp105, hT102_5, hT102_6, hT102_7, hT102_8, rfl, hT102_21, rfl, hz⟩
 refine WL_d 5 rfl ?_
 refine WL_nil (nm_then ?_)
 exact ⟨M101, cs103, d104, false, hF131, hS, hb103, hp105, hT102_5, hT102_6, hT102_7, hT102_8, rfl, hT102_21, rfl, hz⟩
 refine WL_d 15 rfl ?_
 refine WL_nil (nm_then ?_)
 exact ⟨M101, cs103, d104, false, hF131, hS, hb103, hp105, hT102_5, hT102_6, hT102_7, hT102_8, rfl, hT102_21, rfl, hz⟩
 refine WL_d 21 rfl ?_
 refine WL_nil (nm_then ?_)
 exact ⟨M101, cs103, d104, false, hF131, hS, hb103, hp105, hT102_5, hT102_6, hT102_7, hT102_8, rfl, hT102_21, rfl, hz⟩
 rintro T124 w122 ⟨M123, cs125, d126, c128, hx129, hS, hb125, hp127, hT124_5, hT124_6, hT124_7, hT124_8, hT124_9, hT124_21, hT124_52, hz⟩
 replace hcx1 := Rep.mono hx129.1 hcx1
 replace f19_1 := skr.mono hx129.1 f19_1
 replace hb27 := Rep.mono hx129.1 hb27
 replace hv33 := repL.mono hx129.1 hv33
 replace hE := Mm.ext.trans hE hx129
 replace hF36 := Mm.ext.trans hF36 hx129
 replace hF99 := Mm.ext.trans hF99 hx129
 replace hF110 := Mm.ext.trans hF110 hx129
 replace hF121 := Mm.ext.trans hF121 hx129
 rw [gorder_j5] at hz
 refine W_cond hT124_52 (fun hc130 => ?_) (fun hc130 => ?_)
 replace hz := bif_ok_t hz hc130
 refine W_seq <|W_reg <|WL_y (Y_move (.int .i64 y107) hT124_9) <|WL_y (Y_assign (.int .i64 y107) rfl) ?_
 refine WL_nil (nm_then ?_)
 refine W_exit <|ex_blk rfl <|ex_then <|ex_then <|ex_hit ?_
 refine (nm_then ?_)
 exact ⟨M123, cs125, d126, y107, hF99, hS, hb125, hp127, hT124_5, hT124_6, hT124_7, rfl, hz⟩
 replace hz := bif_ok_f hz hc130
 refine W_skip (nm_blk ?_)
 refine (nm_then ?_)
 exact ⟨M123, cs125, d126, y106, hF121, hS, hb125, hp127, hT124_5, hT124_6, hT124_7, hT124_8, hT124_21, hz⟩
 rintro T115 w113 ⟨M114, cs116, d117, y119, hx120, hS, hb116, hp118, hT115_5, hT115_6, hT115_7, hT115_8, hT115_21, hz⟩
 replace hcx1 := Rep.mono hx120.1 hcx1
 replace f19_1 := skr.mono hx120.1 f19_1
 replace hb27 := Rep.mono hx120.1 hb27
 replace hv33 := repL.mono hx120.1 hv33
 replace hE := Mm.ext.trans hE hx120
 replace hF36 := Mm.ext.trans hF36 hx120
 replace hF99 := Mm.ext.trans hF99 hx120
 replace hF110 := Mm.ext.trans hF110 hx120
 rw [gorder_j4] at hz
 refine W_reg <|WL_y (Y_add hT115_21 rfl) <|WL_y (Y_move (.int .i64 (IntKind.wrap .i64 (y107 + 1))) rfl) ?_
 refine WL_nil (nm_then ?_)
 exact ⟨M114, cs116, d117, y119, (IntKind.wrap .i64 (y107 + 1)), hF110, hS, hb116, hp118, hT115_5, hT115_6, hT115_7, hT115_8, rfl, (by rw [← hrec108]; exact hz)⟩
 replace hz := bif_ok_f hz hc112
 refine W_exit <|ex_then <|ex_then <|ex_hit ?_
 refine (nm_then ?_)
 exact ⟨M101, cs103, d104, y106, hF99, hS, hb103, hp105, hT102_5, hT102_6, hT102_7, hT102_8, hz⟩
 rintro T40 w38 ⟨M39, cs41, d42, y44, hx45, hS, hb41, hp43, hT40_5, hT40_6, hT40_7, hT40_8, hz⟩
 replace hcx1 := Rep.mono hx45.1 hcx1
 replace f19_1 := skr.mono hx45.1 f19_1
 replace hb27 := Rep.mono hx45.1 hb27
 replace hv33 := repL.mono hx45.1 hv33
 replace hE := Mm.ext.trans hE hx45
 replace hF36 := Mm.ext.trans hF36 hx45
 rw [gorder_j1] at hz
 refine W_seq <|W_seq <|W_reg <|WL_y (Y_move (.int .i64 y44) hT40_8) <|WL_y (Y_lss rfl rfl) ?_
 refine WL_nil (nm_then ?_)
 refine W_cond rfl (fun hc46 => ?_) (fun hc46 => ?_)
 replace hz := bif_ok_t hz hc46
 refine W_seq <|W_reg <|WL_y (Y_move (v33) hT40_6) <|WL_y (Y_assign (v33) rfl) ?_
 refine WL_nil (nm_then ?_)
 cases hz
 exact W_ret (rt_then (rt_blk (rt_then (rt_blk (R_t1 rfl rfl (Gives.mk (St.dropB (St.drop (St.dropB (St.dropB (St.drop hS) hb22) hb17)) hb4) hE hv33))))))
 replace hz := bif_ok_f hz hc46
 refine W_skip (nm_then ?_)
 refine W_seq <|W_reg <|WL_y (Y_move (.int .i64 0) rfl) ?_
 refine WL_nil (nm_then ?_)
 refine W_block ?_
 refine W_loop (fun k56 T' w' => ∃ M48 cs50 d51 v53 l52 y54, Mm.ext w.heap.size noX M39 M48 ∧ St w noX M48 [.row v53 3 1, .box b22 cs50 61, .box b17 cs41 117, .stk u1_19 3 1 x1_19, .box b4 cx1 64] w' ∧ rep M48 cs50 d51 ∧ repL M48 v53 l52 ∧ T' 5 = .pointer (some ⟨b17, 0, none⟩) ∧ T' 6 = v53 ∧ T' 7 = .pointer (some ⟨b22, 0, none⟩) ∧ T' 8 = .int .i64 y44 ∧ T' 58 = .int .i64 y54 ∧ gorder_l2 rec34 d42 y44 k56 d51 l52 y54 = some r) fu ?_ ?_ ?_
 exact ⟨M39, cs27, d28, v33, l32, (0 : Int), (Mm.ext.refl _ _ _), hS, hb27, hv33, hT40_5, hT40_6, hT40_7, hT40_8, rfl, hz⟩
 rintro T' w' ⟨_, _, _, _, _, _, _, _, _, _, _, _, _, _, _, hz⟩
 rw [gorder_l2] at hz
 cases hz
 intro k56
 rintro T49 w47 ⟨M48, cs50, d51, v53, l52, y54, hx58, hS, hb50, hv53, hT49_5, hT49_6, hT49_7, hT49_8, hT49_58, hz⟩
 replace hcx1 := Rep.mono hx58.1 hcx1
 replace f19_1 := skr.mono hx58.1 f19_1
 replace hb41 := Rep.mono hx58.1 hb41
 replace hE := Mm.ext.trans hE hx58
 replace hF36 := Mm.ext.trans hF36 hx58
 have hF57 := hx58
 rw [gorder_l2] at hz
 obtain ⟨rec55, hrec55⟩ : ∃ f, f = gorder_l2 rec34 d42 y44 k56 := ⟨_, rfl⟩
 rw [← hrec55] at hz
 refine W_seq <|W_reg <|WL_y (Y_lss hT49_58 rfl) ?_
 refine WL_nil (nm_then ?_)
 refine W_seq ?_
 refine W_cond rfl (fun hc59 => ?_) (fun hc59 => ?_)
 replace hz := bif_ok_t hz hc59
 refine W_skip (nm_then ?_)
 refine W_seqJ (fun T' w' => ∃ M61 cs63 d64 v66 l65, Mm.ext w.heap.size noX M48 M61 ∧ St w noX M61 [.row v66 3 1, .box b22 cs63 61, .box b17 cs41 117, .stk u1_19 3 1 x1_19, .box b4 cx1 64] w' ∧ rep M61 cs63 d64 ∧ repL M61 v66 l65 ∧ T' 5 = .pointer (some ⟨b17, 0, none⟩) ∧ T' 6 = v66 ∧ T' 7 = .pointer (some ⟨b22, 0, none⟩) ∧ T' 8 = .int .i64 y44 ∧ T' 58 = .int .i64 y54 ∧ gorder_j2 y54 rec55 d64 l65 = some r) ?_ ?_
 have hF68 := Mm.ext.refl w.heap.size noX M48
 refine W_block <|W_seq <|W_reg <|WL_y (Y_move (.int .i64 y54) hT49_58) <|WL_y (Y_assign (.int .i64 y54) rfl) ?_
 refine WL_nil (nm_then ?_)
 refine W_seqJ (fun T' w' => ∃ M70 c72, Mm.ext w.heap.size noX M48 M70 ∧ St w noX M70 [.row v53 3 1, .box b22 cs50 61, .box b17 cs41 117, .stk u1_19 3 1 x1_19, .box b4 cx1 64] w' ∧ T' 5 = .pointer (some ⟨b17, 0, none⟩) ∧ T' 6 = v53 ∧ T' 7 = .pointer (some ⟨b22, 0, none⟩) ∧ T' 8 = .int .i64 y44 ∧ T' 10 = .int .i64 y54 ∧ T' 58 = .int .i64 y54 ∧ T' 77 = .bool c72 ∧ gorder_j3 d51 l52 y54 rec55 c72 = some r) ?_ ?_
 have hF89 := Mm.ext.refl w.heap.size noX M48
 refine W_reg <|WL_y (Y_move (.pointer (some ⟨b17, 0, none⟩)) hT49_5) <|WL_y (Y_move (.int .i64 y54) rfl) <|WL_y (Y_nil rfl) <|WL_y (Y_fa fa117_1 rfl) ?_
 obtain ⟨u90, hx91, hz⟩ := bind_ok hz
 obtain ⟨hx91a, hx91b⟩ := inR_some hx91
 refine WL_y (Y_ixA ia66 rfl rfl hx91a hx91b) ?_
 obtain ⟨x92, hx93, hz⟩ := bind_ok hz
 refine WL_y (Y_ld1 (.int .i64 x92) ts3 rfl (hS.bvB 2 rfl) (vp (k := 1) rfl rfl (GSearch.p1 (rr hb41)) hx93)) <|WL_y (Y_gtr rfl rfl) <|WL_y (Y_move (.bool (decide (x92 > 0))) rfl) ?_
 rcases ic hz with ⟨hc94, hz⟩ | ⟨hc94, hz⟩ <;> rw [hc94]
 refine WL_gy rfl rfl (Y_move (.pointer (some ⟨b17, 0, none⟩)) hT49_5) <|WL_gy rfl rfl (Y_move (.int .i64 y54) rfl) <|WL_gy rfl rfl (Y_nil rfl) <|WL_gy rfl rfl (Y_fa fa117_5 rfl) ?_
 obtain ⟨u95, hx96, hz⟩ := bind_ok hz
 obtain ⟨hx96a, hx96b⟩ := inR_some hx96
 refine WL_gy rfl rfl (Y_ixA ia66 rfl rfl hx96a hx96b) ?_
 obtain ⟨x97, hx98, hz⟩ := bind_ok hz
 refine WL_gy rfl rfl (Y_ld1 (.int .i64 x97) ts3 rfl (hS.bvB 2 rfl) (vp (k := 1) rfl rfl (GSearch.p5 (rr hb41)) hx98)) <|WL_gy rfl rfl (Y_move (.int .i64 y44) hT49_8) <|WL_gy rfl rfl (Y_eql rfl rfl) <|WL_y (Y_pick_t (.bool (x97 == y44)) rfl rfl) ?_
 refine WL_nil (nm_then ?_)
 exact ⟨M48, (x97 == y44), hF89, hS, hT49_5, hT49_6, hT49_7, hT49_8, rfl, hT49_58, rfl, hz⟩
 refine WL_d 9 rfl ?_
 refine WL_nil (nm_then ?_)
 exact ⟨M48, false, hF89, hS, hT49_5, hT49_6, hT49_7, hT49_8, rfl, hT49_58, rfl, hz⟩
 rintro T71 w69 ⟨M70, c72, hx73, hS, hT71_5, hT71_6, hT71_7, hT71_8, hT71_10, hT71_58, hT71_77, hz⟩
 replace hcx1 := Rep.mono hx73.1 hcx1
 replace f19_1 := skr.mono hx73.1 f19_1
 replace hb41 := Rep.mono hx73.1 hb41
 replace hb50 := Rep.mono hx73.1 hb50
 replace hv53 := repL.mono hx73.1 hv53
 replace hE := Mm.ext.trans hE hx73
 replace hF36 := Mm.ext.trans hF36 hx73
 replace hF57 := Mm.ext.trans hF57 hx73
 replace hF68 := Mm.ext.trans hF68 hx73
 rw [gorder_j3] at hz
 refine W_cond hT71_77 (fun hc74 => ?_) (fun hc74 => ?_)
 replace hz := bif_ok_t hz hc74
 refine W_seq <|W_reg <|WL_y (Y_move (.int .i64 y54) hT71_10) ?_
 obtain ⟨u75, hx76, hz⟩ := bind_ok hz
 obtain ⟨hx76a, hx76b⟩ := inR_some hx76
 refine WL_y (Y_ixA ia61 hT71_7 rfl hx76a hx76b) ?_
 obtain ⟨x79, hx80, hz⟩ := bind_ok hz
 obtain ⟨a81, hx82, hz⟩ := bind_ok hz
 obtain ⟨d83, hd78, hz⟩ := bind_ok hz
 refine WL_c (O_sx 1 1 hS rfl hb50 rfl rfl (rb true : rep M70 _ _) rfl rfl (vu (k := 1) rfl rfl (rr hb50) (Lf (vp (k := 1) rfl rfl (rr hb50) hx80) (rb true : rep M70 _ _)) hx82) hd78 ?_)
 intro cs78 w77 hb78 ha78 hs78 hS
 refine WL_nil (nm_then ?_)
 refine W_reg <|WL_y (Y_move (v53) hT71_6) <|WL_y (Y_move (.int .i64 y54) hT71_10) ?_
 refine WL_c (O_bslice (α := Int) (l := ([y54] : List Int)) [.int .i64 y54] tl27 (bpc rfl bp0) rfl rfl (by decide) (by decide) (by decide) hS (brc (ri y54 : rep M70 _ _) br0) ?_)
 intro v85 M85 w84 hx85 hv85 hS
 replace hcx1 := Rep.mono hx85.1 hcx1
 replace f19_1 := skr.mono hx85.1 f19_1
 replace hb41 := Rep.mono hx85.1 hb41
 replace hv53 := repL.mono hx85.1 hv53
 replace hb78 := Rep.mono hx85.1 hb78
 replace hE := Mm.ext.trans hE hx85
 replace hF36 := Mm.ext.trans hF36 hx85
 replace hF57 := Mm.ext.trans hF57 hx85
 replace hF68 := Mm.ext.trans hF68 hx85
 obtain ⟨l88, hr87, hz⟩ := bind_ok hz
 obtain ⟨hy87, hs87⟩ := app_some hr87
 refine WL_c (O_app (α := Int) (j := 0) tp27 hS rfl rfl rfl hv53 hv85 hy87 ?_)
 intro v87 M87 w86 hx87 hv87 hS
 rw [← hs87] at hv87
 clear hr87 hs87
 replace hcx1 := Rep.mono hx87.1 hcx1
 replace f19_1 := skr.mono hx87.1 f19_1
 replace hb41 := Rep.mono hx87.1 hb41
 replace hv53 := repL.mono hx87.1 hv53
 replace hb78 := Rep.mono hx87.1 hb78
 replace hv85 := repL.mono hx87.1 hv85
 replace hE := Mm.ext.trans hE hx87
 replace hF36 := Mm.ext.trans hF36 hx87
 replace hF57 := Mm.ext.trans hF57 hx87
 replace hF68 := Mm.ext.trans hF68 hx87
 refine WL_y (Y_assign (v87) rfl) ?_
 refine WL_nil (nm_blk ?_)
 refine (nm_then ?_)
 exact ⟨M87, cs78, d83, v87, l88, hF68, hS, hb78, hv87, hT71_5, rfl, hT71_7, hT71_8, hT71_58, hz⟩
 replace hz := bif_ok_f hz hc74
 refine W_skip (nm_blk ?_)
 refine (nm_then ?_)
 exact ⟨M70, cs50, d51, v53, l52, hF68, hS, hb50, hv53, hT71_5, hT71_6, hT71_7, hT71_8, hT71_58, hz⟩
 rintro T62 w60 ⟨M61, cs63, d64, v66, l65, hx67, hS, hb63, hv66, hT62_5, hT62_6, hT62_7, hT62_8, hT62_58, hz⟩
 replace hcx1 := Rep.mono hx67.1 hcx1
 replace f19_1 := skr.mono hx67.1 f19_1
 replace hb41 := Rep.mono hx67.1 hb41
 replace hE := Mm.ext.trans hE hx67
 replace hF36 := Mm.ext.trans hF36 hx67
 replace hF57 := Mm.ext.trans hF57 hx67
 rw [gorder_j2] at hz
 refine W_reg <|WL_y (Y_add hT62_58 rfl) <|WL_y (Y_move (.int .i64 (IntKind.wrap .i64 (y54 + 1))) rfl) ?_
 refine WL_nil (nm_then ?_)
 exact ⟨M61, cs63, d64, v66, l65, (IntKind.wrap .i64 (y54 + 1)), hF57, hS, hb63, hv66, hT62_5, hT62_6, hT62_7, hT62_8, rfl, (by rw [← hrec55]; exact hz)⟩
 replace hz := bif_ok_f hz hc59
 refine W_exit <|ex_then <|ex_then <|ex_hit ?_
 refine (nm_blk ?_)
 refine (nm_then ?_)
 exact ⟨M48, cs50, d51, cs41, d42, v53, l52, hF36, hS, hb50, hb41, hp43, hv53, hT49_5, hT49_6, hT49_7, (by rw [← hrec34]; exact hz)⟩
def reaches_j1 (y43 : Int) (rec44 : (Vector Bool 32) → Bool → Int → Option (Vector Bool 32)) (d53 : Vector Bool 32) (c54 : Bool) : Option (Vector Bool 32) :=
 rec44 d53 c54 (IntKind.wrap .i64 (y43 + 1))
def reaches_j3 (y73 : Int) (rec74 : (Vector Bool 32) → Bool → Int → Option (Vector Bool 32)) (d83 : Vector Bool 32) (c84 : Bool) : Option (Vector Bool 32) :=
 rec74 d83 c84 (IntKind.wrap .i64 (y73 + 1))
def reaches_j4 (d71 : Vector Bool 32) (c72 : Bool) (y73 : Int) (rec74 : (Vector Bool 32) → Bool → Int → Option (Vector Bool 32)) (x88 : Int) (c92 : Bool) : Option (Vector Bool 32) :=
 (bif c92 then
 (inR x88 32).bind fun _ =>
 (idxV d71 x88).bind fun x99 =>
 (setV d71 x88 true).bind fun a101 =>
 (some a101).bind fun d103 =>
 reaches_j3 y73 rec74 d103 true
 else
 reaches_j3 y73 rec74 d71 c72)
def reaches_l3 (y43 : Int) (rec44 : (Vector Bool 32) → Bool → Int → Option (Vector Bool 32)) (x63 : List Int) : Nat → (Vector Bool 32) → Bool → Int → Option (Vector Bool 32)
 | 0, _, _, _ => none
 | n + 1, d71, c72, y73 =>
 (bif decide (y73 < (x63.length : Int)) then
 (idx x63 y73).bind fun x88 =>
 (some (decide (0 ≤ x88 ∧ x88 < 32))).bind fun r107 =>
 (bif r107 then
 (inR x88 32).bind fun _ =>
 (idxV d71 x88).bind fun x111 =>
 reaches_j4 d71 c72 y73 (reaches_l3 y43 rec44 x63 n) x88 (!x111)
 else
 reaches_j4 d71 c72 y73 (reaches_l3 y43 rec44 x63 n) x88 false)
 else
 reaches_j1 y43 rec44 d71 c72)
def reaches_j2 (fu : Nat) (x1 : GGraph) (d41 : Vector Bool 32) (c42 : Bool) (y43 : Int) (rec44 : (Vector Bool 32) → Bool → Int → Option (Vector Bool 32)) : Option (Vector Bool 32) :=
 (inR y43 32).bind fun _ =>
 (idxV x1.deps y43).bind fun x63 =>
 reaches_l3 y43 rec44 x63 fu d41 c42 0
def reaches_j5 (fu : Nat) (x1 : GGraph) (d41 : Vector Bool 32) (c42 : Bool) (y43 : Int) (rec44 : (Vector Bool 32) → Bool → Int → Option (Vector Bool 32)) (c117 : Bool) : Option (Vector Bool 32) :=
 (bif c117 then
 reaches_j1 y43 rec44 d41 c42
 else
 reaches_j2 fu x1 d41 c42 y43 rec44)
def reaches_l2 (fu : Nat) (x1 : GGraph) (rec32 : (Vector Bool 32) → Bool → Option (Vector Bool 32)) : Nat → (Vector Bool 32) → Bool → Int → Option (Vector Bool 32)
 | 0, _, _, _ => none
 | n + 1, d41, c42, y43 =>
 (bif decide (y43 < 32) then
 (inR y43 32).bind fun _ =>
 (idxV d41 y43).bind fun x123 =>
 (bif !x123 then
 reaches_j5 fu x1 d41 c42 y43 (reaches_l2 fu x1 rec32 n) true
 else
 (inR y43 32).bind fun _ =>
 (idxV x1.known y43).bind fun x128 =>
 reaches_j5 fu x1 d41 c42 y43 (reaches_l2 fu x1 rec32 n) (!x128))
 else
 rec32 d41 c42)
def reaches_l1 (fu : Nat) (x1 : GGraph) : Nat → (Vector Bool 32) → Bool → Option (Vector Bool 32)
 | 0, _, _ => none
 | n + 1, d30, c31 =>
 (bif c31 then
 reaches_l2 fu x1 (reaches_l1 fu x1 n) fu d30 false 0
 else
 (some d30).bind fun d133 =>
 some d133)
def reachesD (fu : Nat) (x1 : GGraph) (x2 : Int) : Option (Vector Bool 32) :=
 (some (decide (0 ≤ x2 ∧ x2 < 32))).bind fun r11 =>
 (bif !r11 then
 (some (Zr.zd : Vector Bool 32)).bind fun d16 =>
 some d16
 else
 (inR x2 32).bind fun _ =>
 (idxV (Zr.zd : Vector Bool 32) x2).bind fun x21 =>
 (setV (Zr.zd : Vector Bool 32) x2 true).bind fun a23 =>
 (some a23).bind fun d25 =>
 reaches_l1 fu x1 fu d25 true)
set_option maxRecDepth 100000 in
set_option maxHeartbeats 4000000 in
theorem reaches_ok {M : Mm} {w : World} {cx1 : List Value} {x1 : GGraph} {x2 : Int} {fu : Nat} {r : (Vector Bool 32)} (hA : Agree M w) (hcx1 : rep M cx1 x1) (hz : reachesD fu x1 x2 = some r) :
    Calls Try.prog 79 #[.agg cx1.toArray, .int .i64 x2] w (Gives M w (fun M' u => ∃ cs, u = .agg cs.toArray ∧ rep M' cs r)) := by
 refine calls_W Try.func79 rfl 53 rfl rfl (by kernel_rfl) fun T hT => ?_
 have hT_0 : T 0 = .agg cx1.toArray := hT 0
 have hT_1 : T 1 = .int .i64 x2 := hT 1
 clear hT
 have hE := Mm.ext.refl w.heap.size noX M
 have hS : St w noX M [] w := St.start hA
 rw [reachesD] at hz
 refine W_seq <|W_reg ?_
 refine WL_c (O_box (v := .agg cx1.toArray) (cs := cx1) hT_0 rfl hS ?_)
 intro b4 w3 hb4 hS
 refine WL_c (O_alloc tz61 hS ?_)
 intro b6 w5 hb6 hS
 have zb6 : rep M (Zr.zc (Vector Bool 32)) (Zr.zd : Vector Bool 32) := Zr.zr
 refine WL_nil (nm_then ?_)
 refine W_seq <|W_reg ?_
 refine WL_c (O_alloc tz61 hS ?_)
 intro b8 w7 hb8 hS
 have zb8 : rep M (Zr.zc (Vector Bool 32)) (Zr.zd : Vector Bool 32) := Zr.zr
 refine WL_nil (nm_then ?_)
 refine W_seq <|W_seq <|W_reg <|WL_y (Y_move (.int .i64 x2) hT_1) ?_
 obtain ⟨r11, hr10, hz⟩ := bind_ok hz
 replace hr10 := Option.some.inj hr10
 refine WL_c (O_val (vs := [.int .i64 x2]) (v := .bool r11) cb66 (args1 rfl) hS (hr10 ▸ (c_isTxn)) ?_)
 intro w9 hS
 refine WL_y (Y_not rfl) ?_
 refine WL_nil (nm_then ?_)
 refine W_cond rfl (fun hc12 => ?_) (fun hc12 => ?_)
 replace hz := bif_ok_t hz hc12
 refine W_seq <|W_reg ?_
 have ha13 := (rr zb8)
 refine WL_y (Y_ldn ta61 rfl (hS.bvB 0 rfl) (Rep.len ha13)) ?_
 obtain ⟨d16, hd15, hz⟩ := bind_ok hz
 refine WL_c (O_sx 1 32 hS rfl zb6 rfl rfl ha13 rfl rfl (Lf (rr zb6) ha13) hd15 ?_)
 intro cs15 w14 hb15 ha15 hs15 hS
 refine WL_nil (nm_then ?_)
 cases hz
 exact W_ret (rt_then (R_c (j := 1) rfl rfl (by rw [Rep.len hb15]; exact ta61) hS rfl (Gives.mk (St.dropB (St.dropB (St.dropB hS hb8) hb6) hb4) hE ⟨_, rfl, hb15⟩)))
 replace hz := bif_ok_f hz hc12
 refine W_skip (nm_then ?_)
 refine W_seq <|W_reg <|WL_y (Y_move (.int .i64 x2) hT_1) ?_
 obtain ⟨u17, hx18, hz⟩ := bind_ok hz
 obtain ⟨hx18a, hx18b⟩ := inR_some hx18
 refine WL_y (Y_ixA ia61 rfl rfl hx18a hx18b) ?_
 obtain ⟨x21, hx22, hz⟩ := bind_ok hz
 obtain ⟨a23, hx24, hz⟩ := bind_ok hz
 obtain ⟨d25, hd20, hz⟩ := bind_ok hz
 refine WL_c (O_sx 0 1 hS rfl zb8 rfl rfl (rb true : rep M _ _) rfl rfl (vu (k := 1) rfl rfl (rr zb8) (Lf (vp (k := 1) rfl rfl (rr zb8) hx22) (rb true : rep M _ _)) hx24) hd20 ?_)
 intro cs20 w19 hb20 ha20 hs20 hS
 refine WL_nil (nm_then ?_)
 refine W_seq <|W_seq <|W_reg <|WL_y (Y_assign (.bool true) rfl) ?_
 refine WL_nil (nm_then ?_)
 refine W_block ?_
 refine W_loop (fun k33 T' w' => ∃ M27 cs29 d30 c31, Mm.ext w.heap.size noX M M27 ∧ St w noX M27 [.box b8 cs29 61, .box b6 (Zr.zc (Vector Bool 32)) 61, .box b4 cx1 64] w' ∧ rep M27 cs29 d30 ∧ T' 2 = .pointer (some ⟨b4, 0, none⟩) ∧ T' 4 = .pointer (some ⟨b6, 0, none⟩) ∧ T' 5 = .pointer (some ⟨b8, 0, none⟩) ∧ T' 6 = .bool c31 ∧ reaches_l1 fu x1 k33 d30 c31 = some r) fu ?_ ?_ ?_
 exact ⟨M, cs20, d25, true, (Mm.ext.refl _ _ _), hS, hb20, rfl, rfl, rfl, rfl, hz⟩
 rintro T' w' ⟨_, _, _, _, _, _, _, _, _, _, _, hz⟩
 rw [reaches_l1] at hz
 cases hz
 intro k33
 rintro T28 w26 ⟨M27, cs29, d30, c31, hx35, hS, hb29, hT28_2, hT28_4, hT28_5, hT28_6, hz⟩
 replace hcx1 := Rep.mono hx35.1 hcx1
 replace zb6 := Rep.mono hx35.1 zb6
 replace hE := Mm.ext.trans hE hx35
 have hF34 := hx35
 rw [reaches_l1] at hz
 obtain ⟨rec32, hrec32⟩ : ∃ f, f = reaches_l1 fu x1 k33 := ⟨_, rfl⟩
 rw [← hrec32] at hz
 refine W_seq <|W_seq <|W_reg <|WL_y (Y_move (.bool c31) hT28_6) ?_
 refine WL_nil (nm_then ?_)
 refine W_cond rfl (fun hc36 => ?_) (fun hc36 => ?_)
 replace hz := bif_ok_t hz hc36
 refine W_skip (nm_then ?_)
 refine W_block <|W_seq <|W_reg <|WL_y (Y_assign (.bool false) rfl) ?_
 refine WL_nil (nm_then ?_)
 refine W_seq <|W_reg <|WL_y (Y_move (.int .i64 0) rfl) ?_
 refine WL_nil (nm_then ?_)
 refine W_block ?_
 refine W_loop (fun k45 T' w' => ∃ M38 cs40 d41 c42 y43, Mm.ext w.heap.size noX M27 M38 ∧ St w noX M38 [.box b8 cs40 61, .box b6 (Zr.zc (Vector Bool 32)) 61, .box b4 cx1 64] w' ∧ rep M38 cs40 d41 ∧ T' 2 = .pointer (some ⟨b4, 0, none⟩) ∧ T' 4 = .pointer (some ⟨b6, 0, none⟩) ∧ T' 5 = .pointer (some ⟨b8, 0, none⟩) ∧ T' 6 = .bool c42 ∧ T' 17 = .int .i64 y43 ∧ reaches_l2 fu x1 rec32 k45 d41 c42 y43 = some r) fu ?_ ?_ ?_
 exact ⟨M27, cs29, d30, false, (0 : Int), (Mm.ext.refl _ _ _), hS, hb29, hT28_2, hT28_4, hT28_5, rfl, rfl, hz⟩
 rintro T' w' ⟨_, _, _, _, _, _, _, _, _, _, _, _, _, hz⟩
 rw [reaches_l2] at hz
 cases hz
 intro k45
 rintro T39 w37 ⟨M38, cs40, d41, c42, y43, hx47, hS, hb40, hT39_2, hT39_4, hT39_5, hT39_6, hT39_17, hz⟩
 replace hcx1 := Rep.mono hx47.1 hcx1
 replace zb6 := Rep.mono hx47.1 zb6
 replace hE := Mm.ext.trans hE hx47
 replace hF34 := Mm.ext.trans hF34 hx47
 have hF46 := hx47
 rw [reaches_l2] at hz
 obtain ⟨rec44, hrec44⟩ : ∃ f, f = reaches_l2 fu x1 rec32 k45 := ⟨_, rfl⟩
 rw [← hrec44] at hz
 refine W_seq <|W_reg <|WL_y (Y_lss hT39_17 rfl) ?_
 refine WL_nil (nm_then ?_)
 refine W_seq ?_
 refine W_cond rfl (fun hc48 => ?_) (fun hc48 => ?_)
 replace hz := bif_ok_t hz hc48
 refine W_skip (nm_then ?_)
 refine W_seqJ (fun T' w' => ∃ M50 cs52 d53 c54, Mm.ext w.heap.size noX M38 M50 ∧ St w noX M50 [.box b8 cs52 61, .box b6 (Zr.zc (Vector Bool 32)) 61, .box b4 cx1 64] w' ∧ rep M50 cs52 d53 ∧ T' 2 = .pointer (some ⟨b4, 0, none⟩) ∧ T' 4 = .pointer (some ⟨b6, 0, none⟩) ∧ T' 5 = .pointer (some ⟨b8, 0, none⟩) ∧ T' 6 = .bool c54 ∧ T' 17 = .int .i64 y43 ∧ reaches_j1 y43 rec44 d53 c54 = some r) ?_ ?_
 have hF56 := Mm.ext.refl w.heap.size noX M38
 refine W_block <|W_seq <|W_reg <|WL_y (Y_move (.int .i64 y43) hT39_17) <|WL_y (Y_assign (.int .i64 y43) rfl) ?_
 refine WL_nil (nm_then ?_)
 refine W_seqJ (fun T' w' => ∃ M58, Mm.ext w.heap.size noX M38 M58 ∧ St w noX M58 [.box b8 cs40 61, .box b6 (Zr.zc (Vector Bool 32)) 61, .box b4 cx1 64] w' ∧ T' 2 = .pointer (some ⟨b4, 0, none⟩) ∧ T' 4 = .pointer (some ⟨b6, 0, none⟩) ∧ T' 5 = .pointer (some ⟨b8, 0, none⟩) ∧ T' 6 = .bool c42 ∧ T' 7 = .int .i64 y43 ∧ T' 17 = .int .i64 y43 ∧ reaches_j2 fu x1 d41 c42 y43 rec44 = some r) ?_ ?_
 have hF113 := Mm.ext.refl w.heap.size noX M38
 refine W_seqJ (fun T' w' => ∃ M115 c117, Mm.ext w.heap.size noX M38 M115 ∧ St w noX M115 [.box b8 cs40 61, .box b6 (Zr.zc (Vector Bool 32)) 61, .box b4 cx1 64] w' ∧ T' 2 = .pointer (some ⟨b4, 0, none⟩) ∧ T' 4 = .pointer (some ⟨b6, 0, none⟩) ∧ T' 5 = .pointer (some ⟨b8, 0, none⟩) ∧ T' 6 = .bool c42 ∧ T' 7 = .int .i64 y43 ∧ T' 17 = .int .i64 y43 ∧ T' 30 = .bool c117 ∧ reaches_j5 fu x1 d41 c42 y43 rec44 c117 = some r) ?_ ?_
 have hF120 := Mm.ext.refl w.heap.size noX M38
 refine W_reg <|WL_y (Y_move (.int .i64 y43) rfl) ?_
 obtain ⟨u121, hx122, hz⟩ := bind_ok hz
 obtain ⟨hx122a, hx122b⟩ := inR_some hx122
 refine WL_y (Y_ixA ia61 hT39_5 rfl hx122a hx122b) ?_
 obtain ⟨x123, hx124, hz⟩ := bind_ok hz
 refine WL_y (Y_ld1 (.bool x123) ts4 rfl (hS.bvB 0 rfl) (vp (k := 1) rfl rfl (rr hb40) hx124)) <|WL_y (Y_not rfl) <|WL_y (Y_move (.bool (!x123)) rfl) ?_
 rcases ic hz with ⟨hc125, hz⟩ | ⟨hc125, hz⟩ <;> rw [hc125]
 refine WL_d 6 rfl ?_
 refine WL_nil (nm_then ?_)
 exact ⟨M38, true, hF120, hS, hT39_2, hT39_4, hT39_5, hT39_6, rfl, hT39_17, rfl, hz⟩
 refine WL_gy rfl rfl (Y_move (.int .i64 y43) rfl) <|WL_gy rfl rfl (Y_fa fa64_0 hT39_2) ?_
 obtain ⟨u126, hx127, hz⟩ := bind_ok hz
 obtain ⟨hx127a, hx127b⟩ := inR_some hx127
 refine WL_gy rfl rfl (Y_ixA ia61 rfl rfl hx127a hx127b) ?_
 obtain ⟨x128, hx129, hz⟩ := bind_ok hz
 refine WL_gy rfl rfl (Y_ld1 (.bool x128) ts4 rfl (hS.bvB 2 rfl) (vp (k := 1) rfl rfl (GGraph.p0 (rr hcx1)) hx129)) <|WL_gy rfl rfl (Y_not rfl) <|WL_y (Y_pick_f (.bool (!x128)) rfl rfl) ?_
 refine WL_nil (nm_then ?_)
 exact ⟨M38, (!x128), hF120, hS, hT39_2, hT39_4, hT39_5, hT39_6, rfl, hT39_17, rfl, hz⟩
 rintro T116 w114 ⟨M115, c117, hx118, hS, hT116_2, hT116_4, hT116_5, hT116_6, hT116_7, hT116_17, hT116_30, hz⟩
 replace hcx1 := Rep.mono hx118.1 hcx1
 replace zb6 := Rep.mono hx118.1 zb6
 replace hb40 := Rep.mono hx118.1 hb40
 replace hE := Mm.ext.trans hE hx118
 replace hF34 := Mm.ext.trans hF34 hx118
 replace hF46 := Mm.ext.trans hF46 hx118
 replace hF56 := Mm.ext.trans hF56 hx118
 replace hF113 := Mm.ext.trans hF113 hx118
 rw [reaches_j5] at hz
 refine W_cond hT116_30 (fun hc119 => ?_) (fun hc119 => ?_)
 replace hz := bif_ok_t hz hc119
 refine W_exit <|ex_then <|ex_hit ?_
 refine (nm_then ?_)
 exact ⟨M115, cs40, d41, c42, hF56, hS, hb40, hT116_2, hT116_4, hT116_5, hT116_6, hT116_17, hz⟩
 replace hz := bif_ok_f hz hc119
 refine W_skip (nm_then ?_)
 exact ⟨M115, hF113, hS, hT116_2, hT116_4, hT116_5, hT116_6, hT116_7, hT116_17, hz⟩
 rintro T59 w57 ⟨M58, hx60, hS, hT59_2, hT59_4, hT59_5, hT59_6, hT59_7, hT59_17, hz⟩
 replace hcx1 := Rep.mono hx60.1 hcx1
 replace zb6 := Rep.mono hx60.1 zb6
 replace hb40 := Rep.mono hx60.1 hb40
 replace hE := Mm.ext.trans hE hx60
 replace hF34 := Mm.ext.trans hF34 hx60
 replace hF46 := Mm.ext.trans hF46 hx60
 replace hF56 := Mm.ext.trans hF56 hx60
 rw [reaches_j2] at hz
 refine W_seq <|W_reg <|WL_y (Y_move (.int .i64 y43) hT59_7) <|WL_y (Y_fa fa64_1 hT59_2) ?_
 obtain ⟨u61, hx62, hz⟩ := bind_ok hz
 obtain ⟨hx62a, hx62b⟩ := inR_some hx62
 refine WL_y (Y_ixA ia62 rfl rfl hx62a hx62b) ?_
 obtain ⟨x63, hx64, hz⟩ := bind_ok hz
 obtain ⟨v65, ev65, hv65⟩ := (vp (k := 1) rfl rfl (GGraph.p1 (rr hcx1)) hx64)
 refine WL_y (Y_ld1 v65 ts27 rfl (hS.bvB 2 rfl) ev65) ?_
 obtain ⟨a66, c66, hv66, _⟩ := repL_shape hv65
 refine WL_y (Y_lenL Try.underlying27 (tr2 hv66 rfl)) <|WL_y (Y_move (.int .i64 0) rfl) ?_
 refine WL_nil (nm_then ?_)
 refine W_block ?_
 refine W_loop (fun k75 T' w' => ∃ M68 cs70 d71 c72 y73, Mm.ext w.heap.size noX M58 M68 ∧ St w noX M68 [.box b8 cs70 61, .box b6 (Zr.zc (Vector Bool 32)) 61, .box b4 cx1 64] w' ∧ rep M68 cs70 d71 ∧ T' 2 = .pointer (some ⟨b4, 0, none⟩) ∧ T' 4 = .pointer (some ⟨b6, 0, none⟩) ∧ T' 5 = .pointer (some ⟨b8, 0, none⟩) ∧ T' 6 = .bool c72 ∧ T' 17 = .int .i64 y43 ∧ T' 34 = v65 ∧ T' 35 = .int .i64 (x63.length : Int) ∧ T' 36 = .int .i64 y73 ∧ reaches_l3 y43 rec44 x63 k75 d71 c72 y73 = some r) fu ?_ ?_ ?_
 exact ⟨M58, cs40, d41, c42, (0 : Int), (Mm.ext.refl _ _ _), hS, hb40, hT59_2, hT59_4, hT59_5, hT59_6, hT59_17, rfl, rfl, rfl, hz⟩
 rintro T' w' ⟨_, _, _, _, _, _, _, _, _, _, _, _, _, _, _, _, hz⟩
 rw [reaches_l3] at hz
 cases hz
 intro k75
 rintro T69 w67 ⟨M68, cs70, d71, c72, y73, hx77, hS, hb70, hT69_2, hT69_4, hT69_5, hT69_6, hT69_17, hT69_34, hT69_35, hT69_36, hz⟩
 replace hcx1 := Rep.mono hx77.1 hcx1
 replace zb6 := Rep.mono hx77.1 zb6
 replace hv65 := repL.mono hx77.1 hv65
 replace hE := Mm.ext.trans hE hx77
 replace hF34 := Mm.ext.trans hF34 hx77
 replace hF46 := Mm.ext.trans hF46 hx77
 replace hF56 := Mm.ext.trans hF56 hx77
 have hF76 := hx77
 rw [reaches_l3] at hz
 obtain ⟨rec74, hrec74⟩ : ∃ f, f = reaches_l3 y43 rec44 x63 k75 := ⟨_, rfl⟩
 rw [← hrec74] at hz
 refine W_seq <|W_reg <|WL_y (Y_lss hT69_36 hT69_35) ?_
 refine WL_nil (nm_then ?_)
 refine W_seq ?_
 refine W_cond rfl (fun hc78 => ?_) (fun hc78 => ?_)
 replace hz := bif_ok_t hz hc78
 refine W_skip (nm_then ?_)
 refine W_seqJ (fun T' w' => ∃ M80 cs82 d83 c84, Mm.ext w.heap.size noX M68 M80 ∧ St w noX M80 [.box b8 cs82 61, .box b6 (Zr.zc (Vector Bool 32)) 61, .box b4 cx1 64] w' ∧ rep M80 cs82 d83 ∧ T' 2 = .pointer (some ⟨b4, 0, none⟩) ∧ T' 4 = .pointer (some ⟨b6, 0, none⟩) ∧ T' 5 = .pointer (some ⟨b8, 0, none⟩) ∧ T' 6 = .bool c84 ∧ T' 17 = .int .i64 y43 ∧ T' 34 = v65 ∧ T' 35 = .int .i64 (x63.length : Int) ∧ T' 36 = .int .i64 y73 ∧ reaches_j3 y73 rec74 d83 c84 = some r) ?_ ?_
 have hF86 := Mm.ext.refl w.heap.size noX M68
 refine W_block <|W_seq <|W_reg ?_
 obtain ⟨x88, hx87, hz⟩ := bind_ok hz
 obtain ⟨b87, o87, c87, p87, hv87, hi87, hj87, hM87, hr87⟩ := repL_at hv65 hx87
 replace hr87 : rep _ (sl p87 (o87 + Int.toNat y73 * 1) 1) x88 := hr87
 refine WL_y (Y_ixL il27 hT69_34 hv87 hT69_36 hi87 hj87) <|WL_y (Y_ld1 (.int .i64 x88) ts3 rfl (hS.bvM hM87) hr87) <|WL_y (Y_assign (.int .i64 x88) rfl) ?_
 refine WL_nil (nm_then ?_)
 refine W_seqJ (fun T' w' => ∃ M90 c92, Mm.ext w.heap.size noX M68 M90 ∧ St w noX M90 [.box b8 cs70 61, .box b6 (Zr.zc (Vector Bool 32)) 61, .box b4 cx1 64] w' ∧ T' 2 = .pointer (some ⟨b4, 0, none⟩) ∧ T' 4 = .pointer (some ⟨b6, 0, none⟩) ∧ T' 5 = .pointer (some ⟨b8, 0, none⟩) ∧ T' 6 = .bool c72 ∧ T' 9 = .int .i64 x88 ∧ T' 17 = .int .i64 y43 ∧ T' 34 = v65 ∧ T' 35 = .int .i64 (x63.length : Int) ∧ T' 36 = .int .i64 y73 ∧ T' 47 = .bool c92 ∧ reaches_j4 d71 c72 y73 rec74 x88 c92 = some r) ?_ ?_
 have hF104 := Mm.ext.refl w.heap.size noX M68
 refine W_reg <|WL_y (Y_move (.int .i64 x88) rfl) ?_
 obtain ⟨r107, hr106, hz⟩ := bind_ok hz
 replace hr106 := Option.some.inj hr106
 refine WL_c (O_val (vs := [.int .i64 x88]) (v := .bool r107) cb66 (args1 rfl) hS (hr106 ▸ (c_isTxn)) ?_)
 intro w105 hS
 refine WL_y (Y_move (.bool r107) rfl) ?_
 rcases ic hz with ⟨hc108, hz⟩ | ⟨hc108, hz⟩ <;> rw [hc108]
 refine WL_gy rfl rfl (Y_move (.int .i64 x88) rfl) ?_
 obtain ⟨u109, hx110, hz⟩ := bind_ok hz
 obtain ⟨hx110a, hx110b⟩ := inR_some hx110
 refine WL_gy rfl rfl (Y_ixA ia61 hT69_5 rfl hx110a hx110b) ?_
 obtain ⟨x111, hx112, hz⟩ := bind_ok hz
 refine WL_gy rfl rfl (Y_ld1 (.bool x111) ts4 rfl (hS.bvB 0 rfl) (vp (k := 1) rfl rfl (rr hb70) hx112)) <|WL_gy rfl rfl (Y_not rfl) <|WL_y (Y_pick_t (.bool (!x111)) rfl rfl) ?_
 refine WL_nil (nm_then ?_)
 exact ⟨M68, (!x111), hF104, hS, hT69_2, hT69_4, hT69_5, hT69_6, rfl, hT69_17, hT69_34, hT69_35, hT69_36, rfl, hz⟩
 refine WL_d 5 rfl ?_
 refine WL_nil (nm_then ?_)
 exact ⟨M68, false, hF104, hS, hT69_2, hT69_4, hT69_5, hT69_6, rfl, hT69_17, hT69_34, hT69_35, hT69_36, rfl, hz⟩
 rintro T91 w89 ⟨M90, c92, hx93, hS, hT91_2, hT91_4, hT91_5, hT91_6, hT91_9, hT91_17, hT91_34, hT91_35, hT91_36, hT91_47, hz⟩
 replace hcx1 := Rep.mono hx93.1 hcx1
 replace zb6 := Rep.mono hx93.1 zb6
 replace hv65 := repL.mono hx93.1 hv65
 replace hb70 := Rep.mono hx93.1 hb70
 replace hE := Mm.ext.trans hE hx93
 replace hF34 := Mm.ext.trans hF34 hx93
 replace hF46 := Mm.ext.trans hF46 hx93
 replace hF56 := Mm.ext.trans hF56 hx93
 replace hF76 := Mm.ext.trans hF76 hx93
 replace hF86 := Mm.ext.trans hF86 hx93
 rw [reaches_j4] at hz
 refine W_cond hT91_47 (fun hc94 => ?_) (fun hc94 => ?_)
 replace hz := bif_ok_t hz hc94
 refine W_reg <|WL_y (Y_move (.int .i64 x88) hT91_9) ?_
 obtain ⟨u95, hx96, hz⟩ := bind_ok hz
 obtain ⟨hx96a, hx96b⟩ := inR_some hx96
 refine WL_y (Y_ixA ia61 hT91_5 rfl hx96a hx96b) ?_
 obtain ⟨x99, hx100, hz⟩ := bind_ok hz
 obtain ⟨a101, hx102, hz⟩ := bind_ok hz
 obtain ⟨d103, hd98, hz⟩ := bind_ok hz
 refine WL_c (O_sx 0 1 hS rfl hb70 rfl rfl (rb true : rep M90 _ _) rfl rfl (vu (k := 1) rfl rfl (rr hb70) (Lf (vp (k := 1) rfl rfl (rr hb70) hx100) (rb true : rep M90 _ _)) hx102) hd98 ?_)
 intro cs98 w97 hb98 ha98 hs98 hS
 refine WL_y (Y_assign (.bool true) rfl) ?_
 refine WL_nil (nm_blk ?_)
 refine (nm_then ?_)
 exact ⟨M90, cs98, d103, true, hF86, hS, hb98, hT91_2, hT91_4, hT91_5, rfl, hT91_17, hT91_34, hT91_35, hT91_36, hz⟩
 replace hz := bif_ok_f hz hc94
 refine W_skip (nm_blk ?_)
 refine (nm_then ?_)
 exact ⟨M90, cs70, d71, c72, hF86, hS, hb70, hT91_2, hT91_4, hT91_5, hT91_6, hT91_17, hT91_34, hT91_35, hT91_36, hz⟩
 rintro T81 w79 ⟨M80, cs82, d83, c84, hx85, hS, hb82, hT81_2, hT81_4, hT81_5, hT81_6, hT81_17, hT81_34, hT81_35, hT81_36, hz⟩
 replace hcx1 := Rep.mono hx85.1 hcx1
 replace zb6 := Rep.mono hx85.1 zb6
 replace hv65 := repL.mono hx85.1 hv65
 replace hE := Mm.ext.trans hE hx85
 replace hF34 := Mm.ext.trans hF34 hx85
 replace hF46 := Mm.ext.trans hF46 hx85
 replace hF56 := Mm.ext.trans hF56 hx85
 replace hF76 := Mm.ext.trans hF76 hx85
 rw [reaches_j3] at hz
 refine W_reg <|WL_y (Y_add hT81_36 rfl) <|WL_y (Y_move (.int .i64 (IntKind.wrap .i64 (y73 + 1))) rfl) ?_
 refine WL_nil (nm_then ?_)
 exact ⟨M80, cs82, d83, c84, (IntKind.wrap .i64 (y73 + 1)), hF76, hS, hb82, hT81_2, hT81_4, hT81_5, hT81_6, hT81_17, hT81_34, hT81_35, rfl, (by rw [← hrec74]; exact hz)⟩
 replace hz := bif_ok_f hz hc78
 refine W_exit <|ex_then <|ex_then <|ex_hit ?_
 refine (nm_blk ?_)
 refine (nm_then ?_)
 exact ⟨M68, cs70, d71, c72, hF56, hS, hb70, hT69_2, hT69_4, hT69_5, hT69_6, hT69_17, hz⟩
 rintro T51 w49 ⟨M50, cs52, d53, c54, hx55, hS, hb52, hT51_2, hT51_4, hT51_5, hT51_6, hT51_17, hz⟩
 replace hcx1 := Rep.mono hx55.1 hcx1
 replace zb6 := Rep.mono hx55.1 zb6
 replace hE := Mm.ext.trans hE hx55
 replace hF34 := Mm.ext.trans hF34 hx55
 replace hF46 := Mm.ext.trans hF46 hx55
 rw [reaches_j1] at hz
 refine W_reg <|WL_y (Y_add hT51_17 rfl) <|WL_y (Y_move (.int .i64 (IntKind.wrap .i64 (y43 + 1))) rfl) ?_
 refine WL_nil (nm_then ?_)
 exact ⟨M50, cs52, d53, c54, (IntKind.wrap .i64 (y43 + 1)), hF46, hS, hb52, hT51_2, hT51_4, hT51_5, hT51_6, rfl, (by rw [← hrec44]; exact hz)⟩
 replace hz := bif_ok_f hz hc48
 refine W_exit <|ex_then <|ex_then <|ex_hit ?_
 refine (nm_blk ?_)
 refine (nm_then ?_)
 exact ⟨M38, cs40, d41, c42, hF34, hS, hb40, hT39_2, hT39_4, hT39_5, hT39_6, (by rw [← hrec32]; exact hz)⟩
 replace hz := bif_ok_f hz hc36
 refine W_exit <|ex_then <|ex_then <|ex_hit ?_
 refine (nm_then ?_)
 refine W_seq <|W_reg ?_
 have ha130 := (rr hb29)
 refine WL_y (Y_ldn ta61 hT28_5 (hS.bvB 0 rfl) (Rep.len ha130)) ?_
 obtain ⟨d133, hd132, hz⟩ := bind_ok hz
 refine WL_c (O_sx 1 32 hS rfl zb6 hT28_4 rfl ha130 rfl rfl (Lf (rr zb6) ha130) hd132 ?_)
 intro cs132 w131 hb132 ha132 hs132 hS
 refine WL_nil (nm_then ?_)
 cases hz
 exact W_ret (R_c (j := 1) rfl hT28_4 (by rw [Rep.len hb132]; exact ta61) hS rfl (Gives.mk (St.dropB (St.dropB (St.dropB hS hb8) hb6) hb4) hE ⟨_, rfl, hb132⟩))
def readyIn_j1 (y12 : Int) (rec13 : Int → Option Bool) : Option Bool :=
 rec13 (IntKind.wrap .i64 (y12 + 1))
def readyIn_j2 (y12 : Int) (rec13 : Int → Option Bool) (c28 : Bool) : Option Bool :=
 (bif c28 then
 some false
 else
 readyIn_j1 y12 rec13)
def readyIn_l1 (x1 : GGraph) (x2 : Int) (r8 : (Vector Bool 32)) : Nat → Int → Option Bool
 | 0, _ => none
 | n + 1, y12 =>
 (bif decide (y12 < 32) then
 (idxV r8 y12).bind fun x23 =>
 (bif x23 then
 (inR y12 32).bind fun _ =>
 (idxV x1.known y12).bind fun x35 =>
 readyIn_j2 y12 (readyIn_l1 x1 x2 r8 n) (!x35)
 else
 readyIn_j2 y12 (readyIn_l1 x1 x2 r8 n) false)
 else
 (some (decide (0 ≤ x2 ∧ x2 < 32))).bind fun r39 =>
 some r39)
def readyInD (fu : Nat) (x1 : GGraph) (x2 : Int) : Option Bool :=
 (reachesD fu x1 x2).bind fun r8 =>
 readyIn_l1 x1 x2 r8 fu 0
set_option maxRecDepth 100000 in
set_option maxHeartbeats 4000000 in
theorem readyIn_ok {M : Mm} {w : World} {cx1 : List Value} {x1 : GGraph} {x2 : Int} {fu : Nat} {r : Bool} (hA : Agree M w) (hcx1 : rep M cx1 x1) (hz : readyInD fu x1 x2 = some r) :
    Calls Try.prog 78 #[.agg cx1.toArray, .int .i64 x2] w (GivesV w (.bool r)) := by
 refine calls_W Try.func78 rfl 25 rfl rfl (by kernel_rfl) fun T hT => ?_
 have hT_0 : T 0 = .agg cx1.toArray := hT 0
 have hT_1 : T 1 = .int .i64 x2 := hT 1
 clear hT
 have hE := Mm.ext.refl w.heap.size noX M
 have hS : St w noX M [] w := St.start hA
 rw [readyInD] at hz
 refine W_seq <|W_reg ?_
 refine WL_c (O_box (v := .agg cx1.toArray) (cs := cx1) hT_0 rfl hS ?_)
 intro b4 w3 hb4 hS
 refine WL_y (Y_assign (.bool false) rfl) ?_
 refine WL_nil (nm_then ?_)
 refine W_seq <|W_seq <|W_reg ?_
 have ha5 := (rr hcx1)
 refine WL_y (Y_ldn ta64 rfl (hS.bvB 0 rfl) (Rep.len ha5)) <|WL_y (Y_move (.int .i64 x2) hT_1) ?_
 obtain ⟨r8, hr7, hz⟩ := bind_ok hz
 refine WL_c (O_mem (vs := [.agg (sl cx1 (0) 64).toArray, .int .i64 x2]) (rv := (fun M' u => ∃ cs, u = .agg cs.toArray ∧ rep M' cs r8)) cb79 (args2 rfl rfl) hS (reaches_ok hS.agree ha5 hr7) ?_)
 intro u7 M7 w6 hx7 hu7 hS
 obtain ⟨c7, hq7, f7⟩ := hu7
 subst hq7
 replace hcx1 := Rep.mono hx7.1 hcx1
 replace ha5 := Rep.mono hx7.1 ha5
 replace hE := Mm.ext.trans hE hx7
 refine WL_y (Y_move (.int .i64 0) rfl) ?_
 refine WL_nil (nm_then ?_)
 refine W_block ?_
 refine W_loop (fun k14 T' w' => ∃ M10 y12, Mm.ext w.heap.size noX M7 M10 ∧ St w noX M10 [.box b4 cx1 64] w' ∧ T' 1 = .int .i64 x2 ∧ T' 2 = .pointer (some ⟨b4, 0, none⟩) ∧ T' 9 = .agg c7.toArray ∧ T' 10 = .int .i64 y12 ∧ readyIn_l1 x1 x2 r8 k14 y12 = some r) fu ?_ ?_ ?_
 exact ⟨M7, (0 : Int), (Mm.ext.refl _ _ _), hS, hT_1, rfl, rfl, rfl, hz⟩
 rintro T' w' ⟨_, _, _, _, _, _, _, _, hz⟩
 rw [readyIn_l1] at hz
 cases hz
 intro k14
 rintro T11 w9 ⟨M10, y12, hx16, hS, hT11_1, hT11_2, hT11_9, hT11_10, hz⟩
 replace hcx1 := Rep.mono hx16.1 hcx1
 replace f7 := Rep.mono hx16.1 f7
 replace hE := Mm.ext.trans hE hx16
 have hF15 := hx16
 rw [readyIn_l1] at hz
 obtain ⟨rec13, hrec13⟩ : ∃ f, f = readyIn_l1 x1 x2 r8 k14 := ⟨_, rfl⟩
 rw [← hrec13] at hz
 refine W_seq <|W_reg <|WL_y (Y_lss hT11_10 rfl) ?_
 refine WL_nil (nm_then ?_)
 refine W_seq ?_
 refine W_cond rfl (fun hc17 => ?_) (fun hc17 => ?_)
 replace hz := bif_ok_t hz hc17
 refine W_skip (nm_then ?_)
 refine W_seqJ (fun T' w' => ∃ M19, Mm.ext w.heap.size noX M10 M19 ∧ St w noX M19 [.box b4 cx1 64] w' ∧ T' 1 = .int .i64 x2 ∧ T' 2 = .pointer (some ⟨b4, 0, none⟩) ∧ T' 9 = .agg c7.toArray ∧ T' 10 = .int .i64 y12 ∧ readyIn_j1 y12 rec13 = some r) ?_ ?_
 have hF22 := Mm.ext.refl w.heap.size noX M10
 refine W_block <|W_seq <|W_reg <|WL_y (Y_move (.int .i64 y12) hT11_10) ?_
 obtain ⟨x23, hx24, hz⟩ := bind_ok hz
 obtain ⟨hx24a, hx24b, hx24⟩ := repV_at f7 hx24
 refine WL_y (Y_ixV1 (.bool x23) iv61 hT11_9 hT11_10 hx24a hx24b hx24) <|WL_d 2 rfl ?_
 refine WL_nil (nm_then ?_)
 refine W_seqJ (fun T' w' => ∃ M26 c28, Mm.ext w.heap.size noX M10 M26 ∧ St w noX M26 [.box b4 cx1 64] w' ∧ T' 1 = .int .i64 x2 ∧ T' 2 = .pointer (some ⟨b4, 0, none⟩) ∧ T' 9 = .agg c7.toArray ∧ T' 10 = .int .i64 y12 ∧ T' 21 = .bool c28 ∧ readyIn_j2 y12 rec13 c28 = some r) ?_ ?_
 have hF31 := Mm.ext.refl w.heap.size noX M10
 refine W_reg <|WL_d 2 rfl ?_
 rcases ic hz with ⟨hc32, hz⟩ | ⟨hc32, hz⟩ <;> rw [hc32]
 refine WL_gy rfl rfl (Y_move (.int .i64 y12) rfl) <|WL_gy rfl rfl (Y_fa fa64_0 hT11_2) ?_
 obtain ⟨u33, hx34, hz⟩ := bind_ok hz
 obtain ⟨hx34a, hx34b⟩ := inR_some hx34
 refine WL_gy rfl rfl (Y_ixA ia61 rfl rfl hx34a hx34b) ?_
 obtain ⟨x35, hx36, hz⟩ := bind_ok hz
 refine WL_gy rfl rfl (Y_ld1 (.bool x35) ts4 rfl (hS.bvB 0 rfl) (vp (k := 1) rfl rfl (GGraph.p0 (rr hcx1)) hx36)) <|WL_gy rfl rfl (Y_not rfl) <|WL_y (Y_pick_t (.bool (!x35)) rfl rfl) ?_
 refine WL_nil (nm_then ?_)
 exact ⟨M10, (!x35), hF31, hS, hT11_1, hT11_2, hT11_9, hT11_10, rfl, hz⟩
 refine WL_d 6 rfl ?_
 refine WL_nil (nm_then ?_)
 exact ⟨M10, false, hF31, hS, hT11_1, hT11_2, hT11_9, hT11_10, rfl, hz⟩
 rintro T27 w25 ⟨M26, c28, hx29, hS, hT27_1, hT27_2, hT27_9, hT27_10, hT27_21, hz⟩
 replace hcx1 := Rep.mono hx29.1 hcx1
 replace f7 := Rep.mono hx29.1 f7
 replace hE := Mm.ext.trans hE hx29
 replace hF15 := Mm.ext.trans hF15 hx29
 replace hF22 := Mm.ext.trans hF22 hx29
 rw [readyIn_j2] at hz
 refine W_cond hT27_21 (fun hc30 => ?_) (fun hc30 => ?_)
 replace hz := bif_ok_t hz hc30
 refine W_seq <|W_reg <|WL_y (Y_assign (.bool false) rfl) ?_
 refine WL_nil (nm_then ?_)
 cases hz
 exact W_ret (rt_blk (rt_then (rt_then (rt_blk (rt_then (R_t1 rfl rfl ⟨rfl, (St.dropB hS hb4).kept⟩))))))
 replace hz := bif_ok_f hz hc30
 refine W_skip (nm_blk ?_)
 refine (nm_then ?_)
 exact ⟨M26, hF22, hS, hT27_1, hT27_2, hT27_9, hT27_10, hz⟩
 rintro T20 w18 ⟨M19, hx21, hS, hT20_1, hT20_2, hT20_9, hT20_10, hz⟩
 replace hcx1 := Rep.mono hx21.1 hcx1
 replace f7 := Rep.mono hx21.1 f7
 replace hE := Mm.ext.trans hE hx21
 replace hF15 := Mm.ext.trans hF15 hx21
 rw [readyIn_j1] at hz
 refine W_reg <|WL_y (Y_add hT20_10 rfl) <|WL_y (Y_move (.int .i64 (IntKind.wrap .i64 (y12 + 1))) rfl) ?_
 refine WL_nil (nm_then ?_)
 exact ⟨M19, (IntKind.wrap .i64 (y12 + 1)), hF15, hS, hT20_1, hT20_2, hT20_9, rfl, (by rw [← hrec13]; exact hz)⟩
 replace hz := bif_ok_f hz hc17
 refine W_exit <|ex_then <|ex_then <|ex_hit ?_
 refine (nm_then ?_)
 refine W_seq <|W_reg <|WL_y (Y_move (.int .i64 x2) hT11_1) ?_
 obtain ⟨r39, hr38, hz⟩ := bind_ok hz
 replace hr38 := Option.some.inj hr38
 refine WL_c (O_val (vs := [.int .i64 x2]) (v := .bool r39) cb66 (args1 rfl) hS (hr38 ▸ (c_isTxn)) ?_)
 intro w37 hS
 refine WL_y (Y_assign (.bool r39) rfl) ?_
 refine WL_nil (nm_then ?_)
 cases hz
 exact W_ret (R_t1 rfl rfl ⟨rfl, (St.dropB hS hb4).kept⟩)
def orderOf_j1 (l40 : List Int) : Option (List Int) :=
 some l40
def orderOf_j2 (y59 : Int) (rec60 : Int → Int → Option (List Int)) (y68 : Int) : Option (List Int) :=
 rec60 y68 (IntKind.wrap .i64 (y59 - 1))
def orderOf_j4 (y79 : Int) (rec80 : Bool → Int → Option (List Int)) (c88 : Bool) : Option (List Int) :=
 rec80 c88 (IntKind.wrap .i64 (y79 + 1))
def orderOf_l4 (d16 : Vector (Vector Bool 32) 32) (l47 : List Int) (y58 : Int) (y59 : Int) (rec60 : Int → Int → Option (List Int)) : Nat → Bool → Int → Option (List Int)
 | 0, _, _ => none
 | n + 1, c78, y79 =>
 (bif decide (y79 < 32) then
 (bif c78 then
 (inR y59 32).bind fun _ =>
 (inR y79 32).bind fun _ =>
 (idxV d16 y59).bind fun x96 =>
 (idxV x96 y79).bind fun x98 =>
 (bif !x98 then
 orderOf_j4 y79 (orderOf_l4 d16 l47 y58 y59 rec60 n) true
 else
 (inR y79 32).bind fun _ =>
 (inR y59 32).bind fun _ =>
 (idxV d16 y79).bind fun x105 =>
 (idxV x105 y59).bind fun x107 =>
 (bif x107 then
 orderOf_j4 y79 (orderOf_l4 d16 l47 y58 y59 rec60 n) true
 else
 (some (hasZ l47 y79)).bind fun r112 =>
 orderOf_j4 y79 (orderOf_l4 d16 l47 y58 y59 rec60 n) r112))
 else
 orderOf_j4 y79 (orderOf_l4 d16 l47 y58 y59 rec60 n) false)
 else
 (bif c78 then
 orderOf_j2 y59 rec60 y59
 else
 orderOf_j2 y59 rec60 y58))
def orderOf_j3 (fu : Nat) (d16 : Vector (Vector Bool 32) 32) (l47 : List Int) (y58 : Int) (y59 : Int) (rec60 : Int → Int → Option (List Int)) : Option (List Int) :=
 orderOf_l4 d16 l47 y58 y59 rec60 fu true 0
def orderOf_j5 (fu : Nat) (d16 : Vector (Vector Bool 32) 32) (l47 : List Int) (y58 : Int) (y59 : Int) (rec60 : Int → Int → Option (List Int)) (c118 : Bool) : Option (List Int) :=
 (bif c118 then
 orderOf_j2 y59 rec60 y58
 else
 orderOf_j3 fu d16 l47 y58 y59 rec60)
def orderOf_j6 (y140 : Int) (rec141 : (List Int) → Int → Option (List Int)) (l149 : List Int) : Option (List Int) :=
 rec141 l149 (IntKind.wrap .i64 (y140 + 1))
def orderOf_j7 (l138 : List Int) (y140 : Int) (rec141 : (List Int) → Int → Option (List Int)) (c156 : Bool) : Option (List Int) :=
 (bif c156 then
 (app l138 ([y140] : List Int)).bind fun l163 =>
 orderOf_j6 y140 rec141 l163
 else
 orderOf_j6 y140 rec141 l138)
def orderOf_l5 (d16 : Vector (Vector Bool 32) 32) (rec49 : (List Int) → Option (List Int)) (y58 : Int) : Nat → (List Int) → Int → Option (List Int)
 | 0, _, _ => none
 | n + 1, l138, y140 =>
 (bif decide (y140 < 32) then
 (inR y140 32).bind fun _ =>
 (inR y58 32).bind fun _ =>
 (idxV d16 y140).bind fun x169 =>
 (idxV x169 y58).bind fun x171 =>
 (bif x171 then
 (inR y58 32).bind fun _ =>
 (inR y140 32).bind fun _ =>
 (idxV d16 y58).bind fun x178 =>
 (idxV x178 y140).bind fun x180 =>
 orderOf_j7 l138 y140 (orderOf_l5 d16 rec49 y58 n) x180
 else
 orderOf_j7 l138 y140 (orderOf_l5 d16 rec49 y58 n) false)
 else
 rec49 l138)
def orderOf_l3 (fu : Nat) (x2 : Int) (d16 : Vector (Vector Bool 32) 32) (l47 : List Int) (rec49 : (List Int) → Option (List Int)) : Nat → Int → Int → Option (List Int)
 | 0, _, _ => none
 | n + 1, y58, y59 =>
 (bif decide (y59 ≥ 0) then
 (inR x2 32).bind fun _ =>
 (inR y59 32).bind fun _ =>
 (idxV d16 x2).bind fun x126 =>
 (idxV x126 y59).bind fun x128 =>
 (bif !x128 then
 orderOf_j5 fu d16 l47 y58 y59 (orderOf_l3 fu x2 d16 l47 rec49 n) true
 else
 (some (hasZ l47 y59)).bind fun r133 =>
 orderOf_j5 fu d16 l47 y58 y59 (orderOf_l3 fu x2 d16 l47 rec49 n) r133)
 else
 (bif decide (y58 < 0) then
 orderOf_j1 l47
 else
 orderOf_l5 d16 rec49 y58 fu l47 0))
def orderOf_l2 (fu : Nat) (x2 : Int) (d16 : Vector (Vector Bool 32) 32) : Nat → (List Int) → Option (List Int)
 | 0, _ => none
 | n + 1, l47 =>
 (bif decide ((l47.length : Int) < 32) then
 orderOf_l3 fu x2 d16 l47 (orderOf_l2 fu x2 d16 n) fu (-1) 31
 else
 orderOf_j1 l47)
def orderOf_l1 (fu : Nat) (x1 : GGraph) (x2 : Int) : Nat → (Vector (Vector Bool 32) 32) → Int → Option (List Int)
 | 0, _, _ => none
 | n + 1, d16, y17 =>
 (bif decide (y17 < 32) then
 (reachesD fu x1 y17).bind fun r26 =>
 (inR y17 32).bind fun _ =>
 (idxV d16 y17).bind fun x31 =>
 (setV d16 y17 r26).bind fun a33 =>
 (some a33).bind fun d35 =>
 (orderOf_l1 fu x1 x2 n) d35 (IntKind.wrap .i64 (y17 + 1))
 else
 orderOf_l2 fu x2 d16 fu ([] : List Int))
def orderOfD (fu : Nat) (x1 : GGraph) (x2 : Int) : Option (List Int) :=
 (readyInD fu x1 x2).bind fun r8 =>
 (bif !r8 then
 some []
 else
 orderOf_l1 fu x1 x2 fu (Zr.zd : Vector (Vector Bool 32) 32) 0)
set_option maxRecDepth 100000 in
set_option maxHeartbeats 4000000 in
theorem orderOf_ok {M : Mm} {w : World} {cx1 : List Value} {x1 : GGraph} {x2 : Int} {fu : Nat} {r : (List Int)} (hA : Agree M w) (hcx1 : rep M cx1 x1) (hz : orderOfD fu x1 x2 = some r) :
    Calls Try.prog 59 #[.agg cx1.toArray, .int .i64 x2] w (Gives M w (fun M' u => repL M' u r)) := by
 refine calls_W Try.func59 rfl 94 rfl rfl (by kernel_rfl) fun T hT => ?_
 have hT_0 : T 0 = .agg cx1.toArray := hT 0
 have hT_1 : T 1 = .int .i64 x2 := hT 1
 clear hT
 have hE := Mm.ext.refl w.heap.size noX M
 have hS : St w noX M [] w := St.start hA
 rw [orderOfD] at hz
 refine W_seq <|W_reg ?_
 refine WL_c (O_box (v := .agg cx1.toArray) (cs := cx1) hT_0 rfl hS ?_)
 intro b4 w3 hb4 hS
 refine WL_y (Y_assign ((.slice none 0 0)) rfl) ?_
 refine WL_nil (nm_then ?_)
 refine W_seq <|W_seq <|W_reg ?_
 have ha5 := (rr hcx1)
 refine WL_y (Y_ldn ta64 rfl (hS.bvB 0 rfl) (Rep.len ha5)) <|WL_y (Y_move (.int .i64 x2) hT_1) ?_
 obtain ⟨r8, hr7, hz⟩ := bind_ok hz
 refine WL_c (O_val (vs := [.agg (sl cx1 (0) 64).toArray, .int .i64 x2]) (v := .bool r8) cb78 (args2 rfl rfl) hS (readyIn_ok hS.agree ha5 hr7) ?_)
 intro w6 hS
 refine WL_y (Y_not rfl) ?_
 refine WL_nil (nm_then ?_)
 refine W_cond rfl (fun hc9 => ?_) (fun hc9 => ?_)
 replace hz := bif_ok_t hz hc9
 refine W_seq <|W_reg <|WL_y (Y_assign ((.slice none 0 0)) rfl) ?_
 refine WL_nil (nm_then ?_)
 cases hz
 exact W_ret (rt_then (R_t1 rfl rfl (Gives.mk (St.dropB hS hb4) hE (repL_nil _))))
 replace hz := bif_ok_f hz hc9
 refine W_skip (nm_then ?_)
 refine W_seq <|W_reg ?_
 refine WL_c (O_alloc tz106 hS ?_)
 intro b11 w10 hb11 hS
 have zb11 : rep M (Zr.zc (Vector (Vector Bool 32) 32)) (Zr.zd : Vector (Vector Bool 32) 32) := Zr.zr
 refine WL_nil (nm_then ?_)
 refine W_seq <|W_seq <|W_reg <|WL_y (Y_move (.int .i64 0) rfl) ?_
 refine WL_nil (nm_then ?_)
 refine W_block ?_
 refine W_loop (fun k19 T' w' => ∃ M13 cs15 d16 y17, Mm.ext w.heap.size noX M M13 ∧ St w noX M13 [.box b11 cs15 106, .box b4 cx1 64] w' ∧ rep M13 cs15 d16 ∧ T' 1 = .int .i64 x2 ∧ T' 2 = .pointer (some ⟨b4, 0, none⟩) ∧ T' 5 = .pointer (some ⟨b11, 0, none⟩) ∧ T' 17 = .int .i64 y17 ∧ orderOf_l1 fu x1 x2 k19 d16 y17 = some r) fu ?_ ?_ ?_
 exact ⟨M, (Zr.zc (Vector (Vector Bool 32) 32)), (Zr.zd : Vector (Vector Bool 32) 32), (0 : Int), (Mm.ext.refl _ _ _), hS, zb11, hT_1, rfl, rfl, rfl, hz⟩
 rintro T' w' ⟨_, _, _, _, _, _, _, _, _, _, _, hz⟩
 rw [orderOf_l1] at hz
 cases hz
 intro k19
 rintro T14 w12 ⟨M13, cs15, d16, y17, hx21, hS, hb15, hT14_1, hT14_2, hT14_5, hT14_17, hz⟩
 replace hcx1 := Rep.mono hx21.1 hcx1
 replace hE := Mm.ext.trans hE hx21
 have hF20 := hx21
 rw [orderOf_l1] at hz
 obtain ⟨rec18, hrec18⟩ : ∃ f, f = orderOf_l1 fu x1 x2 k19 := ⟨_, rfl⟩
 rw [← hrec18] at hz
 refine W_seq <|W_reg <|WL_y (Y_lss hT14_17 rfl) ?_
 refine WL_nil (nm_then ?_)
 refine W_seq ?_
 refine W_cond rfl (fun hc22 => ?_) (fun hc22 => ?_)
 replace hz := bif_ok_t hz hc22
 refine W_skip (nm_then ?_)
 refine W_seq <|W_block <|W_seq <|W_reg <|WL_y (Y_move (.int .i64 y17) hT14_17) <|WL_y (Y_assign (.int .i64 y17) rfl) ?_
 refine WL_nil (nm_then ?_)
 refine W_reg <|WL_y (Y_move (.int .i64 y17) rfl) ?_
 have ha23 := (rr hcx1)
 refine WL_y (Y_ldn ta64 hT14_2 (hS.bvB 1 rfl) (Rep.len ha23)) <|WL_y (Y_move (.int .i64 y17) rfl) ?_
 obtain ⟨r26, hr25, hz⟩ := bind_ok hz
 refine WL_c (O_mem (vs := [.agg (sl cx1 (0) 64).toArray, .int .i64 y17]) (rv := (fun M' u => ∃ cs, u = .agg cs.toArray ∧ rep M' cs r26)) cb79 (args2 rfl rfl) hS (reaches_ok hS.agree ha23 hr25) ?_)
 intro u25 M25 w24 hx25 hu25 hS
 obtain ⟨c25, hq25, f25⟩ := hu25
 subst hq25
 replace hcx1 := Rep.mono hx25.1 hcx1
 replace hb15 := Rep.mono hx25.1 hb15
 replace ha23 := Rep.mono hx25.1 ha23
 replace hE := Mm.ext.trans hE hx25
 replace hF20 := Mm.ext.trans hF20 hx25
 obtain ⟨u27, hx28, hz⟩ := bind_ok hz
 obtain ⟨hx28a, hx28b⟩ := inR_some hx28
 refine WL_y (Y_ixA ia106 hT14_5 rfl hx28a hx28b) ?_
 obtain ⟨x31, hx32, hz⟩ := bind_ok hz
 obtain ⟨a33, hx34, hz⟩ := bind_ok hz
 obtain ⟨d35, hd30, hz⟩ := bind_ok hz
 refine WL_c (O_sx 0 32 hS rfl hb15 rfl rfl f25 rfl rfl (vu (k := 32) rfl rfl (rr hb15) (Lf (vp (k := 32) rfl rfl (rr hb15) hx32) f25) hx34) hd30 ?_)
 intro cs30 w29 hb30 ha30 hs30 hS
 refine WL_nil (nm_blk ?_)
 refine (nm_then ?_)
 refine W_reg <|WL_y (Y_add hT14_17 rfl) <|WL_y (Y_move (.int .i64 (IntKind.wrap .i64 (y17 + 1))) rfl) ?_
 refine WL_nil (nm_then ?_)
 exact ⟨M25, cs30, d35, (IntKind.wrap .i64 (y17 + 1)), hF20, hS, hb30, hT14_1, hT14_2, hT14_5, rfl, (by rw [← hrec18]; exact hz)⟩
 replace hz := bif_ok_f hz hc22
 refine W_exit <|ex_then <|ex_then <|ex_hit ?_
 refine (nm_then ?_)
 refine W_seq <|W_reg <|WL_y (Y_assign ((.slice none 0 0)) rfl) ?_
 refine WL_nil (nm_then ?_)
 replace hS := hS.nilRow 3 1
 refine W_seqJ (fun T' w' => ∃ M38 v41 l40, Mm.ext w.heap.size noX M13 M38 ∧ St w noX M38 [.row v41 3 1, .box b11 cs15 106, .box b4 cx1 64] w' ∧ repL M38 v41 l40 ∧ T' 7 = v41 ∧ orderOf_j1 l40 = some r) ?_ ?_
 have hF43 := Mm.ext.refl w.heap.size noX M13
 refine W_block ?_
 refine W_loop (fun k50 T' w' => ∃ M45 v48 l47, Mm.ext w.heap.size noX M13 M45 ∧ St w noX M45 [.row v48 3 1, .box b11 cs15 106, .box b4 cx1 64] w' ∧ repL M45 v48 l47 ∧ T' 1 = .int .i64 x2 ∧ T' 5 = .pointer (some ⟨b11, 0, none⟩) ∧ T' 7 = v48 ∧ orderOf_l2 fu x2 d16 k50 l47 = some r) fu ?_ ?_ ?_
 exact ⟨M13, (.slice none 0 0), ([] : List Int), (Mm.ext.refl _ _ _), hS, (repL_nil _), hT14_1, hT14_5, rfl, hz⟩
 rintro T' w' ⟨_, _, _, _, _, _, _, _, _, hz⟩
 rw [orderOf_l2] at hz
 cases hz
 intro k50
 rintro T46 w44 ⟨M45, v48, l47, hx52, hS, hv48, hT46_1, hT46_5, hT46_7, hz⟩
 replace hcx1 := Rep.mono hx52.1 hcx1
 replace hb15 := Rep.mono hx52.1 hb15
 replace hE := Mm.ext.trans hE hx52
 replace hF20 := Mm.ext.trans hF20 hx52
 replace hF43 := Mm.ext.trans hF43 hx52
 have hF51 := hx52
 rw [orderOf_l2] at hz
 obtain ⟨rec49, hrec49⟩ : ∃ f, f = orderOf_l2 fu x2 d16 k50 := ⟨_, rfl⟩
 rw [← hrec49] at hz
 refine W_seq <|W_seq <|W_reg <|WL_y (Y_move (v48) hT46_7) ?_
 obtain ⟨a53, c53, hv53, _⟩ := repL_shape hv48
 refine WL_y (Y_lenL Try.underlying27 (tr2 hv53 rfl)) <|WL_y (Y_lss rfl rfl) ?_
 refine WL_nil (nm_then ?_)
 refine W_cond rfl (fun hc54 => ?_) (fun hc54 => ?_)
 replace hz := bif_ok_t hz hc54
 refine W_skip (nm_then ?_)
 refine W_block <|W_seq <|W_reg <|WL_y (Y_assign (.int .i64 (-1)) rfl) ?_
 refine WL_nil (nm_then ?_)
 refine W_seq <|W_seq <|W_reg <|WL_y (Y_assign (.int .i64 31) rfl) ?_
 refine WL_nil (nm_then ?_)
 refine W_block ?_
 refine W_loop (fun k61 T' w' => ∃ M56 y58 y59, Mm.ext w.heap.size noX M45 M56 ∧ St w noX M56 [.row v48 3 1, .box b11 cs15 106, .box b4 cx1 64] w' ∧ T' 1 = .int .i64 x2 ∧ T' 5 = .pointer (some ⟨b11, 0, none⟩) ∧ T' 7 = v48 ∧ T' 8 = .int .i64 y58 ∧ T' 9 = .int .i64 y59 ∧ orderOf_l3 fu x2 d16 l47 rec49 k61 y58 y59 = some r) fu ?_ ?_ ?_
 exact ⟨M45, ((-1) : Int), (31 : Int), (Mm.ext.refl _ _ _), hS, hT46_1, hT46_5, hT46_7, rfl, rfl, hz⟩
 rintro T' w' ⟨_, _, _, _, _, _, _, _, _, _, hz⟩
 rw [orderOf_l3] at hz
 cases hz
 intro k61
 rintro T57 w55 ⟨M56, y58, y59, hx63, hS, hT57_1, hT57_5, hT57_7, hT57_8, hT57_9, hz⟩
 replace hcx1 := Rep.mono hx63.1 hcx1
 replace hb15 := Rep.mono hx63.1 hb15
 replace hv48 := repL.mono hx63.1 hv48
 replace hE := Mm.ext.trans hE hx63
 replace hF20 := Mm.ext.trans hF20 hx63
 replace hF43 := Mm.ext.trans hF43 hx63
 replace hF51 := Mm.ext.trans hF51 hx63
 have hF62 := hx63
 rw [orderOf_l3] at hz
 obtain ⟨rec60, hrec60⟩ : ∃ f, f = orderOf_l3 fu x2 d16 l47 rec49 k61 := ⟨_, rfl⟩
 rw [← hrec60] at hz
 refine W_seq <|W_seq <|W_reg <|WL_y (Y_move (.int .i64 y59) hT57_9) <|WL_y (Y_geq rfl rfl) ?_
 refine WL_nil (nm_then ?_)
 refine W_cond rfl (fun hc64 => ?_) (fun hc64 => ?_)
 replace hz := bif_ok_t hz hc64
 refine W_skip (nm_then ?_)
 refine W_seqJ (fun T' w' => ∃ M66 y68, Mm.ext w.heap.size noX M56 M66 ∧ St w noX M66 [.row v48 3 1, .box b11 cs15 106, .box b4 cx1 64] w' ∧ T' 1 = .int .i64 x2 ∧ T' 5 = .pointer (some ⟨b11, 0, none⟩) ∧ T' 7 = v48 ∧ T' 8 = .int .i64 y68 ∧ T' 9 = .int .i64 y59 ∧ orderOf_j2 y59 rec60 y68 = some r) ?_ ?_
 have hF70 := Mm.ext.refl w.heap.size noX M56
 refine W_block ?_
 refine W_seqJ (fun T' w' => ∃ M72, Mm.ext w.heap.size noX M56 M72 ∧ St w noX M72 [.row v48 3 1, .box b11 cs15 106, .box b4 cx1 64] w' ∧ T' 1 = .int .i64 x2 ∧ T' 5 = .pointer (some ⟨b11, 0, none⟩) ∧ T' 7 = v48 ∧ T' 8 = .int .i64 y58 ∧ T' 9 = .int .i64 y59 ∧ orderOf_j3 fu d16 l47 y58 y59 rec60 = some r) ?_ ?_
 have hF114 := Mm.ext.refl w.heap.size noX M56
 refine W_seqJ (fun T' w' => ∃ M116 c118, Mm.ext w.heap.size noX M56 M116 ∧ St w noX M116 [.row v48 3 1, .box b11 cs15 106, .box b4 cx1 64] w' ∧ T' 1 = .int .i64 x2 ∧ T' 5 = .pointer (some ⟨b11, 0, none⟩) ∧ T' 7 = v48 ∧ T' 8 = .int .i64 y58 ∧ T' 9 = .int .i64 y59 ∧ T' 43 = .bool c118 ∧ orderOf_j5 fu d16 l47 y58 y59 rec60 c118 = some r) ?_ ?_
 have hF121 := Mm.ext.refl w.heap.size noX M56
 refine W_reg <|WL_y (Y_move (.int .i64 x2) hT57_1) <|WL_y (Y_move (.int .i64 y59) hT57_9) ?_
 obtain ⟨u122, hx123, hz⟩ := bind_ok hz
 obtain ⟨hx123a, hx123b⟩ := inR_some hx123
 refine WL_y (Y_ixA ia106 hT57_5 rfl hx123a hx123b) ?_
 obtain ⟨u124, hx125, hz⟩ := bind_ok hz
 obtain ⟨hx125a, hx125b⟩ := inR_some hx125
 refine WL_y (Y_ixA ia61 rfl rfl hx125a hx125b) ?_
 obtain ⟨x126, hx127, hz⟩ := bind_ok hz
 obtain ⟨x128, hx129, hz⟩ := bind_ok hz
 refine WL_y (Y_ld1 (.bool x128) ts4 rfl (hS.bvB 1 rfl) (vp (k := 1) rfl rfl (vp (k := 32) rfl rfl (rr hb15) hx127) hx129)) <|WL_y (Y_not rfl) <|WL_y (Y_move (.bool (!x128)) rfl) ?_
 rcases ic hz with ⟨hc130, hz⟩ | ⟨hc130, hz⟩ <;> rw [hc130]
 refine WL_d 4 rfl ?_
 refine WL_nil (nm_then ?_)
 exact ⟨M56, true, hF121, hS, hT57_1, hT57_5, hT57_7, hT57_8, hT57_9, rfl, hz⟩
 refine WL_gy rfl rfl (Y_move (v48) hT57_7) <|WL_gy rfl rfl (Y_move (.int .i64 y59) hT57_9) ?_
 obtain ⟨r133, hr132, hz⟩ := bind_ok hz
 replace hr132 := Option.some.inj hr132
 refine WL_g rfl rfl (O_val (vs := [v48, .int .i64 y59]) (v := .bool r133) cb65 (args2 rfl rfl) hS (hr132 ▸ (c_refHas hS.agree hv48)) ?_)
 intro w131 hS
 refine WL_y (Y_pick_f (.bool r133) rfl rfl) ?_
 refine WL_nil (nm_then ?_)
 exact ⟨M56, r133, hF121, hS, hT57_1, hT57_5, hT57_7, hT57_8, hT57_9, rfl, hz⟩
 rintro T117 w115 ⟨M116, c118, hx119, hS, hT117_1, hT117_5, hT117_7, hT117_8, hT117_9, hT117_43, hz⟩
 replace hcx1 := Rep.mono hx119.1 hcx1
 replace hb15 := Rep.mono hx119.1 hb15
 replace hv48 := repL.mono hx119.1 hv48
 replace hE := Mm.ext.trans hE hx119
 replace hF20 := Mm.ext.trans hF20 hx119
 replace hF43 := Mm.ext.trans hF43 hx119
 replace hF51 := Mm.ext.trans hF51 hx119
 replace hF62 := Mm.ext.trans hF62 hx119
 replace hF70 := Mm.ext.trans hF70 hx119
 replace hF114 := Mm.ext.trans hF114 hx119
 rw [orderOf_j5] at hz
 refine W_cond hT117_43 (fun hc120 => ?_) (fun hc120 => ?_)
 replace hz := bif_ok_t hz hc120
 refine W_exit <|ex_then <|ex_hit ?_
 refine (nm_then ?_)
 exact ⟨M116, y58, hF70, hS, hT117_1, hT117_5, hT117_7, hT117_8, hT117_9, hz⟩
 replace hz := bif_ok_f hz hc120
 refine W_skip (nm_then ?_)
 exact ⟨M116, hF114, hS, hT117_1, hT117_5, hT117_7, hT117_8, hT117_9, hz⟩
 rintro T73 w71 ⟨M72, hx74, hS, hT73_1, hT73_5, hT73_7, hT73_8, hT73_9, hz⟩
 replace hcx1 := Rep.mono hx74.1 hcx1
 replace hb15 := Rep.mono hx74.1 hb15
 replace hv48 := repL.mono hx74.1 hv48
 replace hE := Mm.ext.trans hE hx74
 replace hF20 := Mm.ext.trans hF20 hx74
 replace hF43 := Mm.ext.trans hF43 hx74
 replace hF51 := Mm.ext.trans hF51 hx74
 replace hF62 := Mm.ext.trans hF62 hx74
 replace hF70 := Mm.ext.trans hF70 hx74
 rw [orderOf_j3] at hz
 refine W_seq <|W_reg <|WL_y (Y_assign (.bool true) rfl) ?_
 refine WL_nil (nm_then ?_)
 refine W_seq <|W_seq <|W_reg <|WL_y (Y_move (.int .i64 0) rfl) ?_
 refine WL_nil (nm_then ?_)
 refine W_block ?_
 refine W_loop (fun k81 T' w' => ∃ M76 c78 y79, Mm.ext w.heap.size noX M72 M76 ∧ St w noX M76 [.row v48 3 1, .box b11 cs15 106, .box b4 cx1 64] w' ∧ T' 1 = .int .i64 x2 ∧ T' 5 = .pointer (some ⟨b11, 0, none⟩) ∧ T' 7 = v48 ∧ T' 8 = .int .i64 y58 ∧ T' 9 = .int .i64 y59 ∧ T' 10 = .bool c78 ∧ T' 44 = .int .i64 y79 ∧ orderOf_l4 d16 l47 y58 y59 rec60 k81 c78 y79 = some r) fu ?_ ?_ ?_
 exact ⟨M72, true, (0 : Int), (Mm.ext.refl _ _ _), hS, hT73_1, hT73_5, hT73_7, hT73_8, hT73_9, rfl, rfl, hz⟩
 rintro T' w' ⟨_, _, _, _, _, _, _, _, _, _, _, _, hz⟩
 rw [orderOf_l4] at hz
 cases hz
 intro k81
 rintro T77 w75 ⟨M76, c78, y79, hx83, hS, hT77_1, hT77_5, hT77_7, hT77_8, hT77_9, hT77_10, hT77_44, hz⟩
 replace hcx1 := Rep.mono hx83.1 hcx1
 replace hb15 := Rep.mono hx83.1 hb15
 replace hv48 := repL.mono hx83.1 hv48
 replace hE := Mm.ext.trans hE hx83
 replace hF20 := Mm.ext.trans hF20 hx83
 replace hF43 := Mm.ext.trans hF43 hx83
 replace hF51 := Mm.ext.trans hF51 hx83
 replace hF62 := Mm.ext.trans hF62 hx83
 replace hF70 := Mm.ext.trans hF70 hx83
 have hF82 := hx83
 rw [orderOf_l4] at hz
 obtain ⟨rec80, hrec80⟩ : ∃ f, f = orderOf_l4 d16 l47 y58 y59 rec60 k81 := ⟨_, rfl⟩
 rw [← hrec80] at hz
 refine W_seq <|W_reg <|WL_y (Y_lss hT77_44 rfl) ?_
 refine WL_nil (nm_then ?_)
 refine W_seq ?_
 refine W_cond rfl (fun hc84 => ?_) (fun hc84 => ?_)
 replace hz := bif_ok_t hz hc84
 refine W_skip (nm_then ?_)
 refine W_seqJ (fun T' w' => ∃ M86 c88, Mm.ext w.heap.size noX M76 M86 ∧ St w noX M86 [.row v48 3 1, .box b11 cs15 106, .box b4 cx1 64] w' ∧ T' 1 = .int .i64 x2 ∧ T' 5 = .pointer (some ⟨b11, 0, none⟩) ∧ T' 7 = v48 ∧ T' 8 = .int .i64 y58 ∧ T' 9 = .int .i64 y59 ∧ T' 10 = .bool c88 ∧ T' 44 = .int .i64 y79 ∧ orderOf_j4 y79 rec80 c88 = some r) ?_ ?_
 have hF90 := Mm.ext.refl w.heap.size noX M76
 refine W_block <|W_seq <|W_reg <|WL_y (Y_move (.int .i64 y79) hT77_44) <|WL_y (Y_assign (.int .i64 y79) rfl) ?_
 refine WL_nil (nm_then ?_)
 refine W_reg <|WL_y (Y_move (.bool c78) hT77_10) <|WL_y (Y_move (.bool c78) rfl) ?_
 rcases ic hz with ⟨hc91, hz⟩ | ⟨hc91, hz⟩ <;> rw [hc91]
 refine WL_gy rfl rfl (Y_move (.int .i64 y59) hT77_9) <|WL_gy rfl rfl (Y_move (.int .i64 y79) rfl) ?_
 obtain ⟨u92, hx93, hz⟩ := bind_ok hz
 obtain ⟨hx93a, hx93b⟩ := inR_some hx93
 refine WL_gy rfl rfl (Y_ixA ia106 hT77_5 rfl hx93a hx93b) ?_
 obtain ⟨u94, hx95, hz⟩ := bind_ok hz
 obtain ⟨hx95a, hx95b⟩ := inR_some hx95
 refine WL_gy rfl rfl (Y_ixA ia61 rfl rfl hx95a hx95b) ?_
 obtain ⟨x96, hx97, hz⟩ := bind_ok hz
 obtain ⟨x98, hx99, hz⟩ := bind_ok hz
 refine WL_gy rfl rfl (Y_ld1 (.bool x98) ts4 rfl (hS.bvB 1 rfl) (vp (k := 1) rfl rfl (vp (k := 32) rfl rfl (rr hb15) hx97) hx99)) <|WL_gy rfl rfl (Y_not rfl) <|WL_gy rfl rfl (Y_move (.bool (!x98)) rfl) ?_
 rcases ic hz with ⟨hc100, hz⟩ | ⟨hc100, hz⟩ <;> rw [hc100]
 refine WL_d 13 rfl ?_
 refine WL_nil (nm_blk ?_)
 refine (nm_then ?_)
 exact ⟨M76, true, hF90, hS, hT77_1, hT77_5, hT77_7, hT77_8, hT77_9, rfl, hT77_44, hz⟩
 refine WL_gy rfl rfl (Y_move (.int .i64 y79) rfl) <|WL_gy rfl rfl (Y_move (.int .i64 y59) hT77_9) ?_
 obtain ⟨u101, hx102, hz⟩ := bind_ok hz
 obtain ⟨hx102a, hx102b⟩ := inR_some hx102
 refine WL_gy rfl rfl (Y_ixA ia106 hT77_5 rfl hx102a hx102b) ?_
 obtain ⟨u103, hx104, hz⟩ := bind_ok hz
 obtain ⟨hx104a, hx104b⟩ := inR_some hx104
 refine WL_gy rfl rfl (Y_ixA ia61 rfl rfl hx104a hx104b) ?_
 obtain ⟨x105, hx106, hz⟩ := bind_ok hz
 obtain ⟨x107, hx108, hz⟩ := bind_ok hz
 refine WL_gy rfl rfl (Y_ld1 (.bool x107) ts4 rfl (hS.bvB 1 rfl) (vp (k := 1) rfl rfl (vp (k := 32) rfl rfl (rr hb15) hx106) hx108)) <|WL_d 2 rfl ?_
 rcases ic hz with ⟨hc109, hz⟩ | ⟨hc109, hz⟩ <;> rw [hc109]
 refine WL_d 6 rfl ?_
 refine WL_nil (nm_blk ?_)
 refine (nm_then ?_)
 exact ⟨M76, true, hF90, hS, hT77_1, hT77_5, hT77_7, hT77_8, hT77_9, rfl, hT77_44, hz⟩
 refine WL_gy rfl rfl (Y_move (v48) hT77_7) <|WL_gy rfl rfl (Y_move (.int .i64 y79) rfl) ?_
 obtain ⟨r112, hr111, hz⟩ := bind_ok hz
 replace hr111 := Option.some.inj hr111
 refine WL_g rfl rfl (O_val (vs := [v48, .int .i64 y79]) (v := .bool r112) cb65 (args2 rfl rfl) hS (hr111 ▸ (c_refHas hS.agree hv48)) ?_)
 intro w110 hS
 refine WL_d 3 rfl ?_
 refine WL_nil (nm_blk ?_)
 refine (nm_then ?_)
 exact ⟨M76, r112, hF90, hS, hT77_1, hT77_5, hT77_7, hT77_8, hT77_9, rfl, hT77_44, hz⟩
 refine WL_d 20 rfl ?_
 refine WL_nil (nm_blk ?_)
 refine (nm_then ?_)
 exact ⟨M76, false, hF90, hS, hT77_1, hT77_5, hT77_7, hT77_8, hT77_9, rfl, hT77_44, hz⟩
 rintro T87 w85 ⟨M86, c88, hx89, hS, hT87_1, hT87_5, hT87_7, hT87_8, hT87_9, hT87_10, hT87_44, hz⟩
 replace hcx1 := Rep.mono hx89.1 hcx1
 replace hb15 := Rep.mono hx89.1 hb15
 replace hv48 := repL.mono hx89.1 hv48
 replace hE := Mm.ext.trans hE hx89
 replace hF20 := Mm.ext.trans hF20 hx89
 replace hF43 := Mm.ext.trans hF43 hx89
 replace hF51 := Mm.ext.trans hF51 hx89
 replace hF62 := Mm.ext.trans hF62 hx89
 replace hF70 := Mm.ext.trans hF70 hx89
 replace hF82 := Mm.ext.trans hF82 hx89
 rw [orderOf_j4] at hz
 refine W_reg <|WL_y (Y_add hT87_44 rfl) <|WL_y (Y_move (.int .i64 (IntKind.wrap .i64 (y79 + 1))) rfl) ?_
 refine WL_nil (nm_then ?_)
 exact ⟨M86, c88, (IntKind.wrap .i64 (y79 + 1)), hF82, hS, hT87_1, hT87_5, hT87_7, hT87_8, hT87_9, hT87_10, rfl, (by rw [← hrec80]; exact hz)⟩
 replace hz := bif_ok_f hz hc84
 refine W_exit <|ex_then <|ex_then <|ex_hit ?_
 refine (nm_then ?_)
 refine W_seq <|W_reg <|WL_y (Y_move (.bool c78) hT77_10) ?_
 refine WL_nil (nm_then ?_)
 refine W_cond rfl (fun hc113 => ?_) (fun hc113 => ?_)
 replace hz := bif_ok_t hz hc113
 refine W_reg <|WL_y (Y_move (.int .i64 y59) hT77_9) <|WL_y (Y_assign (.int .i64 y59) rfl) ?_
 refine WL_nil (nm_blk ?_)
 refine (nm_then ?_)
 exact ⟨M76, y59, hF70, hS, hT77_1, hT77_5, hT77_7, rfl, hT77_9, hz⟩
 replace hz := bif_ok_f hz hc113
 refine W_skip (nm_blk ?_)
 refine (nm_then ?_)
 exact ⟨M76, y58, hF70, hS, hT77_1, hT77_5, hT77_7, hT77_8, hT77_9, hz⟩
 rintro T67 w65 ⟨M66, y68, hx69, hS, hT67_1, hT67_5, hT67_7, hT67_8, hT67_9, hz⟩
 replace hcx1 := Rep.mono hx69.1 hcx1
 replace hb15 := Rep.mono hx69.1 hb15
 replace hv48 := repL.mono hx69.1 hv48
 replace hE := Mm.ext.trans hE hx69
 replace hF20 := Mm.ext.trans hF20 hx69
 replace hF43 := Mm.ext.trans hF43 hx69
 replace hF51 := Mm.ext.trans hF51 hx69
 replace hF62 := Mm.ext.trans hF62 hx69
 rw [orderOf_j2] at hz
 refine W_reg <|WL_y (Y_move (.int .i64 y59) hT67_9) <|WL_y (Y_sub rfl rfl) <|WL_y (Y_assign (.int .i64 (IntKind.wrap .i64 (y59 - 1))) rfl) ?_
 refine WL_nil (nm_then ?_)
 exact ⟨M66, y68, (IntKind.wrap .i64 (y59 - 1)), hF62, hS, hT67_1, hT67_5, hT67_7, hT67_8, rfl, (by rw [← hrec60]; exact hz)⟩
 replace hz := bif_ok_f hz hc64
 refine W_exit <|ex_then <|ex_then <|ex_hit ?_
 refine (nm_then ?_)
 refine W_seq <|W_seq <|W_reg <|WL_y (Y_move (.int .i64 y58) hT57_8) <|WL_y (Y_lss rfl rfl) ?_
 refine WL_nil (nm_then ?_)
 refine W_cond rfl (fun hc134 => ?_) (fun hc134 => ?_)
 replace hz := bif_ok_t hz hc134
 refine W_exit <|ex_then <|ex_blk rfl <|ex_then <|ex_hit ?_
 refine (nm_then ?_)
 exact ⟨M56, v48, l47, hF43, hS, hv48, hT57_7, hz⟩
 replace hz := bif_ok_f hz hc134
 refine W_skip (nm_then ?_)
 refine W_seq <|W_reg <|WL_y (Y_move (.int .i64 0) rfl) ?_
 refine WL_nil (nm_then ?_)
 refine W_block ?_
 refine W_loop (fun k142 T' w' => ∃ M136 v139 l138 y140, Mm.ext w.heap.size noX M56 M136 ∧ St w noX M136 [.row v139 3 1, .box b11 cs15 106, .box b4 cx1 64] w' ∧ repL M136 v139 l138 ∧ T' 1 = .int .i64 x2 ∧ T' 5 = .pointer (some ⟨b11, 0, none⟩) ∧ T' 7 = v139 ∧ T' 8 = .int .i64 y58 ∧ T' 73 = .int .i64 y140 ∧ orderOf_l5 d16 rec49 y58 k142 l138 y140 = some r) fu ?_ ?_ ?_
 exact ⟨M56, v48, l47, (0 : Int), (Mm.ext.refl _ _ _), hS, hv48, hT57_1, hT57_5, hT57_7, hT57_8, rfl, hz⟩
 rintro T' w' ⟨_, _, _, _, _, _, _, _, _, _, _, _, hz⟩
 rw [orderOf_l5] at hz
 cases hz
 intro k142
 rintro T137 w135 ⟨M136, v139, l138, y140, hx144, hS, hv139, hT137_1, hT137_5, hT137_7, hT137_8, hT137_73, hz⟩
 replace hcx1 := Rep.mono hx144.1 hcx1
 replace hb15 := Rep.mono hx144.1 hb15
 replace hE := Mm.ext.trans hE hx144
 replace hF20 := Mm.ext.trans hF20 hx144
 replace hF43 := Mm.ext.trans hF43 hx144
 replace hF51 := Mm.ext.trans hF51 hx144
 replace hF62 := Mm.ext.trans hF62 hx144
 have hF143 := hx144
 rw [orderOf_l5] at hz
 obtain ⟨rec141, hrec141⟩ : ∃ f, f = orderOf_l5 d16 rec49 y58 k142 := ⟨_, rfl⟩
 rw [← hrec141] at hz
 refine W_seq <|W_reg <|WL_y (Y_lss hT137_73 rfl) ?_
 refine WL_nil (nm_then ?_)
 refine W_seq ?_
 refine W_cond rfl (fun hc145 => ?_) (fun hc145 => ?_)
 replace hz := bif_ok_t hz hc145
 refine W_skip (nm_then ?_)
 refine W_seqJ (fun T' w' => ∃ M147 v150 l149, Mm.ext w.heap.size noX M136 M147 ∧ St w noX M147 [.row v150 3 1, .box b11 cs15 106, .box b4 cx1 64] w' ∧ repL M147 v150 l149 ∧ T' 1 = .int .i64 x2 ∧ T' 5 = .pointer (some ⟨b11, 0, none⟩) ∧ T' 7 = v150 ∧ T' 8 = .int .i64 y58 ∧ T' 73 = .int .i64 y140 ∧ orderOf_j6 y140 rec141 l149 = some r) ?_ ?_
 have hF152 := Mm.ext.refl w.heap.size noX M136
 refine W_block <|W_seq <|W_reg <|WL_y (Y_move (.int .i64 y140) hT137_73) <|WL_y (Y_assign (.int .i64 y140) rfl) ?_
 refine WL_nil (nm_then ?_)
 refine W_seqJ (fun T' w' => ∃ M154 c156, Mm.ext w.heap.size noX M136 M154 ∧ St w noX M154 [.row v139 3 1, .box b11 cs15 106, .box b4 cx1 64] w' ∧ T' 1 = .int .i64 x2 ∧ T' 5 = .pointer (some ⟨b11, 0, none⟩) ∧ T' 7 = v139 ∧ T' 8 = .int .i64 y58 ∧ T' 12 = .int .i64 y140 ∧ T' 73 = .int .i64 y140 ∧ T' 87 = .bool c156 ∧ orderOf_j7 l138 y140 rec141 c156 = some r) ?_ ?_
 have hF164 := Mm.ext.refl w.heap.size noX M136
 refine W_reg <|WL_y (Y_move (.int .i64 y140) rfl) <|WL_y (Y_move (.int .i64 y58) hT137_8) ?_
 obtain ⟨u165, hx166, hz⟩ := bind_ok hz
 obtain ⟨hx166a, hx166b⟩ := inR_some hx166
 refine WL_y (Y_ixA ia106 hT137_5 rfl hx166a hx166b) ?_
 obtain ⟨u167, hx168, hz⟩ := bind_ok hz
 obtain ⟨hx168a, hx168b⟩ := inR_some hx168
 refine WL_y (Y_ixA ia61 rfl rfl hx168a hx168b) ?_
 obtain ⟨x169, hx170, hz⟩ := bind_ok hz
 obtain ⟨x171, hx172, hz⟩ := bind_ok hz
 refine WL_y (Y_ld1 (.bool x171) ts4 rfl (hS.bvB 1 rfl) (vp (k := 1) rfl rfl (vp (k := 32) rfl rfl (rr hb15) hx170) hx172)) <|WL_y (Y_move (.bool x171) rfl) ?_
 rcases ic hz with ⟨hc173, hz⟩ | ⟨hc173, hz⟩ <;> rw [hc173]
 refine WL_gy rfl rfl (Y_move (.int .i64 y58) hT137_8) <|WL_gy rfl rfl (Y_move (.int .i64 y140) rfl) ?_
 obtain ⟨u174, hx175, hz⟩ := bind_ok hz
 obtain ⟨hx175a, hx175b⟩ := inR_some hx175
 refine WL_gy rfl rfl (Y_ixA ia106 hT137_5 rfl hx175a hx175b) ?_
 obtain ⟨u176, hx177, hz⟩ := bind_ok hz
 obtain ⟨hx177a, hx177b⟩ := inR_some hx177
 refine WL_gy rfl rfl (Y_ixA ia61 rfl rfl hx177a hx177b) ?_
 obtain ⟨x178, hx179, hz⟩ := bind_ok hz
 obtain ⟨x180, hx181, hz⟩ := bind_ok hz
 refine WL_gy rfl rfl (Y_ld1 (.bool x180) ts4 rfl (hS.bvB 1 rfl) (vp (k := 1) rfl rfl (vp (k := 32) rfl rfl (rr hb15) hx179) hx181)) <|WL_y (Y_pick_t (.bool x180) rfl rfl) ?_
 refine WL_nil (nm_then ?_)
 exact ⟨M136, x180, hF164, hS, hT137_1, hT137_5, hT137_7, hT137_8, rfl, hT137_73, rfl, hz⟩
 refine WL_d 6 rfl ?_
 refine WL_nil (nm_then ?_)
 exact ⟨M136, false, hF164, hS, hT137_1, hT137_5, hT137_7, hT137_8, rfl, hT137_73, rfl, hz⟩
 rintro T155 w153 ⟨M154, c156, hx157, hS, hT155_1, hT155_5, hT155_7, hT155_8, hT155_12, hT155_73, hT155_87, hz⟩
 replace hcx1 := Rep.mono hx157.1 hcx1
 replace hb15 := Rep.mono hx157.1 hb15
 replace hv139 := repL.mono hx157.1 hv139
 replace hE := Mm.ext.trans hE hx157
 replace hF20 := Mm.ext.trans hF20 hx157
 replace hF43 := Mm.ext.trans hF43 hx157
 replace hF51 := Mm.ext.trans hF51 hx157
 replace hF62 := Mm.ext.trans hF62 hx157
 replace hF143 := Mm.ext.trans hF143 hx157
 replace hF152 := Mm.ext.trans hF152 hx157
 rw [orderOf_j7] at hz
 refine W_cond hT155_87 (fun hc158 => ?_) (fun hc158 => ?_)
 replace hz := bif_ok_t hz hc158
 refine W_reg <|WL_y (Y_move (v139) hT155_7) <|WL_y (Y_move (.int .i64 y140) hT155_12) ?_
 refine WL_c (O_bslice (α := Int) (l := ([y140] : List Int)) [.int .i64 y140] tl27 (bpc rfl bp0) rfl rfl (by decide) (by decide) (by decide) hS (brc (ri y140 : rep M154 _ _) br0) ?_)
 intro v160 M160 w159 hx160 hv160 hS
 replace hcx1 := Rep.mono hx160.1 hcx1
 replace hb15 := Rep.mono hx160.1 hb15
 replace hv139 := repL.mono hx160.1 hv139
 replace hE := Mm.ext.trans hE hx160
 replace hF20 := Mm.ext.trans hF20 hx160
 replace hF43 := Mm.ext.trans hF43 hx160
 replace hF51 := Mm.ext.trans hF51 hx160
 replace hF62 := Mm.ext.trans hF62 hx160
 replace hF143 := Mm.ext.trans hF143 hx160
 replace hF152 := Mm.ext.trans hF152 hx160
 obtain ⟨l163, hr162, hz⟩ := bind_ok hz
 obtain ⟨hy162, hs162⟩ := app_some hr162
 refine WL_c (O_app (α := Int) (j := 0) tp27 hS rfl rfl rfl hv139 hv160 hy162 ?_)
 intro v162 M162 w161 hx162 hv162 hS
 rw [← hs162] at hv162
 clear hr162 hs162
 replace hcx1 := Rep.mono hx162.1 hcx1
 replace hb15 := Rep.mono hx162.1 hb15
 replace hv139 := repL.mono hx162.1 hv139
 replace hv160 := repL.mono hx162.1 hv160
 replace hE := Mm.ext.trans hE hx162
 replace hF20 := Mm.ext.trans hF20 hx162
 replace hF43 := Mm.ext.trans hF43 hx162
 replace hF51 := Mm.ext.trans hF51 hx162
 replace hF62 := Mm.ext.trans hF62 hx162
 replace hF143 := Mm.ext.trans hF143 hx162
 replace hF152 := Mm.ext.trans hF152 hx162
 refine WL_y (Y_assign (v162) rfl) ?_
 refine WL_nil (nm_blk ?_)
 refine (nm_then ?_)
 exact ⟨M162, v162, l163, hF152, hS, hv162, hT155_1, hT155_5, rfl, hT155_8, hT155_73, hz⟩
 replace hz := bif_ok_f hz hc158
 refine W_skip (nm_blk ?_)
 refine (nm_then ?_)
 exact ⟨M154, v139, l138, hF152, hS, hv139, hT155_1, hT155_5, hT155_7, hT155_8, hT155_73, hz⟩
 rintro T148 w146 ⟨M147, v150, l149, hx151, hS, hv150, hT148_1, hT148_5, hT148_7, hT148_8, hT148_73, hz⟩
 replace hcx1 := Rep.mono hx151.1 hcx1
 replace hb15 := Rep.mono hx151.1 hb15
 replace hE := Mm.ext.trans hE hx151
 replace hF20 := Mm.ext.trans hF20 hx151
 replace hF43 := Mm.ext.trans hF43 hx151
 replace hF51 := Mm.ext.trans hF51 hx151
 replace hF62 := Mm.ext.trans hF62 hx151
 replace hF143 := Mm.ext.trans hF143 hx151
 rw [orderOf_j6] at hz
 refine W_reg <|WL_y (Y_add hT148_73 rfl) <|WL_y (Y_move (.int .i64 (IntKind.wrap .i64 (y140 + 1))) rfl) ?_
 refine WL_nil (nm_then ?_)
 exact ⟨M147, v150, l149, (IntKind.wrap .i64 (y140 + 1)), hF143, hS, hv150, hT148_1, hT148_5, hT148_7, hT148_8, rfl, (by rw [← hrec141]; exact hz)⟩
 replace hz := bif_ok_f hz hc145
 refine W_exit <|ex_then <|ex_then <|ex_hit ?_
 refine (nm_blk ?_)
 refine (nm_then ?_)
 exact ⟨M136, v139, l138, hF51, hS, hv139, hT137_1, hT137_5, hT137_7, (by rw [← hrec49]; exact hz)⟩
 replace hz := bif_ok_f hz hc54
 refine W_exit <|ex_then <|ex_then <|ex_hit ?_
 refine (nm_then ?_)
 exact ⟨M45, v48, l47, hF43, hS, hv48, hT46_7, hz⟩
 rintro T39 w37 ⟨M38, v41, l40, hx42, hS, hv41, hT39_7, hz⟩
 replace hcx1 := Rep.mono hx42.1 hcx1
 replace hb15 := Rep.mono hx42.1 hb15
 replace hE := Mm.ext.trans hE hx42
 replace hF20 := Mm.ext.trans hF20 hx42
 rw [orderOf_j1] at hz
 refine W_seq <|W_reg <|WL_y (Y_move (v41) hT39_7) <|WL_y (Y_assign (v41) rfl) ?_
 refine WL_nil (nm_then ?_)
 cases hz
 exact W_ret (R_t1 rfl rfl (Gives.mk (St.dropB (St.dropB (St.drop hS) hb11) hb4) hE hv41))
end Go.Proofs.Ytopgdemmdcipcaa
namespace Go.Proofs.Ytopgdemmdcipcaa
open Go.RowKit
open Rep (rep)
section
variable {P : Program} {n : Nat} {Q : Exit → Tm → World → Prop} {T : Tm} {w : World}
theorem W_J {x : Code} (J : Tm → World → Prop) (h : W P n x (thenQ J Q) T w) (hJ : ∀ T w, J T w → Q .normal T w) : W P n x Q T w :=
  W_mono (fun e T w hq => by cases e <;> first | exact hJ _ _ hq | exact hq) h
end
section
variable {P : Program} {ops : Array Oper} {Q : Exit → Act → World → Prop} {md : Region.Mode} {S : World → Prop} {B C : Nat → Bool}
theorem wpAnyB_firstC {i : Nat} {oi : Oper} {v : Value} (hi : ops[i]? = some oi) (hsel : ∀ (j : Nat) (o : Oper) cs b, ops[j]? = some o → o.op ≠ .select cs b)
    (hQ : ∀ c a w, Q (.panic c) (a.put oi.dst v) w → Q (.panic c) a w) (hBi : C i = false) (hBC : ∀ j, B j = true → C j = true) (hC : ∀ j, C j = true → ∃ k, (k = i ∨ C k = true) ∧ waits md ops k j = true) :
    ∀ (fuel : Nat) (listed : Array Bool) (a : Act) (w : World),
      (∀ j oj, ops[j]? = some oj → j ≠ i → listed.getD j true = false → (∀ e ∈ oj.after, Region.binds md e = true → e.on ≠ i) → oi.apart ops oj = true) →
      i ∈ Region.ready md ops listed → YieldsIf P ops S oi v a → noB C listed → (noB B listed → S w) →
      wpAnyB P md ops Q S B fuel (listed.setIfInBounds i true) (a.put oi.dst v) w → wpAnyB P md ops Q S B (fuel + 1) listed a w := by
  have toB : ∀ L : Array Bool, noB C L → noB B L := fun L h b hb => h b (hBC b hb)
  have hBi' : B i = false := by
    cases h : B i with
    | false => rfl
    | true => rw [hBC i h] at hBi; cases hBi
  intro fuel
  induction fuel with
  | zero =>
    intro listed a w _ hr hy hN hSi H
    refine ⟨fun h => (by rw [h] at hr; cases hr), fun j hj => ?_⟩
    by_cases hji : j = i
    · subst hji; exact hy.wpOp hi (hSi (toB _ hN)) ⟨fun hn => hSi ((noB_set hBi').1 hn), H⟩
    · have := ready_mono hj hji
      rw [H.1] at this
      cases this
  | succ fuel ih =>
    intro listed a w hfree hr hy hN hSi H
    refine ⟨fun h => (by rw [h] at hr; cases hr), fun j hj => ?_⟩
    by_cases hji : j = i
    · subst hji; exact hy.wpOp hi (hSi (toB _ hN)) ⟨fun hn => hSi ((noB_set hBi').1 hn), H⟩
    · have h1 := H.2 j (ready_mono hj hji)
      obtain ⟨hjun, oj, hoj, hall⟩ := mem_ready.1 hj
      have hun : ∀ k, listed.getD k true = false → ∀ e ∈ oj.after, Region.binds md e = true → e.on ≠ k := fun k h0 e he hb heq => by
        have h1 := hall e he hb
        rw [heq] at h1
        rcases Nat.lt_or_ge k listed.size with h' | h'
        · simp [h'] at h0 h1; rw [h0] at h1; cases h1
        · simp [Array.getElem?_eq_none h'] at h1
      have hnot := hun i (mem_ready.1 hr).1
      have hCj : C j = false := by
        cases hb : C j with
        | false => rfl
        | true =>
          obtain ⟨k, hk, hw⟩ := hC j hb
          have hk0 : listed.getD k true = false := by
            rcases hk with rfl | hk
            · exact (mem_ready.1 hr).1
            · exact hN k hk
          simp only [waits, hoj, Option.map_some, Option.getD_some, Array.any_eq_true, Bool.and_eq_true, beq_iff_eq] at hw
          obtain ⟨q, hq, hbq, hon⟩ := hw
          exact absurd hon (hun k hk0 _ (Array.getElem_mem hq) hbq)
      have h2 := wpOp_putIf hoj (hfree j oj hoj hji hjun hnot) (fun cs b => hsel i oi cs b hi) (fun cs b => hsel j oj cs b hoj) hQ hy h1
      have hfree' : ∀ k ok, ops[k]? = some ok → k ≠ i → (listed.setIfInBounds j true).getD k true = false →
          (∀ e ∈ ok.after, Region.binds md e = true → e.on ≠ i) → oi.apart ops ok = true := fun k ok hk hki hun hno => by
        refine hfree k ok hk hki ?_ hno
        by_cases hjk : j = k
        · subst hjk; exact hjun
        · rw [getD_set_ne true hjk] at hun; exact hun
      have hcomm : (listed.setIfInBounds i true).setIfInBounds j true = (listed.setIfInBounds j true).setIfInBounds i true := Array.setIfInBounds_comm _ _ (Ne.symm hji)
      refine wpOp_mono (fun a' w' h3 => ?_) h2
      have hSj : noB B (listed.setIfInBounds j true) → S w' := fun hn => h3.2.1 (by rw [hcomm]; exact (noB_set hBi').2 hn)
      refine ⟨hSj, ih (listed.setIfInBounds j true) a' w' hfree' (ready_mono hr (Ne.symm hji)) h3.1 ((noB_set hCj).2 hN) hSj ?_⟩
      rw [← hcomm]
      exact h3.2.2
end
section
variable {P : Program} {n : Nat} {Q : Exit → Tm → World → Prop} {T : Tm} {w : World} {l : List Oper} {S : World → Prop} {B C : Nat → Bool}
theorem WB_ldC {i f d : Nat} {op : Op} {ty : TypeId} {pos : String} {af : Array Edge} {v : Value} {L : List Bool} (hi : l[i]? = some ⟨some d, op, ty, pos, af, none⟩)
    (hs : mayFirst l L i = true) (hBi : C i = false) (hCl : ∀ b, C b = true → b < L.length) (hBC : (List.range L.length).all (fun j => !B j || C j) = true ∧ (∀ b, B b = true → b < L.length))
    (hC : (List.range L.length).all (fun j => !C j || (List.range L.length).any fun k => (k == i || C k) && waits .any l.toArray k j) = true) (hN : noBb C L = true)
    (h : YV P S T ⟨some d, op, ty, pos, af, none⟩ v) (hS : S w) (k : WB P n l Q S B f (L.set i true) (upd T d v) w) : WB P n l Q S B (f + 1) L T w := by
  intro hok a ha
  simp only [mayFirst, Bool.and_eq_true] at hs
  have hi' : l.toArray[i]? = some ⟨some d, op, ty, pos, af, none⟩ := by simpa using hi
  refine wpAnyB_firstC (C := C) (v := v) hi' (Region.noSelect_spec hs.1.1) (fun c a w h => h) hBi (fun j hj => ?_) (fun j hj => ?_) f L.toArray a w (Region.free_spec hi' hs.1.2) (by simpa using hs.2) (.inl ⟨rfl, fun w' hw' => ?_⟩) (noB_of hCl hN) (fun _ => hS) ?_
  · have := List.all_eq_true.1 hBC.1 j (List.mem_range.2 (hBC.2 j hj))
    rw [hj] at this
    simpa using this
  · have := List.all_eq_true.1 hC j (List.mem_range.2 (hCl j hj))
    rw [hj] at this
    simp only [Bool.not_true, Bool.false_or, List.any_eq_true, Bool.and_eq_true, Bool.or_eq_true, beq_iff_eq] at this
    obtain ⟨k, _, hk, hw⟩ := this
    exact ⟨k, hk, hw⟩
  · rw [ha.eval]; exact h w' hw'
  · have := k hok _ (ha.put (some d) v (operOk.lt (okAt hi hok)))
    simpa using this
end
end Go.Proofs.Ytopgdemmdcipcaa
