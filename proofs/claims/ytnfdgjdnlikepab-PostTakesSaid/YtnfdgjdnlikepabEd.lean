/- What functions compute, and that they do. (Written by dc.py.) -/
import Derived.Test.YtnfdgjdnlikepabEt
namespace Go.Proofs.Ytnfdgjdnlikepab
open Go.RowKit
open Rep (rep)
set_option linter.unusedVariables false

def copyCaseD (fu : Nat) (x1 : GCase) : Option GCase :=
    (app ([] : List GOp) x1.ops).bind fun l14 =>
    (app ([] : List Int) x1.deps).bind fun l19 =>
    (some ({ x1 with ops := l14 } : GCase)).bind fun d23 =>
    (some ({ d23 with deps := l19 } : GCase)).bind fun d26 =>
    (some d26).bind fun d30 =>
    some d30

set_option maxRecDepth 100000 in
set_option maxHeartbeats 4000000 in
theorem copyCase_ok {M : Mm} {w : World} {cx1 : List Value} {x1 : GCase} {fu : Nat} {r : GCase} (hA : Agree M w) (hcx1 : rep M cx1 x1) (hz : copyCaseD fu x1 = some r) :
    Calls Try.prog 35 #[.agg cx1.toArray] w (Gives M w (fun M' u => ∃ cs, u = .agg cs.toArray ∧ rep M' cs r)) := by
  refine calls_W Try.func35 rfl 12 rfl rfl (by kernel_rfl) fun T hT => ?_
  have hT_0 : T 0 = .agg cx1.toArray := hT 0
  clear hT
  have hE := Mm.ext.refl w.heap.size noX M
  have hS : St w noX M [] w := St.start hA
  rw [copyCaseD] at hz
  refine W_seq ?_
  refine W_reg ?_
  refine WL_c (O_box (v := .agg cx1.toArray) (cs := cx1) hT_0 rfl hS ?_)
  intro b3 w2 hb3 hS
  replace hS : St w noX M [.box b3 cx1 45] w2 := hS
  refine WL_c (O_alloc tz45 hS ?_)
  intro b5 w4 hb5 hS
  replace hS : St w noX M [.box b5 (Zr.zc GCase) 45, .box b3 cx1 45] w4 := hS
  have zb5 : rep M (Zr.zc GCase) (Zr.zd : GCase) := Zr.zr
  refine WL_nil (nm_then ?_)
  refine W_seq ?_
  refine W_drawB (Rd M [.box b3 cx1 45]) (inL [7, 9]) mixed hS fun w6 hS => ?_
  have hG7 := Mm.ext.refl w.heap.size noX M
  have hR8 : Rd M [.box b3 cx1 45] w6 := Rd.of hS hG7 (by simp)
  refine WB_y (i := 0) rfl (by kernel_rfl) rfl (Y_fa fa45_2 rfl) (fun _ => hR8) ?_
  obtain ⟨v9, ev9, hv9⟩ := (GCase.p2 (rep_root (k := 24) rfl hcx1))
  refine WB_ld (i := 1) rfl (by kernel_rfl) rfl (inL_lt rfl) (by kernel_rfl) (by kernel_rfl) (Y_ld1 v9 ts40 rfl (bvR 0 rfl) ev9) hR8 ?_
  refine WB_y (i := 3) rfl (by kernel_rfl) rfl (Y_fa fa45_5 rfl) (fun _ => hR8) ?_
  obtain ⟨v10, ev10, hv10⟩ := (GCase.p5 (rep_root (k := 24) rfl hcx1))
  refine WB_ld (i := 4) rfl (by kernel_rfl) rfl (inL_lt rfl) (by kernel_rfl) (by kernel_rfl) (Y_ld1 v10 ts23 rfl (bvR 0 rfl) ev10) hR8 ?_
  replace hS := hS.nilRow 114 3
  replace hS : St w noX M [.row (.slice none 0 0) 114 3, .box b5 (Zr.zc GCase) 45, .box b3 cx1 45] w6 := hS
  obtain ⟨l14, hr13, hz⟩ := bind_ok hz
  obtain ⟨hy13, hr13⟩ := app_some hr13
  refine WB_one (i := 2) (by kernel_rfl) rfl (O_app (α := GOp) (j := 0) tp40 hS rfl rfl rfl (repL_nil _) hv9 hy13 ?_)
  intro v13 M13 w11 hx13 hv13 hS
  rw [← hr13] at hv13
  clear hr13
  replace hcx1 := Rep.mono hx13.1 hcx1
  replace zb5 := Rep.mono hx13.1 zb5
  replace hv9 := repL.mono hx13.1 hv9
  replace hv10 := repL.mono hx13.1 hv10
  replace hE := Mm.ext.trans hE hx13
  replace hG7 := Mm.ext.trans hG7 hx13
  replace hS : St w noX M13 [.row v13 114 3, .box b5 (Zr.zc GCase) 45, .box b3 cx1 45] w11 := hS
  have hR15 : Rd M [.box b3 cx1 45] w11 := Rd.of hS hG7 (by simp)
  refine ⟨fun _ => hR15, ?_⟩
  refine WB_y (i := 6) rfl (by kernel_rfl) rfl (Y_fa fa45_2 rfl) (fun _ => hR15) ?_
  replace hS := hS.nilRow 3 1
  replace hS : St w noX M13 [.row (.slice none 0 0) 3 1, .row v13 114 3, .box b5 (Zr.zc GCase) 45, .box b3 cx1 45] w11 := hS
  obtain ⟨l19, hr18, hz⟩ := bind_ok hz
  obtain ⟨hy18, hr18⟩ := app_some hr18
  refine WB_one (i := 5) (by kernel_rfl) rfl (O_app (α := Int) (j := 0) tp23 hS rfl rfl rfl (repL_nil _) hv10 hy18 ?_)
  intro v18 M18 w16 hx18 hv18 hS
  rw [← hr18] at hv18
  clear hr18
  replace hcx1 := Rep.mono hx18.1 hcx1
  replace zb5 := Rep.mono hx18.1 zb5
  replace hv9 := repL.mono hx18.1 hv9
  replace hv10 := repL.mono hx18.1 hv10
  replace hv13 := repL.mono hx18.1 hv13
  replace hE := Mm.ext.trans hE hx18
  replace hG7 := Mm.ext.trans hG7 hx18
  replace hS : St w noX M18 [.row v18 3 1, .row v13 114 3, .box b5 (Zr.zc GCase) 45, .box b3 cx1 45] w16 := hS
  have hR20 : Rd M [.box b3 cx1 45] w16 := Rd.of hS hG7 (by simp)
  refine ⟨fun _ => hR20, ?_⟩
  have hw22 : ([v13] : List Value).length = 1 := Rep.len (repL_rep hv13)
  have hl22 : (cx1).length = 24 := Rep.len hcx1
  obtain ⟨d23, hd22, hz⟩ := bind_ok hz
  have hb22 : rep M18 (pt cx1 (0 + 2) [v13]) d23 := rep_eq (rep_whole (k := 24) (by rw [pt_length (by omega)]; exact hl22) (GCase.s2 (rep_root (k := 24) rfl hcx1) (rep_leaf rfl (repL_rep hv13) (by omega)) (by omega) (by omega) (by omega))) hd22
  generalize hg22 : (pt cx1 (0 + 2) [v13]) = cs22 at hb22
  refine WB_one (i := 7) (by kernel_rfl) rfl (O_st (j := 3) (v := v13) (ws := [v13]) hS rfl (by kernel_rfl) rfl rfl (repL_cells hv13) hw22 (Rep.one (repL_rep hv13)) (by omega) ?_)
  rw [hg22]
  clear hg22
  intro w21 hS
  replace hS : St w noX M18 [.row v18 3 1, .row v13 114 3, .box b5 (Zr.zc GCase) 45, .box b3 cs22 45] w21 := hS
  refine ⟨fun h => Bool.noConfusion (show false = true from h), ?_⟩
  refine WB_y (i := 8) rfl (by kernel_rfl) rfl (Y_fa fa45_5 rfl) (fun h => Bool.noConfusion (show false = true from h)) ?_
  have hw25 : ([v18] : List Value).length = 1 := Rep.len (repL_rep hv18)
  have hl25 : (cs22).length = 24 := Rep.len hb22
  obtain ⟨d26, hd25, hz⟩ := bind_ok hz
  have hb25 : rep M18 (pt cs22 (0 + 15) [v18]) d26 := rep_eq (rep_whole (k := 24) (by rw [pt_length (by omega)]; exact hl25) (GCase.s5 (rep_root (k := 24) rfl hb22) (rep_leaf rfl (repL_rep hv18) (by omega)) (by omega) (by omega) (by omega))) hd25
  generalize hg25 : (pt cs22 (0 + 15) [v18]) = cs25 at hb25
  refine WB_one (i := 9) (by kernel_rfl) rfl (O_st (j := 3) (v := v18) (ws := [v18]) hS rfl (by kernel_rfl) rfl rfl (repL_cells hv18) hw25 (Rep.one (repL_rep hv18)) (by omega) ?_)
  rw [hg25]
  clear hg25
  intro w24 hS
  replace hS : St w noX M18 [.row v18 3 1, .row v13 114 3, .box b5 (Zr.zc GCase) 45, .box b3 cs25 45] w24 := hS
  refine ⟨fun h => Bool.noConfusion (show false = true from h), ?_⟩
  refine WB_done (by kernel_rfl) (nm_then ?_)
  refine W_seq ?_
  refine W_reg ?_
  have ha27 := (rep_root (k := 24) rfl hb25)
  refine WL_y (Y_ldn ta45 rfl (hS.bvB 3 rfl) (Rep.len ha27)) ?_
  have hw29 : ((sl cs25 (0) 24) : List Value).length = 24 := Rep.len ha27
  have hl29 : ((Zr.zc GCase)).length = 24 := Rep.len zb5
  obtain ⟨d30, hd29, hz⟩ := bind_ok hz
  have hb29 : rep M18 (pt (Zr.zc GCase) (0) (sl cs25 (0) 24)) d30 := rep_eq (rep_whole (k := 24) (by rw [pt_length (by omega)]; exact hl29) (rep_leaf rfl ha27 (by omega))) hd29
  generalize hg29 : (pt (Zr.zc GCase) (0) (sl cs25 (0) 24)) = cs29 at hb29
  refine WL_c (O_st (j := 2) (v := .agg (sl cs25 (0) 24).toArray) (ws := (sl cs25 (0) 24)) hS rfl (by kernel_rfl) rfl rfl rfl hw29 (Rep.one ha27) (by omega) ?_)
  rw [hg29]
  clear hg29
  intro w28 hS
  replace hS : St w noX M18 [.row v18 3 1, .row v13 114 3, .box b5 cs29 45, .box b3 cs25 45] w28 := hS
  refine WL_nil (nm_then ?_)
  cases hz
  exact W_ret (R_c (j := 2) rfl rfl (by rw [Rep.len hb29]; exact ta45) hS rfl (Gives.mk (St.dropB (St.dropB (St.drop (St.drop hS)) hb5) hb3) hE ⟨_, rfl, hb29⟩))

def takeAnswer_j3 (d45 : GCase) (d47 : GCase) : Option (GCase × (List GFrame) × Int) :=
    (some d47).bind fun d52 =>
    some (d52, [], 0)

def takeAnswer_j5 (y89 : Int) (rec90 : (Vector Int 2) → Int → Option (GCase × (List GFrame) × Int)) (d99 : Vector Int 2) : Option (GCase × (List GFrame) × Int) :=
    rec90 d99 (IntKind.wrap .i64 (y89 + 1))

def takeAnswer_j6 (fu : Nat) (x2 : Int) (d29 : GCase) (d128 : GCase) : Option (GCase × (List GFrame) × Int) :=
    (bif d128.fixed then
    (againCaseD fu d128 x2).bind fun r138 =>
    (some d128).bind fun d142 =>
    some (d142, r138, 0)
    else
    takeAnswer_j3 d29 d128)

def takeAnswer_l1 (fu : Nat) (x2 : Int) (d29 : GCase) (d77 : GCase) : Nat → (Vector Int 2) → Int → Option (GCase × (List GFrame) × Int)
  | 0, _, _ => none
  | n + 1, d88, y89 =>
    (bif decide (y89 < 6) then
    (inR y89 6).bind fun _ =>
    (idxV d77.told y89).bind fun x104 =>
    (bif x104 then
    (some (ofZ y89)).bind fun r109 =>
    (inR r109 2).bind fun _ =>
    (idxV d88 r109).bind fun x112 =>
    (inR r109 2).bind fun _ =>
    (idxV d88 r109).bind fun x118 =>
    (setV d88 r109 (IntKind.wrap .i64 (x112 + 1))).bind fun a121 =>
    (some a121).bind fun d123 =>
    takeAnswer_j5 y89 (takeAnswer_l1 fu x2 d29 d77 n) d123
    else
    takeAnswer_j5 y89 (takeAnswer_l1 fu x2 d29 d77 n) d88)
    else
    (idxV d88 0).bind fun x145 =>
    (bif decide (x145 > 1) then
    (idxV d88 1).bind fun x148 =>
    (bif decide (x148 > 1) then
    (some ({ d77 with fixed := true } : GCase)).bind fun d153 =>
    takeAnswer_j6 fu x2 d29 d153
    else
    (some (touchesZ d77.ops 1)).bind fun r157 =>
    (some ({ d77 with fixed := !r157 } : GCase)).bind fun d160 =>
    takeAnswer_j6 fu x2 d29 d160)
    else
    (some (touchesZ d77.ops 0)).bind fun r164 =>
    (bif !r164 then
    (idxV d88 1).bind fun x166 =>
    (bif decide (x166 > 1) then
    (some ({ d77 with fixed := true } : GCase)).bind fun d171 =>
    takeAnswer_j6 fu x2 d29 d171
    else
    (some (touchesZ d77.ops 1)).bind fun r175 =>
    (some ({ d77 with fixed := !r175 } : GCase)).bind fun d178 =>
    takeAnswer_j6 fu x2 d29 d178)
    else
    (some ({ d77 with fixed := false } : GCase)).bind fun d181 =>
    takeAnswer_j6 fu x2 d29 d181)))

def takeAnswer_j9 (y211 : Int) (rec212 : GCase → Int → Option (GCase × (List GFrame) × Int)) (d221 : GCase) : Option (GCase × (List GFrame) × Int) :=
    rec212 d221 (IntKind.wrap .i64 (y211 + 1))

def takeAnswer_j10 (x3 : GFrame) (d210 : GCase) (y211 : Int) (rec212 : GCase → Int → Option (GCase × (List GFrame) × Int)) (x225 : Int) (c229 : Bool) : Option (GCase × (List GFrame) × Int) :=
    (bif c229 then
    (idx x3.vals y211).bind fun x237 =>
    (inR x225 4).bind fun _ =>
    (idxV d210.has x225).bind fun x242 =>
    (setV d210.has x225 true).bind fun a245 =>
    (some ({ d210 with has := a245 } : GCase)).bind fun d247 =>
    (inR x225 4).bind fun _ =>
    (idxV d247.values x225).bind fun x253 =>
    (setV d247.values x225 x237).bind fun a256 =>
    (some ({ d247 with values := a256 } : GCase)).bind fun d258 =>
    takeAnswer_j9 y211 rec212 d258
    else
    takeAnswer_j9 y211 rec212 d210)

def takeAnswer_l2 (x3 : GFrame) (d29 : GCase) (r40 : Int) : Nat → GCase → Int → Option (GCase × (List GFrame) × Int)
  | 0, _, _ => none
  | n + 1, d210, y211 =>
    (bif decide (y211 < (x3.at_.length : Int)) then
    (idx x3.at_ y211).bind fun x225 =>
    (bif decide (x225 < (d210.ops.length : Int)) then
    (idx d210.ops x225).bind fun x266 =>
    (some (shardZ x266.key)).bind fun r269 =>
    (bif r269 == r40 then
    (inR x225 4).bind fun _ =>
    (idxV d210.has x225).bind fun x273 =>
    takeAnswer_j10 x3 d210 y211 (takeAnswer_l2 x3 d29 r40 n) x225 (!x273)
    else
    takeAnswer_j10 x3 d210 y211 (takeAnswer_l2 x3 d29 r40 n) x225 false)
    else
    takeAnswer_j10 x3 d210 y211 (takeAnswer_l2 x3 d29 r40 n) x225 false)
    else
    takeAnswer_j3 d29 d210)

def takeAnswer_j8 (fu : Nat) (x3 : GFrame) (d29 : GCase) (d37 : GCase) (r40 : Int) (c201 : Bool) : Option (GCase × (List GFrame) × Int) :=
    (bif c201 then
    takeAnswer_l2 x3 d29 r40 fu d37 0
    else
    takeAnswer_j3 d29 d37)

def takeAnswer_j7 (fu : Nat) (x3 : GFrame) (d29 : GCase) (d37 : GCase) (r40 : Int) (c185 : Bool) : Option (GCase × (List GFrame) × Int) :=
    (bif c185 then
    (inR x3.node 6).bind fun _ =>
    (idxV d37.known x3.node).bind fun x192 =>
    (setV d37.known x3.node true).bind fun a195 =>
    (some ({ d37 with known := a195 } : GCase)).bind fun d197 =>
    takeAnswer_j3 d29 d197
    else
    (bif x3.kind == 5 then
    takeAnswer_j8 fu x3 d29 d37 r40 d37.fixed
    else
    takeAnswer_j8 fu x3 d29 d37 r40 false))

def takeAnswer_j4 (fu : Nat) (x2 : Int) (x3 : GFrame) (d29 : GCase) (d37 : GCase) (r40 : Int) (c57 : Bool) : Option (GCase × (List GFrame) × Int) :=
    (bif c57 then
    (inR x3.node 6).bind fun _ =>
    (idxV d37.told x3.node).bind fun x64 =>
    (setV d37.told x3.node true).bind fun a67 =>
    (some ({ d37 with told := a67 } : GCase)).bind fun d69 =>
    (some (unionZ d69.deps x3.deps)).bind fun r74 =>
    (some ({ d69 with deps := r74 } : GCase)).bind fun d77 =>
    (some (Zr.zd : Vector Int 2)).bind fun d83 =>
    takeAnswer_l1 fu x2 d29 d77 fu d83 0
    else
    (bif x3.kind == 4 then
    takeAnswer_j7 fu x3 d29 d37 r40 d37.fixed
    else
    takeAnswer_j7 fu x3 d29 d37 r40 false))

def takeAnswer_j2 (fu : Nat) (x1 : GCase) (x2 : Int) (x3 : GFrame) (d29 : GCase) : Option (GCase × (List GFrame) × Int) :=
    (copyCaseD fu x1).bind fun r34 =>
    (some r34).bind fun d37 =>
    (some (ofZ x3.node)).bind fun r40 =>
    (bif x3.kind == 2 then
    (bif !d37.fixed then
    (inR x3.node 6).bind fun _ =>
    (idxV d37.told x3.node).bind fun x284 =>
    (bif !x284 then
    (some (touchesZ d37.ops r40)).bind fun r290 =>
    takeAnswer_j4 fu x2 x3 d29 d37 r40 r290
    else
    takeAnswer_j4 fu x2 x3 d29 d37 r40 false)
    else
    takeAnswer_j4 fu x2 x3 d29 d37 r40 false)
    else
    takeAnswer_j4 fu x2 x3 d29 d37 r40 false)

def takeAnswer_j11 (fu : Nat) (x1 : GCase) (x2 : Int) (x3 : GFrame) (d14 : GCase) (c295 : Bool) : Option (GCase × (List GFrame) × Int) :=
    (bif c295 then
    (some x1).bind fun d301 =>
    some (d301, [], 3)
    else
    takeAnswer_j2 fu x1 x2 x3 d14)

def takeAnswer_j1 (fu : Nat) (x1 : GCase) (x2 : Int) (x3 : GFrame) (d14 : GCase) : Option (GCase × (List GFrame) × Int) :=
    (some (frameZ x3)).bind fun r19 =>
    (bif r19 != 0 then
    (some x1).bind fun d24 =>
    some (d24, [], r19)
    else
    (bif x3.kind == 1 then
    takeAnswer_j11 fu x1 x2 x3 d14 true
    else
    takeAnswer_j11 fu x1 x2 x3 d14 (x3.kind == 3)))

def takeAnswer_j12 (fu : Nat) (x1 : GCase) (x2 : Int) (x3 : GFrame) (c308 : Bool) : Option (GCase × (List GFrame) × Int) :=
    (bif c308 then
    (some x1).bind fun d314 =>
    some (d314, [], 2)
    else
    takeAnswer_j1 fu x1 x2 x3 (Zr.zd : GCase))

def takeAnswerD (fu : Nat) (x1 : GCase) (x2 : Int) (x3 : GFrame) : Option (GCase × (List GFrame) × Int) :=
    (isCaseD fu x1).bind fun r319 =>
    (bif !r319 then
    takeAnswer_j12 fu x1 x2 x3 true
    else
    (bif !x1.begun then
    takeAnswer_j12 fu x1 x2 x3 true
    else
    (bif x3.id != x2 then
    takeAnswer_j12 fu x1 x2 x3 true
    else
    (some (hasZ x1.deps x2)).bind fun r326 =>
    takeAnswer_j12 fu x1 x2 x3 r326)))

set_option maxRecDepth 100000 in
set_option maxHeartbeats 4000000 in
theorem takeAnswer_ok {M : Mm} {w : World} {cx1 : List Value} {cx3 : List Value} {x1 : GCase} {x2 : Int} {x3 : GFrame} {fu : Nat} {r : GCase × (List GFrame) × Int} (hA : Agree M w) (hcx1 : rep M cx1 x1) (hcx3 : rep M cx3 x3) (hz : takeAnswerD fu x1 x2 x3 = some r) :
    Calls Try.prog 38 #[.agg cx1.toArray, .int .i64 x2, .agg cx3.toArray] w (Gives M w (fun M' u => ∃ c0 v1, u = .tuple #[.agg c0.toArray, v1, .int .i64 r.2.2] ∧ rep M' c0 r.1 ∧ repL M' v1 r.2.1)) := by
  refine calls_W Try.func38 rfl 195 rfl rfl (by kernel_rfl) fun T hT => ?_
  have hT_0 : T 0 = .agg cx1.toArray := hT 0
  have hT_1 : T 1 = .int .i64 x2 := hT 1
  have hT_2 : T 2 = .agg cx3.toArray := hT 2
  clear hT
  have hE := Mm.ext.refl w.heap.size noX M
  have hS : St w noX M [] w := St.start hA
  rw [takeAnswerD] at hz
  refine W_seq ?_
  refine W_reg ?_
  refine WL_c (O_box (v := .agg cx1.toArray) (cs := cx1) hT_0 rfl hS ?_)
  intro b5 w4 hb5 hS
  replace hS : St w noX M [.box b5 cx1 45] w4 := hS
  refine WL_c (O_box (v := .agg cx3.toArray) (cs := cx3) hT_2 rfl hS ?_)
  intro b7 w6 hb7 hS
  replace hS : St w noX M [.box b7 cx3 50, .box b5 cx1 45] w6 := hS
  refine WL_c (O_alloc tz45 hS ?_)
  intro b9 w8 hb9 hS
  replace hS : St w noX M [.box b9 (Zr.zc GCase) 45, .box b7 cx3 50, .box b5 cx1 45] w8 := hS
  have zb9 : rep M (Zr.zc GCase) (Zr.zd : GCase) := Zr.zr
  refine WL_y (Y_assign ((.slice none 0 0)) rfl) ?_
  refine WL_y (Y_assign (.int .i64 0) rfl) ?_
  refine WL_nil (nm_then ?_)
  refine W_seqJ (fun T' w' => ∃ M11 cs13 d14, Mm.ext w.heap.size noX M M11 ∧ St w noX M11 [.box b9 cs13 45, .box b7 cx3 50, .box b5 cx1 45] w' ∧ rep M11 cs13 d14 ∧ T' 1 = .int .i64 x2 ∧ T' 3 = .pointer (some ⟨b5, 0, none⟩) ∧ T' 5 = .pointer (some ⟨b7, 0, none⟩) ∧ T' 6 = .pointer (some ⟨b9, 0, none⟩) ∧ takeAnswer_j1 fu x1 x2 x3 d14 = some r) ?_ ?_
  · have hF304 := Mm.ext.refl w.heap.size noX M
    refine W_seqJ (fun T' w' => ∃ M306 c308, Mm.ext w.heap.size noX M M306 ∧ St w noX M306 [.box b9 (Zr.zc GCase) 45, .box b7 cx3 50, .box b5 cx1 45] w' ∧ T' 1 = .int .i64 x2 ∧ T' 3 = .pointer (some ⟨b5, 0, none⟩) ∧ T' 5 = .pointer (some ⟨b7, 0, none⟩) ∧ T' 6 = .pointer (some ⟨b9, 0, none⟩) ∧ T' 34 = .bool c308 ∧ takeAnswer_j12 fu x1 x2 x3 c308 = some r) ?_ ?_
    · have hF315 := Mm.ext.refl w.heap.size noX M
      refine W_reg ?_
      have ha316 := (rep_root (k := 24) rfl hcx1)
      refine WL_y (Y_ldn ta45 rfl (hS.bvB 2 rfl) (Rep.len ha316)) ?_
      obtain ⟨r319, hr318, hz⟩ := bind_ok hz
      refine WL_c (O_val (vs := [.agg (sl cx1 (0) 24).toArray]) (v := .bool r319) cb82 (args1 rfl) hS (isCase_ok hS.agree ha316 hr318) ?_)
      intro w317 hS
      refine WL_y (Y_not rfl) ?_
      refine WL_y (Y_move (.bool (!r319)) rfl) ?_
      rcases Bool.eq_false_or_eq_true (!r319) with hc320 | hc320
      · replace hz := bif_ok_t hz hc320
        refine WL_s (j := 3) rfl (bt hc320 rfl) rfl ?_
        refine WL_s (j := 3) rfl (bt hc320 rfl) rfl ?_
        refine WL_s (j := 3) rfl (bt hc320 rfl) rfl ?_
        refine WL_y (Y_pick_t (.bool true) (bt hc320 rfl) rfl) ?_
        refine WL_y (Y_move (.bool true) rfl) ?_
        refine WL_s (j := 8) rfl rfl rfl ?_
        refine WL_s (j := 8) rfl rfl rfl ?_
        refine WL_s (j := 8) rfl rfl rfl ?_
        refine WL_s (j := 8) rfl rfl rfl ?_
        refine WL_y (Y_pick_t (.bool true) rfl rfl) ?_
        refine WL_y (Y_move (.bool true) rfl) ?_
        refine WL_s (j := 14) rfl rfl rfl ?_
        refine WL_s (j := 14) rfl rfl rfl ?_
        refine WL_s (j := 14) rfl rfl rfl ?_
        refine WL_s (j := 14) rfl rfl rfl ?_
        refine WL_y (Y_pick_t (.bool true) rfl rfl) ?_
        refine WL_nil (nm_then ?_)
        exact ⟨M, true, hF315, hS, hT_1, rfl, rfl, rfl, rfl, hz⟩
      · replace hz := bif_ok_f hz hc320
        refine WL_gy rfl (bf hc320 rfl) (Y_fa fa45_0 rfl) ?_
        refine WL_gy rfl (bf hc320 rfl) (Y_ld1 (.bool x1.begun) ts4 rfl (hS.bvB 2 rfl) (GCase.p0 (rep_root (k := 24) rfl hcx1))) ?_
        refine WL_gy rfl (bf hc320 rfl) (Y_not rfl) ?_
        refine WL_y (Y_pick_f (.bool (!x1.begun)) (bf hc320 rfl) rfl) ?_
        refine WL_y (Y_move (.bool (!x1.begun)) rfl) ?_
        rcases Bool.eq_false_or_eq_true (!x1.begun) with hc321 | hc321
        · replace hz := bif_ok_t hz hc321
          refine WL_s (j := 8) rfl (bt hc321 rfl) rfl ?_
          refine WL_s (j := 8) rfl (bt hc321 rfl) rfl ?_
          refine WL_s (j := 8) rfl (bt hc321 rfl) rfl ?_
          refine WL_s (j := 8) rfl (bt hc321 rfl) rfl ?_
          refine WL_y (Y_pick_t (.bool true) (bt hc321 rfl) rfl) ?_
          refine WL_y (Y_move (.bool true) rfl) ?_
          refine WL_s (j := 14) rfl rfl rfl ?_
          refine WL_s (j := 14) rfl rfl rfl ?_
          refine WL_s (j := 14) rfl rfl rfl ?_
          refine WL_s (j := 14) rfl rfl rfl ?_
          refine WL_y (Y_pick_t (.bool true) rfl rfl) ?_
          refine WL_nil (nm_then ?_)
          exact ⟨M, true, hF315, hS, hT_1, rfl, rfl, rfl, rfl, hz⟩
        · replace hz := bif_ok_f hz hc321
          refine WL_gy rfl (bf hc321 rfl) (Y_fa fa50_2 rfl) ?_
          refine WL_gy rfl (bf hc321 rfl) (Y_ld1 (.int .i64 x3.id) ts3 rfl (hS.bvB 1 rfl) (GFrame.p2 (rep_root (k := 7) rfl hcx3))) ?_
          refine WL_gy rfl (bf hc321 rfl) (Y_move (.int .i64 x2) hT_1) ?_
          refine WL_gy rfl (bf hc321 rfl) (Y_neq rfl rfl) ?_
          refine WL_y (Y_pick_f (.bool (x3.id != x2)) (bf hc321 rfl) rfl) ?_
          refine WL_y (Y_move (.bool (x3.id != x2)) rfl) ?_
          rcases Bool.eq_false_or_eq_true (x3.id != x2) with hc322 | hc322
          · replace hz := bif_ok_t hz hc322
            refine WL_s (j := 14) rfl (bt hc322 rfl) rfl ?_
            refine WL_s (j := 14) rfl (bt hc322 rfl) rfl ?_
            refine WL_s (j := 14) rfl (bt hc322 rfl) rfl ?_
            refine WL_s (j := 14) rfl (bt hc322 rfl) rfl ?_
            refine WL_y (Y_pick_t (.bool true) (bt hc322 rfl) rfl) ?_
            refine WL_nil (nm_then ?_)
            exact ⟨M, true, hF315, hS, hT_1, rfl, rfl, rfl, rfl, hz⟩
          · replace hz := bif_ok_f hz hc322
            refine WL_gy rfl (bf hc322 rfl) (Y_fa fa45_5 rfl) ?_
            obtain ⟨v323, ev323, hv323⟩ := (GCase.p5 (rep_root (k := 24) rfl hcx1))
            refine WL_gy rfl (bf hc322 rfl) (Y_ld1 v323 ts23 rfl (hS.bvB 2 rfl) ev323) ?_
            refine WL_gy rfl (bf hc322 rfl) (Y_move (.int .i64 x2) hT_1) ?_
            obtain ⟨r326, hr325, hz⟩ := bind_ok hz
            replace hr325 := Option.some.inj hr325
            refine WL_g rfl (bf hc322 rfl) (O_val (vs := [v323, .int .i64 x2]) (v := .bool r326) cb83 (args2 rfl rfl) hS (hr325 ▸ (c_refHas hS.agree hv323)) ?_)
            intro w324 hS
            refine WL_y (Y_pick_f (.bool r326) (bf hc322 rfl) rfl) ?_
            refine WL_nil (nm_then ?_)
            exact ⟨M, r326, hF315, hS, hT_1, rfl, rfl, rfl, rfl, hz⟩
    · rintro T307 w305 ⟨M306, c308, hx309, hS, hT307_1, hT307_3, hT307_5, hT307_6, hT307_34, hz⟩
      replace hcx1 := Rep.mono hx309.1 hcx1
      replace hcx3 := Rep.mono hx309.1 hcx3
      replace zb9 := Rep.mono hx309.1 zb9
      replace hE := Mm.ext.trans hE hx309
      replace hF304 := Mm.ext.trans hF304 hx309
      rw [takeAnswer_j12] at hz
      refine W_cond hT307_34 (fun hc310 => ?_) (fun hc310 => ?_)
      · replace hz := bif_ok_t hz hc310
        refine W_seq ?_
        refine W_reg ?_
        have ha311 := (rep_root (k := 24) rfl hcx1)
        refine WL_y (Y_ldn ta45 hT307_3 (hS.bvB 2 rfl) (Rep.len ha311)) ?_
        have hw313 : ((sl cx1 (0) 24) : List Value).length = 24 := Rep.len ha311
        have hl313 : ((Zr.zc GCase)).length = 24 := Rep.len zb9
        obtain ⟨d314, hd313, hz⟩ := bind_ok hz
        have hb313 : rep M306 (pt (Zr.zc GCase) (0) (sl cx1 (0) 24)) d314 := rep_eq (rep_whole (k := 24) (by rw [pt_length (by omega)]; exact hl313) (rep_leaf rfl ha311 (by omega))) hd313
        generalize hg313 : (pt (Zr.zc GCase) (0) (sl cx1 (0) 24)) = cs313 at hb313
        refine WL_c (O_st (j := 0) (v := .agg (sl cx1 (0) 24).toArray) (ws := (sl cx1 (0) 24)) hS rfl (by kernel_rfl) hT307_6 rfl rfl hw313 (Rep.one ha311) (by omega) ?_)
        rw [hg313]
        clear hg313
        intro w312 hS
        replace hS : St w noX M306 [.box b9 cs313 45, .box b7 cx3 50, .box b5 cx1 45] w312 := hS
        refine WL_y (Y_assign ((.slice none 0 0)) rfl) ?_
        refine WL_y (Y_assign (.int .i64 2) rfl) ?_
        refine WL_nil (nm_then ?_)
        cases hz
        exact W_ret (rt_then (R_ctt (j := 0) rfl hT307_6 rfl rfl (by rw [Rep.len hb313]; exact ta45) hS rfl (Gives.mk (St.dropB (St.dropB (St.dropB hS hb9) hb7) hb5) hE ⟨_, _, rfl, hb313, (repL_nil _)⟩)))
      · replace hz := bif_ok_f hz hc310
        refine W_skip (nm_then ?_)
        exact ⟨M306, (Zr.zc GCase), (Zr.zd : GCase), hF304, hS, zb9, hT307_1, hT307_3, hT307_5, hT307_6, hz⟩
  · rintro T12 w10 ⟨M11, cs13, d14, hx15, hS, hb13, hT12_1, hT12_3, hT12_5, hT12_6, hz⟩
    replace hcx1 := Rep.mono hx15.1 hcx1
    replace hcx3 := Rep.mono hx15.1 hcx3
    replace hE := Mm.ext.trans hE hx15
    rw [takeAnswer_j1] at hz
    refine W_seq ?_
    refine W_seq ?_
    refine W_reg ?_
    have ha16 := (rep_root (k := 7) rfl hcx3)
    refine WL_y (Y_ldn ta50 hT12_5 (hS.bvB 1 rfl) (Rep.len ha16)) ?_
    obtain ⟨r19, hr18, hz⟩ := bind_ok hz
    replace hr18 := Option.some.inj hr18
    refine WL_c (O_val (vs := [.agg (sl cx3 (0) 7).toArray]) (v := .int .i64 r19) cb70 (args1 rfl) hS (hr18 ▸ (c_isFrame hS.agree ha16)) ?_)
    intro w17 hS
    refine WL_y (Y_assign (.int .i64 r19) rfl) ?_
    refine WL_nil (nm_then ?_)
    refine W_seq ?_
    refine W_reg ?_
    refine WL_y (Y_move (.int .i64 r19) rfl) ?_
    refine WL_y (Y_neq rfl rfl) ?_
    refine WL_nil (nm_then ?_)
    refine W_cond rfl (fun hc20 => ?_) (fun hc20 => ?_)
    · replace hz := bif_ok_t hz hc20
      refine W_seq ?_
      refine W_reg ?_
      have ha21 := (rep_root (k := 24) rfl hcx1)
      refine WL_y (Y_ldn ta45 hT12_3 (hS.bvB 2 rfl) (Rep.len ha21)) ?_
      refine WL_y (Y_move (.int .i64 r19) rfl) ?_
      have hw23 : ((sl cx1 (0) 24) : List Value).length = 24 := Rep.len ha21
      have hl23 : (cs13).length = 24 := Rep.len hb13
      obtain ⟨d24, hd23, hz⟩ := bind_ok hz
      have hb23 : rep M11 (pt cs13 (0) (sl cx1 (0) 24)) d24 := rep_eq (rep_whole (k := 24) (by rw [pt_length (by omega)]; exact hl23) (rep_leaf rfl ha21 (by omega))) hd23
      generalize hg23 : (pt cs13 (0) (sl cx1 (0) 24)) = cs23 at hb23
      refine WL_c (O_st (j := 0) (v := .agg (sl cx1 (0) 24).toArray) (ws := (sl cx1 (0) 24)) hS rfl (by kernel_rfl) hT12_6 rfl rfl hw23 (Rep.one ha21) (by omega) ?_)
      rw [hg23]
      clear hg23
      intro w22 hS
      replace hS : St w noX M11 [.box b9 cs23 45, .box b7 cx3 50, .box b5 cx1 45] w22 := hS
      refine WL_y (Y_assign ((.slice none 0 0)) rfl) ?_
      refine WL_y (Y_assign (.int .i64 r19) rfl) ?_
      refine WL_nil (nm_then ?_)
      cases hz
      exact W_ret (rt_then (R_ctt (j := 0) rfl hT12_6 rfl rfl (by rw [Rep.len hb23]; exact ta45) hS rfl (Gives.mk (St.dropB (St.dropB (St.dropB hS hb9) hb7) hb5) hE ⟨_, _, rfl, hb23, (repL_nil _)⟩)))
    · replace hz := bif_ok_f hz hc20
      refine W_skip (nm_then ?_)
      refine W_seqJ (fun T' w' => ∃ M26 cs28 d29, Mm.ext w.heap.size noX M11 M26 ∧ St w noX M26 [.box b9 cs28 45, .box b7 cx3 50, .box b5 cx1 45] w' ∧ rep M26 cs28 d29 ∧ T' 1 = .int .i64 x2 ∧ T' 3 = .pointer (some ⟨b5, 0, none⟩) ∧ T' 5 = .pointer (some ⟨b7, 0, none⟩) ∧ T' 6 = .pointer (some ⟨b9, 0, none⟩) ∧ takeAnswer_j2 fu x1 x2 x3 d29 = some r) ?_ ?_
      · have hF291 := Mm.ext.refl w.heap.size noX M11
        refine W_seqJ (fun T' w' => ∃ M293 c295, Mm.ext w.heap.size noX M11 M293 ∧ St w noX M293 [.box b9 cs13 45, .box b7 cx3 50, .box b5 cx1 45] w' ∧ T' 1 = .int .i64 x2 ∧ T' 3 = .pointer (some ⟨b5, 0, none⟩) ∧ T' 5 = .pointer (some ⟨b7, 0, none⟩) ∧ T' 6 = .pointer (some ⟨b9, 0, none⟩) ∧ T' 49 = .bool c295 ∧ takeAnswer_j11 fu x1 x2 x3 d14 c295 = some r) ?_ ?_
        · have hF302 := Mm.ext.refl w.heap.size noX M11
          refine W_reg ?_
          refine WL_y (Y_fa fa50_0 hT12_5) ?_
          refine WL_y (Y_ld1 (.int .i64 x3.kind) ts3 rfl (hS.bvB 1 rfl) (GFrame.p0 (rep_root (k := 7) rfl hcx3))) ?_
          refine WL_y (Y_eql rfl rfl) ?_
          refine WL_y (Y_move (.bool (x3.kind == 1)) rfl) ?_
          rcases Bool.eq_false_or_eq_true (x3.kind == 1) with hc303 | hc303
          · replace hz := bif_ok_t hz hc303
            refine WL_s (j := 3) rfl (bt hc303 rfl) rfl ?_
            refine WL_s (j := 3) rfl (bt hc303 rfl) rfl ?_
            refine WL_s (j := 3) rfl (bt hc303 rfl) rfl ?_
            refine WL_y (Y_pick_t (.bool true) (bt hc303 rfl) rfl) ?_
            refine WL_nil (nm_then ?_)
            exact ⟨M11, true, hF302, hS, hT12_1, hT12_3, hT12_5, hT12_6, rfl, hz⟩
          · replace hz := bif_ok_f hz hc303
            refine WL_gy rfl (bf hc303 rfl) (Y_fa fa50_0 hT12_5) ?_
            refine WL_gy rfl (bf hc303 rfl) (Y_ld1 (.int .i64 x3.kind) ts3 rfl (hS.bvB 1 rfl) (GFrame.p0 (rep_root (k := 7) rfl hcx3))) ?_
            refine WL_gy rfl (bf hc303 rfl) (Y_eql rfl rfl) ?_
            refine WL_y (Y_pick_f (.bool (x3.kind == 3)) (bf hc303 rfl) rfl) ?_
            refine WL_nil (nm_then ?_)
            exact ⟨M11, (x3.kind == 3), hF302, hS, hT12_1, hT12_3, hT12_5, hT12_6, rfl, hz⟩
        · rintro T294 w292 ⟨M293, c295, hx296, hS, hT294_1, hT294_3, hT294_5, hT294_6, hT294_49, hz⟩
          replace hcx1 := Rep.mono hx296.1 hcx1
          replace hcx3 := Rep.mono hx296.1 hcx3
          replace hb13 := Rep.mono hx296.1 hb13
          replace hE := Mm.ext.trans hE hx296
          replace hF291 := Mm.ext.trans hF291 hx296
          rw [takeAnswer_j11] at hz
          refine W_cond hT294_49 (fun hc297 => ?_) (fun hc297 => ?_)
          · replace hz := bif_ok_t hz hc297
            refine W_seq ?_
            refine W_reg ?_
            have ha298 := (rep_root (k := 24) rfl hcx1)
            refine WL_y (Y_ldn ta45 hT294_3 (hS.bvB 2 rfl) (Rep.len ha298)) ?_
            have hw300 : ((sl cx1 (0) 24) : List Value).length = 24 := Rep.len ha298
            have hl300 : (cs13).length = 24 := Rep.len hb13
            obtain ⟨d301, hd300, hz⟩ := bind_ok hz
            have hb300 : rep M293 (pt cs13 (0) (sl cx1 (0) 24)) d301 := rep_eq (rep_whole (k := 24) (by rw [pt_length (by omega)]; exact hl300) (rep_leaf rfl ha298 (by omega))) hd300
            generalize hg300 : (pt cs13 (0) (sl cx1 (0) 24)) = cs300 at hb300
            refine WL_c (O_st (j := 0) (v := .agg (sl cx1 (0) 24).toArray) (ws := (sl cx1 (0) 24)) hS rfl (by kernel_rfl) hT294_6 rfl rfl hw300 (Rep.one ha298) (by omega) ?_)
            rw [hg300]
            clear hg300
            intro w299 hS
            replace hS : St w noX M293 [.box b9 cs300 45, .box b7 cx3 50, .box b5 cx1 45] w299 := hS
            refine WL_y (Y_assign ((.slice none 0 0)) rfl) ?_
            refine WL_y (Y_assign (.int .i64 3) rfl) ?_
            refine WL_nil (nm_then ?_)
            cases hz
            exact W_ret (rt_then (R_ctt (j := 0) rfl hT294_6 rfl rfl (by rw [Rep.len hb300]; exact ta45) hS rfl (Gives.mk (St.dropB (St.dropB (St.dropB hS hb9) hb7) hb5) hE ⟨_, _, rfl, hb300, (repL_nil _)⟩)))
          · replace hz := bif_ok_f hz hc297
            refine W_skip (nm_then ?_)
            exact ⟨M293, cs13, d14, hF291, hS, hb13, hT294_1, hT294_3, hT294_5, hT294_6, hz⟩
      · rintro T27 w25 ⟨M26, cs28, d29, hx30, hS, hb28, hT27_1, hT27_3, hT27_5, hT27_6, hz⟩
        replace hcx1 := Rep.mono hx30.1 hcx1
        replace hcx3 := Rep.mono hx30.1 hcx3
        replace hE := Mm.ext.trans hE hx30
        rw [takeAnswer_j2] at hz
        refine W_seq ?_
        refine W_reg ?_
        have ha31 := (rep_root (k := 24) rfl hcx1)
        refine WL_y (Y_ldn ta45 hT27_3 (hS.bvB 2 rfl) (Rep.len ha31)) ?_
        obtain ⟨r34, hr33, hz⟩ := bind_ok hz
        refine WL_c (O_mem (vs := [.agg (sl cx1 (0) 24).toArray]) (rv := (fun M' u => ∃ cs, u = .agg cs.toArray ∧ rep M' cs r34)) cb35 (args1 rfl) hS (copyCase_ok hS.agree ha31 hr33) ?_)
        intro u33 M33 w32 hx33 hu33 hS
        obtain ⟨c33, hq33, f33⟩ := hu33
        subst hq33
        replace hcx1 := Rep.mono hx33.1 hcx1
        replace hcx3 := Rep.mono hx33.1 hcx3
        replace hb28 := Rep.mono hx33.1 hb28
        replace ha31 := Rep.mono hx33.1 ha31
        replace hE := Mm.ext.trans hE hx33
        have hw36 : (c33 : List Value).length = 24 := Rep.len f33
        have hl36 : (cx1).length = 24 := Rep.len hcx1
        obtain ⟨d37, hd36, hz⟩ := bind_ok hz
        have hb36 : rep M33 (pt cx1 (0) c33) d37 := rep_eq (rep_whole (k := 24) (by rw [pt_length (by omega)]; exact hl36) (rep_leaf rfl f33 (by omega))) hd36
        generalize hg36 : (pt cx1 (0) c33) = cs36 at hb36
        refine WL_c (O_st (j := 2) (v := .agg c33.toArray) (ws := c33) hS rfl (by kernel_rfl) hT27_3 rfl rfl hw36 (Rep.one f33) (by omega) ?_)
        rw [hg36]
        clear hg36
        intro w35 hS
        replace hS : St w noX M33 [.box b9 cs28 45, .box b7 cx3 50, .box b5 cs36 45] w35 := hS
        refine WL_nil (nm_then ?_)
        refine W_seq ?_
        refine W_reg ?_
        refine WL_y (Y_fa fa50_1 hT27_5) ?_
        refine WL_y (Y_ld1 (.int .i64 x3.node) ts3 rfl (hS.bvB 1 rfl) (GFrame.p1 (rep_root (k := 7) rfl hcx3))) ?_
        obtain ⟨r40, hr39, hz⟩ := bind_ok hz
        replace hr39 := Option.some.inj hr39
        refine WL_c (O_val (vs := [.int .i64 x3.node]) (v := .int .i64 r40) cb84 (args1 rfl) hS (hr39 ▸ (c_ofNode)) ?_)
        intro w38 hS
        refine WL_y (Y_assign (.int .i64 r40) rfl) ?_
        refine WL_nil (nm_then ?_)
        refine W_seqJ (fun T' w' => ∃ M42 cs44 d45 cs46 d47, Mm.ext w.heap.size noX M33 M42 ∧ St w noX M42 [.box b9 cs44 45, .box b7 cx3 50, .box b5 cs46 45] w' ∧ rep M42 cs44 d45 ∧ rep M42 cs46 d47 ∧ T' 3 = .pointer (some ⟨b5, 0, none⟩) ∧ T' 6 = .pointer (some ⟨b9, 0, none⟩) ∧ takeAnswer_j3 d45 d47 = some r) ?_ ?_
        · have hF53 := Mm.ext.refl w.heap.size noX M33
          refine W_block ?_
          refine W_seqJ (fun T' w' => ∃ M55 c57, Mm.ext w.heap.size noX M33 M55 ∧ St w noX M55 [.box b9 cs28 45, .box b7 cx3 50, .box b5 cs36 45] w' ∧ T' 1 = .int .i64 x2 ∧ T' 3 = .pointer (some ⟨b5, 0, none⟩) ∧ T' 5 = .pointer (some ⟨b7, 0, none⟩) ∧ T' 6 = .pointer (some ⟨b9, 0, none⟩) ∧ T' 10 = .int .i64 r40 ∧ T' 56 = .bool c57 ∧ takeAnswer_j4 fu x2 x3 d29 d37 r40 c57 = some r) ?_ ?_
          · have hF279 := Mm.ext.refl w.heap.size noX M33
            refine W_reg ?_
            refine WL_y (Y_fa fa50_0 hT27_5) ?_
            refine WL_y (Y_ld1 (.int .i64 x3.kind) ts3 rfl (hS.bvB 1 rfl) (GFrame.p0 (rep_root (k := 7) rfl hcx3))) ?_
            refine WL_y (Y_eql rfl rfl) ?_
            refine WL_y (Y_move (.bool (x3.kind == 2)) rfl) ?_
            rcases Bool.eq_false_or_eq_true (x3.kind == 2) with hc280 | hc280
            · replace hz := bif_ok_t hz hc280
              refine WL_gy rfl (bt hc280 rfl) (Y_fa fa45_1 hT27_3) ?_
              refine WL_gy rfl (bt hc280 rfl) (Y_ld1 (.bool d37.fixed) ts4 rfl (hS.bvB 2 rfl) (GCase.p1 (rep_root (k := 24) rfl hb36))) ?_
              refine WL_gy rfl (bt hc280 rfl) (Y_not rfl) ?_
              refine WL_y (Y_pick_t (.bool (!d37.fixed)) (bt hc280 rfl) rfl) ?_
              refine WL_y (Y_move (.bool (!d37.fixed)) rfl) ?_
              rcases Bool.eq_false_or_eq_true (!d37.fixed) with hc281 | hc281
              · replace hz := bif_ok_t hz hc281
                refine WL_gy rfl (bt hc281 rfl) (Y_fa fa50_1 hT27_5) ?_
                refine WL_gy rfl (bt hc281 rfl) (Y_ld1 (.int .i64 x3.node) ts3 rfl (hS.bvB 1 rfl) (GFrame.p1 (rep_root (k := 7) rfl hcx3))) ?_
                refine WL_gy rfl (bt hc281 rfl) (Y_fa fa45_3 hT27_3) ?_
                obtain ⟨u282, hx283, hz⟩ := bind_ok hz
                obtain ⟨hx283a, hx283b⟩ := inR_some hx283
                refine WL_gy rfl (bt hc281 rfl) (Y_ixA ia41 rfl rfl hx283a hx283b) ?_
                obtain ⟨x284, hx285, hz⟩ := bind_ok hz
                refine WL_gy rfl (bt hc281 rfl) (Y_ld1 (.bool x284) ts4 rfl (hS.bvB 2 rfl) (vp (k := 1) rfl rfl (GCase.p3 (rep_root (k := 24) rfl hb36)) hx285)) ?_
                refine WL_gy rfl (bt hc281 rfl) (Y_not rfl) ?_
                refine WL_y (Y_pick_t (.bool (!x284)) (bt hc281 rfl) rfl) ?_
                refine WL_y (Y_move (.bool (!x284)) rfl) ?_
                rcases Bool.eq_false_or_eq_true (!x284) with hc286 | hc286
                · replace hz := bif_ok_t hz hc286
                  refine WL_gy rfl (bt hc286 rfl) (Y_fa fa45_2 hT27_3) ?_
                  obtain ⟨v287, ev287, hv287⟩ := (GCase.p2 (rep_root (k := 24) rfl hb36))
                  refine WL_gy rfl (bt hc286 rfl) (Y_ld1 v287 ts40 rfl (hS.bvB 2 rfl) ev287) ?_
                  refine WL_gy rfl (bt hc286 rfl) (Y_move (.int .i64 r40) rfl) ?_
                  obtain ⟨r290, hr289, hz⟩ := bind_ok hz
                  replace hr289 := Option.some.inj hr289
                  refine WL_g rfl (bt hc286 rfl) (O_val (vs := [v287, .int .i64 r40]) (v := .bool r290) cb85 (args2 rfl rfl) hS (hr289 ▸ (c_touchesShard hS.agree hv287)) ?_)
                  intro w288 hS
                  refine WL_y (Y_pick_t (.bool r290) (bt hc286 rfl) rfl) ?_
                  refine WL_y (Y_assign (.bool r290) rfl) ?_
                  refine WL_nil (nm_then ?_)
                  exact ⟨M33, r290, hF279, hS, hT27_1, hT27_3, hT27_5, hT27_6, rfl, rfl, hz⟩
                · replace hz := bif_ok_f hz hc286
                  refine WL_s (j := 16) rfl (bf hc286 rfl) rfl ?_
                  refine WL_s (j := 16) rfl (bf hc286 rfl) rfl ?_
                  refine WL_s (j := 16) rfl (bf hc286 rfl) rfl ?_
                  refine WL_s (j := 16) rfl (bf hc286 rfl) rfl ?_
                  refine WL_y (Y_pick_f (.bool false) (bf hc286 rfl) rfl) ?_
                  refine WL_y (Y_assign (.bool false) rfl) ?_
                  refine WL_nil (nm_then ?_)
                  exact ⟨M33, false, hF279, hS, hT27_1, hT27_3, hT27_5, hT27_6, rfl, rfl, hz⟩
              · replace hz := bif_ok_f hz hc281
                refine WL_s (j := 8) rfl (bf hc281 rfl) rfl ?_
                refine WL_s (j := 8) rfl (bf hc281 rfl) rfl ?_
                refine WL_s (j := 8) rfl (bf hc281 rfl) rfl ?_
                refine WL_s (j := 8) rfl (bf hc281 rfl) rfl ?_
                refine WL_s (j := 8) rfl (bf hc281 rfl) rfl ?_
                refine WL_s (j := 8) rfl (bf hc281 rfl) rfl ?_
                refine WL_y (Y_pick_f (.bool false) (bf hc281 rfl) rfl) ?_
                refine WL_y (Y_move (.bool false) rfl) ?_
                refine WL_s (j := 16) rfl rfl rfl ?_
                refine WL_s (j := 16) rfl rfl rfl ?_
                refine WL_s (j := 16) rfl rfl rfl ?_
                refine WL_s (j := 16) rfl rfl rfl ?_
                refine WL_y (Y_pick_f (.bool false) rfl rfl) ?_
                refine WL_y (Y_assign (.bool false) rfl) ?_
                refine WL_nil (nm_then ?_)
                exact ⟨M33, false, hF279, hS, hT27_1, hT27_3, hT27_5, hT27_6, rfl, rfl, hz⟩
            · replace hz := bif_ok_f hz hc280
              refine WL_s (j := 3) rfl (bf hc280 rfl) rfl ?_
              refine WL_s (j := 3) rfl (bf hc280 rfl) rfl ?_
              refine WL_s (j := 3) rfl (bf hc280 rfl) rfl ?_
              refine WL_y (Y_pick_f (.bool false) (bf hc280 rfl) rfl) ?_
              refine WL_y (Y_move (.bool false) rfl) ?_
              refine WL_s (j := 8) rfl rfl rfl ?_
              refine WL_s (j := 8) rfl rfl rfl ?_
              refine WL_s (j := 8) rfl rfl rfl ?_
              refine WL_s (j := 8) rfl rfl rfl ?_
              refine WL_s (j := 8) rfl rfl rfl ?_
              refine WL_s (j := 8) rfl rfl rfl ?_
              refine WL_y (Y_pick_f (.bool false) rfl rfl) ?_
              refine WL_y (Y_move (.bool false) rfl) ?_
              refine WL_s (j := 16) rfl rfl rfl ?_
              refine WL_s (j := 16) rfl rfl rfl ?_
              refine WL_s (j := 16) rfl rfl rfl ?_
              refine WL_s (j := 16) rfl rfl rfl ?_
              refine WL_y (Y_pick_f (.bool false) rfl rfl) ?_
              refine WL_y (Y_assign (.bool false) rfl) ?_
              refine WL_nil (nm_then ?_)
              exact ⟨M33, false, hF279, hS, hT27_1, hT27_3, hT27_5, hT27_6, rfl, rfl, hz⟩
          · rintro T56 w54 ⟨M55, c57, hx58, hS, hT56_1, hT56_3, hT56_5, hT56_6, hT56_10, hT56_56, hz⟩
            replace hcx3 := Rep.mono hx58.1 hcx3
            replace hb28 := Rep.mono hx58.1 hb28
            replace hb36 := Rep.mono hx58.1 hb36
            replace hE := Mm.ext.trans hE hx58
            replace hF53 := Mm.ext.trans hF53 hx58
            rw [takeAnswer_j4] at hz
            refine W_cond hT56_56 (fun hc59 => ?_) (fun hc59 => ?_)
            · replace hz := bif_ok_t hz hc59
              refine W_seq ?_
              refine W_reg ?_
              refine WL_y (Y_fa fa50_1 hT56_5) ?_
              refine WL_y (Y_ld1 (.int .i64 x3.node) ts3 rfl (hS.bvB 1 rfl) (GFrame.p1 (rep_root (k := 7) rfl hcx3))) ?_
              refine WL_y (Y_fa fa45_3 hT56_3) ?_
              obtain ⟨u60, hx61, hz⟩ := bind_ok hz
              obtain ⟨hx61a, hx61b⟩ := inR_some hx61
              refine WL_y (Y_ixA ia41 rfl rfl hx61a hx61b) ?_
              obtain ⟨x64, hx65, hz⟩ := bind_ok hz
              have hw63 : ([.bool true] : List Value).length = 1 := Rep.len (show rep M55 [Value.bool true] (true : Bool) from rfl)
              have hl63 : (cs36).length = 24 := Rep.len hb36
              have hq66 := (idxV_some hx65)
              obtain ⟨a67, hx68, hz⟩ := bind_ok hz
              obtain ⟨d69, hd63, hz⟩ := bind_ok hz
              have hb63 : rep M55 (pt cs36 (0 + 3 + Int.toNat x3.node * 1) [.bool true]) d69 := rep_eq (rep_whole (k := 24) (by rw [pt_length (by omega)]; exact hl63) (GCase.s3 (rep_root (k := 24) rfl hb36) (vs (k := 1) rfl rfl (GCase.p3 (rep_root (k := 24) rfl hb36)) (rep_leaf rfl (show rep M55 [Value.bool true] (true : Bool) from rfl) (by omega)) hx68 (by omega) (by omega) (by omega)) (by omega) (by omega) (by omega))) hd63
              generalize hg63 : (pt cs36 (0 + 3 + Int.toNat x3.node * 1) [.bool true]) = cs63 at hb63
              refine WL_c (O_st (j := 2) (v := .bool true) (ws := [.bool true]) hS rfl (by kernel_rfl) rfl rfl rfl hw63 (Rep.one (show rep M55 [Value.bool true] (true : Bool) from rfl)) (by omega) ?_)
              rw [hg63]
              clear hg63
              intro w62 hS
              replace hS : St w noX M55 [.box b9 cs28 45, .box b7 cx3 50, .box b5 cs63 45] w62 := hS
              refine WL_nil (nm_then ?_)
              refine W_seq ?_
              refine W_reg ?_
              refine WL_y (Y_fa fa45_5 hT56_3) ?_
              obtain ⟨v70, ev70, hv70⟩ := (GCase.p5 (rep_root (k := 24) rfl hb63))
              refine WL_y (Y_ld1 v70 ts23 rfl (hS.bvB 2 rfl) ev70) ?_
              refine WL_y (Y_fa fa50_4 hT56_5) ?_
              obtain ⟨v71, ev71, hv71⟩ := (GFrame.p4 (rep_root (k := 7) rfl hcx3))
              refine WL_y (Y_ld1 v71 ts23 rfl (hS.bvB 1 rfl) ev71) ?_
              obtain ⟨r74, hr73, hz⟩ := bind_ok hz
              replace hr73 := Option.some.inj hr73
              refine WL_c (O_mem (vs := [v70, v71]) (rv := (fun M' u => repL M' u r74)) cb86 (args2 rfl rfl) hS (hr73 ▸ (c_unionOf hS.agree hv70 hv71)) ?_)
              intro u73 M73 w72 hx73 hu73 hS
              have h73 : repL M73 u73 r74 := hu73
              replace hcx3 := Rep.mono hx73.1 hcx3
              replace hb28 := Rep.mono hx73.1 hb28
              replace hb63 := Rep.mono hx73.1 hb63
              replace hv70 := repL.mono hx73.1 hv70
              replace hv71 := repL.mono hx73.1 hv71
              replace hE := Mm.ext.trans hE hx73
              replace hF53 := Mm.ext.trans hF53 hx73
              refine WL_y (Y_fa fa45_5 hT56_3) ?_
              have hw76 : ([u73] : List Value).length = 1 := Rep.len (repL_rep h73)
              have hl76 : (cs63).length = 24 := Rep.len hb63
              obtain ⟨d77, hd76, hz⟩ := bind_ok hz
              have hb76 : rep M73 (pt cs63 (0 + 15) [u73]) d77 := rep_eq (rep_whole (k := 24) (by rw [pt_length (by omega)]; exact hl76) (GCase.s5 (rep_root (k := 24) rfl hb63) (rep_leaf rfl (repL_rep h73) (by omega)) (by omega) (by omega) (by omega))) hd76
              generalize hg76 : (pt cs63 (0 + 15) [u73]) = cs76 at hb76
              refine WL_c (O_st (j := 2) (v := u73) (ws := [u73]) hS rfl (by kernel_rfl) rfl rfl (repL_cells h73) hw76 (Rep.one (repL_rep h73)) (by omega) ?_)
              rw [hg76]
              clear hg76
              intro w75 hS
              replace hS : St w noX M73 [.box b9 cs28 45, .box b7 cx3 50, .box b5 cs76 45] w75 := hS
              refine WL_nil (nm_then ?_)
              refine W_seq ?_
              refine W_reg ?_
              have z78 : rep M73 (Zr.zc (Vector Int 2)) (Zr.zd : Vector Int 2) := Zr.zr
              refine WL_y (Y_zarr tz130 ia130) ?_
              refine WL_c (O_alloc tz130 hS ?_)
              intro b80 w79 hb80 hS
              replace hS : St w noX M73 [.box b80 (Zr.zc (Vector Int 2)) 130, .box b9 cs28 45, .box b7 cx3 50, .box b5 cs76 45] w79 := hS
              have zb80 : rep M73 (Zr.zc (Vector Int 2)) (Zr.zd : Vector Int 2) := Zr.zr
              have hw82 : ((Zr.zc (Vector Int 2)) : List Value).length = 2 := Rep.len z78
              have hl82 : ((Zr.zc (Vector Int 2))).length = 2 := Rep.len zb80
              obtain ⟨d83, hd82, hz⟩ := bind_ok hz
              have hb82 : rep M73 (pt (Zr.zc (Vector Int 2)) (0) (Zr.zc (Vector Int 2))) d83 := rep_eq (rep_whole (k := 2) (by rw [pt_length (by omega)]; exact hl82) (rep_leaf rfl z78 (by omega))) hd82
              generalize hg82 : (pt (Zr.zc (Vector Int 2)) (0) (Zr.zc (Vector Int 2))) = cs82 at hb82
              refine WL_c (O_st (j := 0) (v := .agg (Zr.zc (Vector Int 2)).toArray) (ws := (Zr.zc (Vector Int 2))) hS rfl (by kernel_rfl) rfl rfl rfl hw82 (Rep.one z78) (by omega) ?_)
              rw [hg82]
              clear hg82
              intro w81 hS
              replace hS : St w noX M73 [.box b80 cs82 130, .box b9 cs28 45, .box b7 cx3 50, .box b5 cs76 45] w81 := hS
              refine WL_nil (nm_then ?_)
              refine W_seq ?_
              refine W_seq ?_
              refine W_reg ?_
              refine WL_y (Y_move (.int .i64 0) rfl) ?_
              refine WL_nil (nm_then ?_)
              refine W_block ?_
              refine W_loop (fun k91 T' w' => ∃ M85 cs87 d88 y89, Mm.ext w.heap.size noX M73 M85 ∧ St w noX M85 [.box b80 cs87 130, .box b9 cs28 45, .box b7 cx3 50, .box b5 cs76 45] w' ∧ rep M85 cs87 d88 ∧ T' 1 = .int .i64 x2 ∧ T' 3 = .pointer (some ⟨b5, 0, none⟩) ∧ T' 6 = .pointer (some ⟨b9, 0, none⟩) ∧ T' 11 = .pointer (some ⟨b80, 0, none⟩) ∧ T' 90 = .int .i64 y89 ∧ takeAnswer_l1 fu x2 d29 d77 k91 d88 y89 = some r) fu ?_ ?_ ?_
              · exact ⟨M73, cs82, d83, (0 : Int), (Mm.ext.refl _ _ _), hS, hb82, hT56_1, hT56_3, hT56_6, rfl, rfl, hz⟩
              · rintro T' w' ⟨_, _, _, _, _, _, _, _, _, _, _, _, hz⟩
                rw [takeAnswer_l1] at hz
                cases hz
              · intro k91
                rintro T86 w84 ⟨M85, cs87, d88, y89, hx93, hS, hb87, hT86_1, hT86_3, hT86_6, hT86_11, hT86_90, hz⟩
                replace hcx3 := Rep.mono hx93.1 hcx3
                replace hb28 := Rep.mono hx93.1 hb28
                replace hb76 := Rep.mono hx93.1 hb76
                replace hE := Mm.ext.trans hE hx93
                replace hF53 := Mm.ext.trans hF53 hx93
                have hF92 := hx93
                rw [takeAnswer_l1] at hz
                obtain ⟨rec90, hrec90⟩ : ∃ f, f = takeAnswer_l1 fu x2 d29 d77 k91 := ⟨_, rfl⟩
                rw [← hrec90] at hz
                refine W_seq ?_
                refine W_reg ?_
                refine WL_y (Y_lss hT86_90 rfl) ?_
                refine WL_nil (nm_then ?_)
                refine W_seq ?_
                refine W_cond rfl (fun hc94 => ?_) (fun hc94 => ?_)
                · replace hz := bif_ok_t hz hc94
                  refine W_skip (nm_then ?_)
                  refine W_seqJ (fun T' w' => ∃ M96 cs98 d99, Mm.ext w.heap.size noX M85 M96 ∧ St w noX M96 [.box b80 cs98 130, .box b9 cs28 45, .box b7 cx3 50, .box b5 cs76 45] w' ∧ rep M96 cs98 d99 ∧ T' 1 = .int .i64 x2 ∧ T' 3 = .pointer (some ⟨b5, 0, none⟩) ∧ T' 6 = .pointer (some ⟨b9, 0, none⟩) ∧ T' 11 = .pointer (some ⟨b80, 0, none⟩) ∧ T' 90 = .int .i64 y89 ∧ takeAnswer_j5 y89 rec90 d99 = some r) ?_ ?_
                  · have hF101 := Mm.ext.refl w.heap.size noX M85
                    refine W_block ?_
                    refine W_seq ?_
                    refine W_reg ?_
                    refine WL_y (Y_move (.int .i64 y89) hT86_90) ?_
                    refine WL_y (Y_assign (.int .i64 y89) rfl) ?_
                    refine WL_nil (nm_then ?_)
                    refine W_seq ?_
                    refine W_reg ?_
                    refine WL_y (Y_move (.int .i64 y89) rfl) ?_
                    refine WL_y (Y_fa fa45_3 hT86_3) ?_
                    obtain ⟨u102, hx103, hz⟩ := bind_ok hz
                    obtain ⟨hx103a, hx103b⟩ := inR_some hx103
                    refine WL_y (Y_ixA ia41 rfl rfl hx103a hx103b) ?_
                    obtain ⟨x104, hx105, hz⟩ := bind_ok hz
                    refine WL_y (Y_ld1 (.bool x104) ts4 rfl (hS.bvB 3 rfl) (vp (k := 1) rfl rfl (GCase.p3 (rep_root (k := 24) rfl hb76)) hx105)) ?_
                    refine WL_nil (nm_then ?_)
                    refine W_cond rfl (fun hc106 => ?_) (fun hc106 => ?_)
                    · replace hz := bif_ok_t hz hc106
                      refine W_reg ?_
                      refine WL_y (Y_move (.int .i64 y89) rfl) ?_
                      obtain ⟨r109, hr108, hz⟩ := bind_ok hz
                      replace hr108 := Option.some.inj hr108
                      refine WL_c (O_val (vs := [.int .i64 y89]) (v := .int .i64 r109) cb84 (args1 rfl) hS (hr108 ▸ (c_ofNode)) ?_)
                      intro w107 hS
                      obtain ⟨u110, hx111, hz⟩ := bind_ok hz
                      obtain ⟨hx111a, hx111b⟩ := inR_some hx111
                      refine WL_y (Y_ixA ia130 hT86_11 rfl hx111a hx111b) ?_
                      obtain ⟨x112, hx113, hz⟩ := bind_ok hz
                      refine WL_y (Y_ld1 (.int .i64 x112) ts3 rfl (hS.bvB 0 rfl) (vp (k := 1) rfl rfl (rep_root (k := 2) rfl hb87) hx113)) ?_
                      refine WL_y (Y_add rfl rfl) ?_
                      obtain ⟨u114, hx115, hz⟩ := bind_ok hz
                      obtain ⟨hx115a, hx115b⟩ := inR_some hx115
                      refine WL_y (Y_ixA ia130 hT86_11 rfl hx115a hx115b) ?_
                      obtain ⟨x118, hx119, hz⟩ := bind_ok hz
                      have hw117 : ([.int .i64 (IntKind.wrap .i64 (x112 + 1))] : List Value).length = 1 := Rep.len (show rep M85 [Value.int .i64 (IntKind.wrap .i64 (x112 + 1))] (IntKind.wrap .i64 (x112 + 1) : Int) from rfl)
                      have hl117 : (cs87).length = 2 := Rep.len hb87
                      have hq120 := (idxV_some hx119)
                      obtain ⟨a121, hx122, hz⟩ := bind_ok hz
                      obtain ⟨d123, hd117, hz⟩ := bind_ok hz
                      have hb117 : rep M85 (pt cs87 (0 + Int.toNat r109 * 1) [.int .i64 (IntKind.wrap .i64 (x112 + 1))]) d123 := rep_eq (rep_whole (k := 2) (by rw [pt_length (by omega)]; exact hl117) (vs (k := 1) rfl rfl (rep_root (k := 2) rfl hb87) (rep_leaf rfl (show rep M85 [Value.int .i64 (IntKind.wrap .i64 (x112 + 1))] (IntKind.wrap .i64 (x112 + 1) : Int) from rfl) (by omega)) hx122 (by omega) (by omega) (by omega))) hd117
                      generalize hg117 : (pt cs87 (0 + Int.toNat r109 * 1) [.int .i64 (IntKind.wrap .i64 (x112 + 1))]) = cs117 at hb117
                      refine WL_c (O_st (j := 0) (v := .int .i64 (IntKind.wrap .i64 (x112 + 1))) (ws := [.int .i64 (IntKind.wrap .i64 (x112 + 1))]) hS rfl (by kernel_rfl) rfl rfl rfl hw117 (Rep.one (show rep M85 [Value.int .i64 (IntKind.wrap .i64 (x112 + 1))] (IntKind.wrap .i64 (x112 + 1) : Int) from rfl)) (by omega) ?_)
                      rw [hg117]
                      clear hg117
                      intro w116 hS
                      replace hS : St w noX M85 [.box b80 cs117 130, .box b9 cs28 45, .box b7 cx3 50, .box b5 cs76 45] w116 := hS
                      refine WL_nil (nm_blk ?_)
                      refine (nm_then ?_)
                      exact ⟨M85, cs117, d123, hF101, hS, hb117, hT86_1, hT86_3, hT86_6, hT86_11, hT86_90, hz⟩
                    · replace hz := bif_ok_f hz hc106
                      refine W_skip (nm_blk ?_)
                      refine (nm_then ?_)
                      exact ⟨M85, cs87, d88, hF101, hS, hb87, hT86_1, hT86_3, hT86_6, hT86_11, hT86_90, hz⟩
                  · rintro T97 w95 ⟨M96, cs98, d99, hx100, hS, hb98, hT97_1, hT97_3, hT97_6, hT97_11, hT97_90, hz⟩
                    replace hcx3 := Rep.mono hx100.1 hcx3
                    replace hb28 := Rep.mono hx100.1 hb28
                    replace hb76 := Rep.mono hx100.1 hb76
                    replace hE := Mm.ext.trans hE hx100
                    replace hF53 := Mm.ext.trans hF53 hx100
                    replace hF92 := Mm.ext.trans hF92 hx100
                    rw [takeAnswer_j5] at hz
                    refine W_reg ?_
                    refine WL_y (Y_add hT97_90 rfl) ?_
                    refine WL_y (Y_move (.int .i64 (IntKind.wrap .i64 (y89 + 1))) rfl) ?_
                    refine WL_nil (nm_then ?_)
                    exact ⟨M96, cs98, d99, (IntKind.wrap .i64 (y89 + 1)), hF92, hS, hb98, hT97_1, hT97_3, hT97_6, hT97_11, rfl, (by rw [← hrec90]; exact hz)⟩
                · replace hz := bif_ok_f hz hc94
                  refine W_exit ?_
                  refine ex_then ?_
                  refine ex_then ?_
                  refine ex_hit ?_
                  refine (nm_then ?_)
                  refine W_seqJ (fun T' w' => ∃ M125 cs127 d128, Mm.ext w.heap.size noX M85 M125 ∧ St w noX M125 [.box b80 cs87 130, .box b9 cs28 45, .box b7 cx3 50, .box b5 cs127 45] w' ∧ rep M125 cs127 d128 ∧ T' 1 = .int .i64 x2 ∧ T' 3 = .pointer (some ⟨b5, 0, none⟩) ∧ T' 6 = .pointer (some ⟨b9, 0, none⟩) ∧ takeAnswer_j6 fu x2 d29 d128 = some r) ?_ ?_
                  · have hF144 := Mm.ext.refl w.heap.size noX M85
                    refine W_reg ?_
                    refine WL_y (Y_ixA ia130 hT86_11 rfl (by decide) (by decide)) ?_
                    obtain ⟨x145, hx146, hz⟩ := bind_ok hz
                    refine WL_y (Y_ld1 (.int .i64 x145) ts3 rfl (hS.bvB 0 rfl) (vp (k := 1) rfl rfl (rep_root (k := 2) rfl hb87) hx146)) ?_
                    refine WL_y (Y_gtr rfl rfl) ?_
                    refine WL_y (Y_move (.bool (decide (x145 > 1))) rfl) ?_
                    rcases Bool.eq_false_or_eq_true (decide (x145 > 1)) with hc147 | hc147
                    · replace hz := bif_ok_t hz hc147
                      refine WL_s (j := 3) rfl (bt hc147 rfl) rfl ?_
                      refine WL_s (j := 3) rfl (bt hc147 rfl) rfl ?_
                      refine WL_s (j := 3) rfl (bt hc147 rfl) rfl ?_
                      refine WL_s (j := 3) rfl (bt hc147 rfl) rfl ?_
                      refine WL_y (Y_pick_t (.bool true) (bt hc147 rfl) rfl) ?_
                      refine WL_y (Y_move (.bool true) rfl) ?_
                      refine WL_gy rfl rfl (Y_ixA ia130 hT86_11 rfl (by decide) (by decide)) ?_
                      obtain ⟨x148, hx149, hz⟩ := bind_ok hz
                      refine WL_gy rfl rfl (Y_ld1 (.int .i64 x148) ts3 rfl (hS.bvB 0 rfl) (vp (k := 1) rfl rfl (rep_root (k := 2) rfl hb87) hx149)) ?_
                      refine WL_gy rfl rfl (Y_gtr rfl rfl) ?_
                      refine WL_gy rfl rfl (Y_move (.bool (decide (x148 > 1))) rfl) ?_
                      rcases Bool.eq_false_or_eq_true (decide (x148 > 1)) with hc150 | hc150
                      · replace hz := bif_ok_t hz hc150
                        refine WL_s (j := 13) rfl (bt hc150 rfl) rfl ?_
                        refine WL_s (j := 13) rfl (bt hc150 rfl) rfl ?_
                        refine WL_s (j := 13) rfl (bt hc150 rfl) rfl ?_
                        refine WL_s (j := 13) rfl (bt hc150 rfl) rfl ?_
                        refine WL_gy rfl rfl (Y_pick_t (.bool true) (bt hc150 rfl) rfl) ?_
                        refine WL_y (Y_pick_t (.bool true) rfl rfl) ?_
                        refine WL_y (Y_fa fa45_1 hT86_3) ?_
                        have hw152 : ([.bool true] : List Value).length = 1 := Rep.len (show rep M85 [Value.bool true] (true : Bool) from rfl)
                        have hl152 : (cs76).length = 24 := Rep.len hb76
                        obtain ⟨d153, hd152, hz⟩ := bind_ok hz
                        have hb152 : rep M85 (pt cs76 (0 + 1) [.bool true]) d153 := rep_eq (rep_whole (k := 24) (by rw [pt_length (by omega)]; exact hl152) (GCase.s1 (rep_root (k := 24) rfl hb76) (rep_leaf rfl (show rep M85 [Value.bool true] (true : Bool) from rfl) (by omega)) (by omega) (by omega) (by omega))) hd152
                        generalize hg152 : (pt cs76 (0 + 1) [.bool true]) = cs152 at hb152
                        refine WL_c (O_st (j := 3) (v := .bool true) (ws := [.bool true]) hS rfl (by kernel_rfl) rfl rfl rfl hw152 (Rep.one (show rep M85 [Value.bool true] (true : Bool) from rfl)) (by omega) ?_)
                        rw [hg152]
                        clear hg152
                        intro w151 hS
                        replace hS : St w noX M85 [.box b80 cs87 130, .box b9 cs28 45, .box b7 cx3 50, .box b5 cs152 45] w151 := hS
                        refine WL_nil (nm_then ?_)
                        exact ⟨M85, cs152, d153, hF144, hS, hb152, hT86_1, hT86_3, hT86_6, hz⟩
                      · replace hz := bif_ok_f hz hc150
                        refine WL_gy rfl (bf hc150 rfl) (Y_fa fa45_2 hT86_3) ?_
                        obtain ⟨v154, ev154, hv154⟩ := (GCase.p2 (rep_root (k := 24) rfl hb76))
                        refine WL_gy rfl (bf hc150 rfl) (Y_ld1 v154 ts40 rfl (hS.bvB 3 rfl) ev154) ?_
                        obtain ⟨r157, hr156, hz⟩ := bind_ok hz
                        replace hr156 := Option.some.inj hr156
                        refine WL_g rfl (bf hc150 rfl) (O_val (vs := [v154, .int .i64 1]) (v := .bool r157) cb85 (args2 rfl rfl) hS (hr156 ▸ (c_touchesShard hS.agree hv154)) ?_)
                        intro w155 hS
                        refine WL_gy rfl (bf hc150 rfl) (Y_not rfl) ?_
                        refine WL_gy rfl rfl (Y_pick_f (.bool (!r157)) (bf hc150 rfl) rfl) ?_
                        refine WL_y (Y_pick_t (.bool (!r157)) rfl rfl) ?_
                        refine WL_y (Y_fa fa45_1 hT86_3) ?_
                        have hw159 : ([.bool (!r157)] : List Value).length = 1 := Rep.len (show rep M85 [Value.bool (!r157)] (!r157 : Bool) from rfl)
                        have hl159 : (cs76).length = 24 := Rep.len hb76
                        obtain ⟨d160, hd159, hz⟩ := bind_ok hz
                        have hb159 : rep M85 (pt cs76 (0 + 1) [.bool (!r157)]) d160 := rep_eq (rep_whole (k := 24) (by rw [pt_length (by omega)]; exact hl159) (GCase.s1 (rep_root (k := 24) rfl hb76) (rep_leaf rfl (show rep M85 [Value.bool (!r157)] (!r157 : Bool) from rfl) (by omega)) (by omega) (by omega) (by omega))) hd159
                        generalize hg159 : (pt cs76 (0 + 1) [.bool (!r157)]) = cs159 at hb159
                        refine WL_c (O_st (j := 3) (v := .bool (!r157)) (ws := [.bool (!r157)]) hS rfl (by kernel_rfl) rfl rfl rfl hw159 (Rep.one (show rep M85 [Value.bool (!r157)] (!r157 : Bool) from rfl)) (by omega) ?_)
                        rw [hg159]
                        clear hg159
                        intro w158 hS
                        replace hS : St w noX M85 [.box b80 cs87 130, .box b9 cs28 45, .box b7 cx3 50, .box b5 cs159 45] w158 := hS
                        refine WL_nil (nm_then ?_)
                        exact ⟨M85, cs159, d160, hF144, hS, hb159, hT86_1, hT86_3, hT86_6, hz⟩
                    · replace hz := bif_ok_f hz hc147
                      refine WL_gy rfl (bf hc147 rfl) (Y_fa fa45_2 hT86_3) ?_
                      obtain ⟨v161, ev161, hv161⟩ := (GCase.p2 (rep_root (k := 24) rfl hb76))
                      refine WL_gy rfl (bf hc147 rfl) (Y_ld1 v161 ts40 rfl (hS.bvB 3 rfl) ev161) ?_
                      obtain ⟨r164, hr163, hz⟩ := bind_ok hz
                      replace hr163 := Option.some.inj hr163
                      refine WL_g rfl (bf hc147 rfl) (O_val (vs := [v161, .int .i64 0]) (v := .bool r164) cb85 (args2 rfl rfl) hS (hr163 ▸ (c_touchesShard hS.agree hv161)) ?_)
                      intro w162 hS
                      refine WL_gy rfl (bf hc147 rfl) (Y_not rfl) ?_
                      refine WL_y (Y_pick_f (.bool (!r164)) (bf hc147 rfl) rfl) ?_
                      refine WL_y (Y_move (.bool (!r164)) rfl) ?_
                      rcases Bool.eq_false_or_eq_true (!r164) with hc165 | hc165
                      · replace hz := bif_ok_t hz hc165
                        refine WL_gy rfl (bt hc165 rfl) (Y_ixA ia130 hT86_11 rfl (by decide) (by decide)) ?_
                        obtain ⟨x166, hx167, hz⟩ := bind_ok hz
                        refine WL_gy rfl (bt hc165 rfl) (Y_ld1 (.int .i64 x166) ts3 rfl (hS.bvB 0 rfl) (vp (k := 1) rfl rfl (rep_root (k := 2) rfl hb87) hx167)) ?_
                        refine WL_gy rfl (bt hc165 rfl) (Y_gtr rfl rfl) ?_
                        refine WL_gy rfl (bt hc165 rfl) (Y_move (.bool (decide (x166 > 1))) rfl) ?_
                        rcases Bool.eq_false_or_eq_true (decide (x166 > 1)) with hc168 | hc168
                        · replace hz := bif_ok_t hz hc168
                          refine WL_s (j := 13) rfl (bt hc168 rfl) rfl ?_
                          refine WL_s (j := 13) rfl (bt hc168 rfl) rfl ?_
                          refine WL_s (j := 13) rfl (bt hc168 rfl) rfl ?_
                          refine WL_s (j := 13) rfl (bt hc168 rfl) rfl ?_
                          refine WL_gy rfl (bt hc165 rfl) (Y_pick_t (.bool true) (bt hc168 rfl) rfl) ?_
                          refine WL_y (Y_pick_t (.bool true) (bt hc165 rfl) rfl) ?_
                          refine WL_y (Y_fa fa45_1 hT86_3) ?_
                          have hw170 : ([.bool true] : List Value).length = 1 := Rep.len (show rep M85 [Value.bool true] (true : Bool) from rfl)
                          have hl170 : (cs76).length = 24 := Rep.len hb76
                          obtain ⟨d171, hd170, hz⟩ := bind_ok hz
                          have hb170 : rep M85 (pt cs76 (0 + 1) [.bool true]) d171 := rep_eq (rep_whole (k := 24) (by rw [pt_length (by omega)]; exact hl170) (GCase.s1 (rep_root (k := 24) rfl hb76) (rep_leaf rfl (show rep M85 [Value.bool true] (true : Bool) from rfl) (by omega)) (by omega) (by omega) (by omega))) hd170
                          generalize hg170 : (pt cs76 (0 + 1) [.bool true]) = cs170 at hb170
                          refine WL_c (O_st (j := 3) (v := .bool true) (ws := [.bool true]) hS rfl (by kernel_rfl) rfl rfl rfl hw170 (Rep.one (show rep M85 [Value.bool true] (true : Bool) from rfl)) (by omega) ?_)
                          rw [hg170]
                          clear hg170
                          intro w169 hS
                          replace hS : St w noX M85 [.box b80 cs87 130, .box b9 cs28 45, .box b7 cx3 50, .box b5 cs170 45] w169 := hS
                          refine WL_nil (nm_then ?_)
                          exact ⟨M85, cs170, d171, hF144, hS, hb170, hT86_1, hT86_3, hT86_6, hz⟩
                        · replace hz := bif_ok_f hz hc168
                          refine WL_gy rfl (bf hc168 rfl) (Y_fa fa45_2 hT86_3) ?_
                          obtain ⟨v172, ev172, hv172⟩ := (GCase.p2 (rep_root (k := 24) rfl hb76))
                          refine WL_gy rfl (bf hc168 rfl) (Y_ld1 v172 ts40 rfl (hS.bvB 3 rfl) ev172) ?_
                          obtain ⟨r175, hr174, hz⟩ := bind_ok hz
                          replace hr174 := Option.some.inj hr174
                          refine WL_g rfl (bf hc168 rfl) (O_val (vs := [v172, .int .i64 1]) (v := .bool r175) cb85 (args2 rfl rfl) hS (hr174 ▸ (c_touchesShard hS.agree hv172)) ?_)
                          intro w173 hS
                          refine WL_gy rfl (bf hc168 rfl) (Y_not rfl) ?_
                          refine WL_gy rfl (bt hc165 rfl) (Y_pick_f (.bool (!r175)) (bf hc168 rfl) rfl) ?_
                          refine WL_y (Y_pick_t (.bool (!r175)) (bt hc165 rfl) rfl) ?_
                          refine WL_y (Y_fa fa45_1 hT86_3) ?_
                          have hw177 : ([.bool (!r175)] : List Value).length = 1 := Rep.len (show rep M85 [Value.bool (!r175)] (!r175 : Bool) from rfl)
                          have hl177 : (cs76).length = 24 := Rep.len hb76
                          obtain ⟨d178, hd177, hz⟩ := bind_ok hz
                          have hb177 : rep M85 (pt cs76 (0 + 1) [.bool (!r175)]) d178 := rep_eq (rep_whole (k := 24) (by rw [pt_length (by omega)]; exact hl177) (GCase.s1 (rep_root (k := 24) rfl hb76) (rep_leaf rfl (show rep M85 [Value.bool (!r175)] (!r175 : Bool) from rfl) (by omega)) (by omega) (by omega) (by omega))) hd177
                          generalize hg177 : (pt cs76 (0 + 1) [.bool (!r175)]) = cs177 at hb177
                          refine WL_c (O_st (j := 3) (v := .bool (!r175)) (ws := [.bool (!r175)]) hS rfl (by kernel_rfl) rfl rfl rfl hw177 (Rep.one (show rep M85 [Value.bool (!r175)] (!r175 : Bool) from rfl)) (by omega) ?_)
                          rw [hg177]
                          clear hg177
                          intro w176 hS
                          replace hS : St w noX M85 [.box b80 cs87 130, .box b9 cs28 45, .box b7 cx3 50, .box b5 cs177 45] w176 := hS
                          refine WL_nil (nm_then ?_)
                          exact ⟨M85, cs177, d178, hF144, hS, hb177, hT86_1, hT86_3, hT86_6, hz⟩
                      · replace hz := bif_ok_f hz hc165
                        refine WL_s (j := 9) rfl (bf hc165 rfl) rfl ?_
                        refine WL_s (j := 9) rfl (bf hc165 rfl) rfl ?_
                        refine WL_s (j := 9) rfl (bf hc165 rfl) rfl ?_
                        refine WL_s (j := 9) rfl (bf hc165 rfl) rfl ?_
                        refine WL_su (j := 13) rfl rfl ?_
                        refine WL_su (j := 13) rfl rfl ?_
                        refine WL_su (j := 13) rfl rfl ?_
                        refine WL_su (j := 13) rfl rfl ?_
                        refine WL_s (j := 9) rfl (bf hc165 rfl) rfl ?_
                        refine WL_y (Y_pick_f (.bool false) (bf hc165 rfl) rfl) ?_
                        refine WL_y (Y_fa fa45_1 hT86_3) ?_
                        have hw180 : ([.bool false] : List Value).length = 1 := Rep.len (show rep M85 [Value.bool false] (false : Bool) from rfl)
                        have hl180 : (cs76).length = 24 := Rep.len hb76
                        obtain ⟨d181, hd180, hz⟩ := bind_ok hz
                        have hb180 : rep M85 (pt cs76 (0 + 1) [.bool false]) d181 := rep_eq (rep_whole (k := 24) (by rw [pt_length (by omega)]; exact hl180) (GCase.s1 (rep_root (k := 24) rfl hb76) (rep_leaf rfl (show rep M85 [Value.bool false] (false : Bool) from rfl) (by omega)) (by omega) (by omega) (by omega))) hd180
                        generalize hg180 : (pt cs76 (0 + 1) [.bool false]) = cs180 at hb180
                        refine WL_c (O_st (j := 3) (v := .bool false) (ws := [.bool false]) hS rfl (by kernel_rfl) rfl rfl rfl hw180 (Rep.one (show rep M85 [Value.bool false] (false : Bool) from rfl)) (by omega) ?_)
                        rw [hg180]
                        clear hg180
                        intro w179 hS
                        replace hS : St w noX M85 [.box b80 cs87 130, .box b9 cs28 45, .box b7 cx3 50, .box b5 cs180 45] w179 := hS
                        refine WL_nil (nm_then ?_)
                        exact ⟨M85, cs180, d181, hF144, hS, hb180, hT86_1, hT86_3, hT86_6, hz⟩
                  · rintro T126 w124 ⟨M125, cs127, d128, hx129, hS, hb127, hT126_1, hT126_3, hT126_6, hz⟩
                    replace hcx3 := Rep.mono hx129.1 hcx3
                    replace hb28 := Rep.mono hx129.1 hb28
                    replace hb87 := Rep.mono hx129.1 hb87
                    replace hE := Mm.ext.trans hE hx129
                    replace hF53 := Mm.ext.trans hF53 hx129
                    replace hF92 := Mm.ext.trans hF92 hx129
                    rw [takeAnswer_j6] at hz
                    refine W_seq ?_
                    refine W_reg ?_
                    refine WL_y (Y_fa fa45_1 hT126_3) ?_
                    refine WL_y (Y_ld1 (.bool d128.fixed) ts4 rfl (hS.bvB 3 rfl) (GCase.p1 (rep_root (k := 24) rfl hb127))) ?_
                    refine WL_nil (nm_then ?_)
                    refine W_cond rfl (fun hc130 => ?_) (fun hc130 => ?_)
                    · replace hz := bif_ok_t hz hc130
                      refine W_seq ?_
                      refine W_drawB (Rd M125 [.box b5 cs127 45]) (inL []) mixed hS fun w131 hS => ?_
                      have hG132 := Mm.ext.refl w.heap.size noX M125
                      have hR133 : Rd M125 [.box b5 cs127 45] w131 := Rd.of hS hG132 (by simp)
                      have ha134 := (rep_root (k := 24) rfl hb127)
                      refine WB_ld (i := 0) rfl (by kernel_rfl) rfl (inL_lt rfl) (by kernel_rfl) (by kernel_rfl) (Y_ldn ta45 hT126_3 (bvR 0 rfl) (Rep.len ha134)) hR133 ?_
                      have ha135 := (rep_root (k := 24) rfl hb127)
                      refine WB_ld (i := 1) rfl (by kernel_rfl) rfl (inL_lt rfl) (by kernel_rfl) (by kernel_rfl) (Y_ldn ta45 hT126_3 (bvR 0 rfl) (Rep.len ha135)) hR133 ?_
                      refine WB_y (i := 2) rfl (by kernel_rfl) rfl (Y_move (.int .i64 x2) hT126_1) (fun _ => hR133) ?_
                      obtain ⟨r138, hr137, hz⟩ := bind_ok hz
                      refine WB_one (i := 3) (by kernel_rfl) rfl (O_mem (vs := [.agg (sl cs127 (0) 24).toArray, .int .i64 x2]) (rv := (fun M' u => repL M' u r138)) cb87 (args2 rfl rfl) hS (againCase_ok hS.agree ha135 hr137) ?_)
                      intro u137 M137 w136 hx137 hu137 hS
                      have f137 : repL M137 u137 r138 := hu137
                      replace hcx3 := Rep.mono hx137.1 hcx3
                      replace hb28 := Rep.mono hx137.1 hb28
                      replace hb87 := Rep.mono hx137.1 hb87
                      replace hb127 := Rep.mono hx137.1 hb127
                      replace ha134 := Rep.mono hx137.1 ha134
                      replace ha135 := Rep.mono hx137.1 ha135
                      replace hE := Mm.ext.trans hE hx137
                      replace hF53 := Mm.ext.trans hF53 hx137
                      replace hF92 := Mm.ext.trans hF92 hx137
                      replace hG132 := Mm.ext.trans hG132 hx137
                      have hR139 : Rd M125 [.box b5 cs127 45] w136 := Rd.of hS hG132 (by simp)
                      refine ⟨fun _ => hR139, ?_⟩
                      have hw141 : ((sl cs127 (0) 24) : List Value).length = 24 := Rep.len ha134
                      have hl141 : (cs28).length = 24 := Rep.len hb28
                      obtain ⟨d142, hd141, hz⟩ := bind_ok hz
                      have hb141 : rep M137 (pt cs28 (0) (sl cs127 (0) 24)) d142 := rep_eq (rep_whole (k := 24) (by rw [pt_length (by omega)]; exact hl141) (rep_leaf rfl ha134 (by omega))) hd141
                      generalize hg141 : (pt cs28 (0) (sl cs127 (0) 24)) = cs141 at hb141
                      refine WB_one (i := 4) (by kernel_rfl) rfl (O_st (j := 1) (v := .agg (sl cs127 (0) 24).toArray) (ws := (sl cs127 (0) 24)) hS rfl (by kernel_rfl) hT126_6 rfl rfl hw141 (Rep.one ha134) (by omega) ?_)
                      rw [hg141]
                      clear hg141
                      intro w140 hS
                      replace hS : St w noX M137 [.box b80 cs87 130, .box b9 cs141 45, .box b7 cx3 50, .box b5 cs127 45] w140 := hS
                      have hR143 : Rd M125 [.box b5 cs127 45] w140 := Rd.of hS hG132 (by simp)
                      refine ⟨fun _ => hR143, ?_⟩
                      refine WB_y (i := 5) rfl (by kernel_rfl) rfl (Y_assign (u137) rfl) (fun _ => hR143) ?_
                      refine WB_y (i := 6) rfl (by kernel_rfl) rfl (Y_assign (.int .i64 0) rfl) (fun _ => hR143) ?_
                      refine WB_done (by kernel_rfl) (nm_then ?_)
                      cases hz
                      exact W_ret (rt_blk (rt_then (R_ctt (j := 1) rfl hT126_6 rfl rfl (by rw [Rep.len hb141]; exact ta45) hS rfl (Gives.mk (St.dropB (St.dropB (St.dropB (St.dropB hS hb80) hb9) hb7) hb5) hE ⟨_, _, rfl, hb141, f137⟩))))
                    · replace hz := bif_ok_f hz hc130
                      refine W_skip (nm_blk ?_)
                      refine (nm_then ?_)
                      exact ⟨M125, cs28, d29, cs127, d128, hF53, (St.dropB hS hb80), hb28, hb127, hT126_3, hT126_6, hz⟩
            · replace hz := bif_ok_f hz hc59
              refine W_seqJ (fun T' w' => ∃ M183 c185, Mm.ext w.heap.size noX M55 M183 ∧ St w noX M183 [.box b9 cs28 45, .box b7 cx3 50, .box b5 cs36 45] w' ∧ T' 3 = .pointer (some ⟨b5, 0, none⟩) ∧ T' 5 = .pointer (some ⟨b7, 0, none⟩) ∧ T' 6 = .pointer (some ⟨b9, 0, none⟩) ∧ T' 10 = .int .i64 r40 ∧ T' 131 = .bool c185 ∧ takeAnswer_j7 fu x3 d29 d37 r40 c185 = some r) ?_ ?_
              · have hF277 := Mm.ext.refl w.heap.size noX M55
                refine W_reg ?_
                refine WL_y (Y_fa fa50_0 hT56_5) ?_
                refine WL_y (Y_ld1 (.int .i64 x3.kind) ts3 rfl (hS.bvB 1 rfl) (GFrame.p0 (rep_root (k := 7) rfl hcx3))) ?_
                refine WL_y (Y_eql rfl rfl) ?_
                refine WL_y (Y_move (.bool (x3.kind == 4)) rfl) ?_
                rcases Bool.eq_false_or_eq_true (x3.kind == 4) with hc278 | hc278
                · replace hz := bif_ok_t hz hc278
                  refine WL_gy rfl (bt hc278 rfl) (Y_fa fa45_1 hT56_3) ?_
                  refine WL_gy rfl (bt hc278 rfl) (Y_ld1 (.bool d37.fixed) ts4 rfl (hS.bvB 2 rfl) (GCase.p1 (rep_root (k := 24) rfl hb36))) ?_
                  refine WL_y (Y_pick_t (.bool d37.fixed) (bt hc278 rfl) rfl) ?_
                  refine WL_y (Y_assign (.bool d37.fixed) rfl) ?_
                  refine WL_nil (nm_then ?_)
                  exact ⟨M55, d37.fixed, hF277, hS, hT56_3, hT56_5, hT56_6, hT56_10, rfl, hz⟩
                · replace hz := bif_ok_f hz hc278
                  refine WL_s (j := 3) rfl (bf hc278 rfl) rfl ?_
                  refine WL_s (j := 3) rfl (bf hc278 rfl) rfl ?_
                  refine WL_y (Y_pick_f (.bool false) (bf hc278 rfl) rfl) ?_
                  refine WL_y (Y_assign (.bool false) rfl) ?_
                  refine WL_nil (nm_then ?_)
                  exact ⟨M55, false, hF277, hS, hT56_3, hT56_5, hT56_6, hT56_10, rfl, hz⟩
              · rintro T184 w182 ⟨M183, c185, hx186, hS, hT184_3, hT184_5, hT184_6, hT184_10, hT184_131, hz⟩
                replace hcx3 := Rep.mono hx186.1 hcx3
                replace hb28 := Rep.mono hx186.1 hb28
                replace hb36 := Rep.mono hx186.1 hb36
                replace hE := Mm.ext.trans hE hx186
                replace hF53 := Mm.ext.trans hF53 hx186
                rw [takeAnswer_j7] at hz
                refine W_cond hT184_131 (fun hc187 => ?_) (fun hc187 => ?_)
                · replace hz := bif_ok_t hz hc187
                  refine W_reg ?_
                  refine WL_y (Y_fa fa50_1 hT184_5) ?_
                  refine WL_y (Y_ld1 (.int .i64 x3.node) ts3 rfl (hS.bvB 1 rfl) (GFrame.p1 (rep_root (k := 7) rfl hcx3))) ?_
                  refine WL_y (Y_fa fa45_4 hT184_3) ?_
                  obtain ⟨u188, hx189, hz⟩ := bind_ok hz
                  obtain ⟨hx189a, hx189b⟩ := inR_some hx189
                  refine WL_y (Y_ixA ia41 rfl rfl hx189a hx189b) ?_
                  obtain ⟨x192, hx193, hz⟩ := bind_ok hz
                  have hw191 : ([.bool true] : List Value).length = 1 := Rep.len (show rep M183 [Value.bool true] (true : Bool) from rfl)
                  have hl191 : (cs36).length = 24 := Rep.len hb36
                  have hq194 := (idxV_some hx193)
                  obtain ⟨a195, hx196, hz⟩ := bind_ok hz
                  obtain ⟨d197, hd191, hz⟩ := bind_ok hz
                  have hb191 : rep M183 (pt cs36 (0 + 9 + Int.toNat x3.node * 1) [.bool true]) d197 := rep_eq (rep_whole (k := 24) (by rw [pt_length (by omega)]; exact hl191) (GCase.s4 (rep_root (k := 24) rfl hb36) (vs (k := 1) rfl rfl (GCase.p4 (rep_root (k := 24) rfl hb36)) (rep_leaf rfl (show rep M183 [Value.bool true] (true : Bool) from rfl) (by omega)) hx196 (by omega) (by omega) (by omega)) (by omega) (by omega) (by omega))) hd191
                  generalize hg191 : (pt cs36 (0 + 9 + Int.toNat x3.node * 1) [.bool true]) = cs191 at hb191
                  refine WL_c (O_st (j := 2) (v := .bool true) (ws := [.bool true]) hS rfl (by kernel_rfl) rfl rfl rfl hw191 (Rep.one (show rep M183 [Value.bool true] (true : Bool) from rfl)) (by omega) ?_)
                  rw [hg191]
                  clear hg191
                  intro w190 hS
                  replace hS : St w noX M183 [.box b9 cs28 45, .box b7 cx3 50, .box b5 cs191 45] w190 := hS
                  refine WL_nil (nm_blk ?_)
                  refine (nm_then ?_)
                  exact ⟨M183, cs28, d29, cs191, d197, hF53, hS, hb28, hb191, hT184_3, hT184_6, hz⟩
                · replace hz := bif_ok_f hz hc187
                  refine W_seqJ (fun T' w' => ∃ M199 c201, Mm.ext w.heap.size noX M183 M199 ∧ St w noX M199 [.box b9 cs28 45, .box b7 cx3 50, .box b5 cs36 45] w' ∧ T' 3 = .pointer (some ⟨b5, 0, none⟩) ∧ T' 5 = .pointer (some ⟨b7, 0, none⟩) ∧ T' 6 = .pointer (some ⟨b9, 0, none⟩) ∧ T' 10 = .int .i64 r40 ∧ T' 143 = .bool c201 ∧ takeAnswer_j8 fu x3 d29 d37 r40 c201 = some r) ?_ ?_
                  · have hF275 := Mm.ext.refl w.heap.size noX M183
                    refine W_reg ?_
                    refine WL_y (Y_fa fa50_0 hT184_5) ?_
                    refine WL_y (Y_ld1 (.int .i64 x3.kind) ts3 rfl (hS.bvB 1 rfl) (GFrame.p0 (rep_root (k := 7) rfl hcx3))) ?_
                    refine WL_y (Y_eql rfl rfl) ?_
                    refine WL_y (Y_move (.bool (x3.kind == 5)) rfl) ?_
                    rcases Bool.eq_false_or_eq_true (x3.kind == 5) with hc276 | hc276
                    · replace hz := bif_ok_t hz hc276
                      refine WL_gy rfl (bt hc276 rfl) (Y_fa fa45_1 hT184_3) ?_
                      refine WL_gy rfl (bt hc276 rfl) (Y_ld1 (.bool d37.fixed) ts4 rfl (hS.bvB 2 rfl) (GCase.p1 (rep_root (k := 24) rfl hb36))) ?_
                      refine WL_y (Y_pick_t (.bool d37.fixed) (bt hc276 rfl) rfl) ?_
                      refine WL_y (Y_assign (.bool d37.fixed) rfl) ?_
                      refine WL_nil (nm_then ?_)
                      exact ⟨M183, d37.fixed, hF275, hS, hT184_3, hT184_5, hT184_6, hT184_10, rfl, hz⟩
                    · replace hz := bif_ok_f hz hc276
                      refine WL_s (j := 3) rfl (bf hc276 rfl) rfl ?_
                      refine WL_s (j := 3) rfl (bf hc276 rfl) rfl ?_
                      refine WL_y (Y_pick_f (.bool false) (bf hc276 rfl) rfl) ?_
                      refine WL_y (Y_assign (.bool false) rfl) ?_
                      refine WL_nil (nm_then ?_)
                      exact ⟨M183, false, hF275, hS, hT184_3, hT184_5, hT184_6, hT184_10, rfl, hz⟩
                  · rintro T200 w198 ⟨M199, c201, hx202, hS, hT200_3, hT200_5, hT200_6, hT200_10, hT200_143, hz⟩
                    replace hcx3 := Rep.mono hx202.1 hcx3
                    replace hb28 := Rep.mono hx202.1 hb28
                    replace hb36 := Rep.mono hx202.1 hb36
                    replace hE := Mm.ext.trans hE hx202
                    replace hF53 := Mm.ext.trans hF53 hx202
                    rw [takeAnswer_j8] at hz
                    refine W_cond hT200_143 (fun hc203 => ?_) (fun hc203 => ?_)
                    · replace hz := bif_ok_t hz hc203
                      refine W_seq ?_
                      refine W_reg ?_
                      refine WL_y (Y_fa fa50_5 hT200_5) ?_
                      obtain ⟨v204, ev204, hv204⟩ := (GFrame.p5 (rep_root (k := 7) rfl hcx3))
                      refine WL_y (Y_ld1 v204 ts23 rfl (hS.bvB 1 rfl) ev204) ?_
                      obtain ⟨a205, c205, hv205, _⟩ := repL_shape hv204
                      refine WL_y (Y_lenL Try.underlying23 (tr2 hv205 rfl)) ?_
                      refine WL_y (Y_move (.int .i64 0) rfl) ?_
                      refine WL_nil (nm_then ?_)
                      refine W_block ?_
                      refine W_loop (fun k213 T' w' => ∃ M207 cs209 d210 y211, Mm.ext w.heap.size noX M199 M207 ∧ St w noX M207 [.box b9 cs28 45, .box b7 cx3 50, .box b5 cs209 45] w' ∧ rep M207 cs209 d210 ∧ T' 3 = .pointer (some ⟨b5, 0, none⟩) ∧ T' 5 = .pointer (some ⟨b7, 0, none⟩) ∧ T' 6 = .pointer (some ⟨b9, 0, none⟩) ∧ T' 10 = .int .i64 r40 ∧ T' 152 = v204 ∧ T' 153 = .int .i64 (x3.at_.length : Int) ∧ T' 154 = .int .i64 y211 ∧ takeAnswer_l2 x3 d29 r40 k213 d210 y211 = some r) fu ?_ ?_ ?_
                      · exact ⟨M199, cs36, d37, (0 : Int), (Mm.ext.refl _ _ _), hS, hb36, hT200_3, hT200_5, hT200_6, hT200_10, rfl, rfl, rfl, hz⟩
                      · rintro T' w' ⟨_, _, _, _, _, _, _, _, _, _, _, _, _, _, hz⟩
                        rw [takeAnswer_l2] at hz
                        cases hz
                      · intro k213
                        rintro T208 w206 ⟨M207, cs209, d210, y211, hx215, hS, hb209, hT208_3, hT208_5, hT208_6, hT208_10, hT208_152, hT208_153, hT208_154, hz⟩
                        replace hcx3 := Rep.mono hx215.1 hcx3
                        replace hb28 := Rep.mono hx215.1 hb28
                        replace hv204 := repL.mono hx215.1 hv204
                        replace hE := Mm.ext.trans hE hx215
                        replace hF53 := Mm.ext.trans hF53 hx215
                        have hF214 := hx215
                        rw [takeAnswer_l2] at hz
                        obtain ⟨rec212, hrec212⟩ : ∃ f, f = takeAnswer_l2 x3 d29 r40 k213 := ⟨_, rfl⟩
                        rw [← hrec212] at hz
                        refine W_seq ?_
                        refine W_reg ?_
                        refine WL_y (Y_lss hT208_154 hT208_153) ?_
                        refine WL_nil (nm_then ?_)
                        refine W_seq ?_
                        refine W_cond rfl (fun hc216 => ?_) (fun hc216 => ?_)
                        · replace hz := bif_ok_t hz hc216
                          refine W_skip (nm_then ?_)
                          refine W_seqJ (fun T' w' => ∃ M218 cs220 d221, Mm.ext w.heap.size noX M207 M218 ∧ St w noX M218 [.box b9 cs28 45, .box b7 cx3 50, .box b5 cs220 45] w' ∧ rep M218 cs220 d221 ∧ T' 3 = .pointer (some ⟨b5, 0, none⟩) ∧ T' 5 = .pointer (some ⟨b7, 0, none⟩) ∧ T' 6 = .pointer (some ⟨b9, 0, none⟩) ∧ T' 10 = .int .i64 r40 ∧ T' 152 = v204 ∧ T' 153 = .int .i64 (x3.at_.length : Int) ∧ T' 154 = .int .i64 y211 ∧ takeAnswer_j9 y211 rec212 d221 = some r) ?_ ?_
                          · have hF223 := Mm.ext.refl w.heap.size noX M207
                            refine W_block ?_
                            refine W_seq ?_
                            refine W_reg ?_
                            refine WL_y (Y_move (.int .i64 y211) hT208_154) ?_
                            obtain ⟨x225, hx224, hz⟩ := bind_ok hz
                            obtain ⟨b224, o224, c224, p224, hv224, hi224, hj224, hM224, hr224⟩ := repL_at hv204 hx224
                            replace hr224 : rep _ (sl p224 (o224 + Int.toNat y211 * 1) 1) x225 := hr224
                            refine WL_y (Y_ixL il23 hT208_152 hv224 hT208_154 hi224 hj224) ?_
                            refine WL_y (Y_ld1 (.int .i64 x225) ts3 rfl (hS.bvM hM224) hr224) ?_
                            refine WL_y (Y_assign (.int .i64 y211) rfl) ?_
                            refine WL_y (Y_assign (.int .i64 x225) rfl) ?_
                            refine WL_nil (nm_then ?_)
                            refine W_seqJ (fun T' w' => ∃ M227 c229, Mm.ext w.heap.size noX M207 M227 ∧ St w noX M227 [.box b9 cs28 45, .box b7 cx3 50, .box b5 cs209 45] w' ∧ T' 3 = .pointer (some ⟨b5, 0, none⟩) ∧ T' 5 = .pointer (some ⟨b7, 0, none⟩) ∧ T' 6 = .pointer (some ⟨b9, 0, none⟩) ∧ T' 10 = .int .i64 r40 ∧ T' 13 = .int .i64 y211 ∧ T' 14 = .int .i64 x225 ∧ T' 152 = v204 ∧ T' 153 = .int .i64 (x3.at_.length : Int) ∧ T' 154 = .int .i64 y211 ∧ T' 181 = .bool c229 ∧ takeAnswer_j10 x3 d210 y211 rec212 x225 c229 = some r) ?_ ?_
                            · have hF260 := Mm.ext.refl w.heap.size noX M207
                              refine W_reg ?_
                              refine WL_y (Y_move (.int .i64 x225) rfl) ?_
                              refine WL_y (Y_fa fa45_2 hT208_3) ?_
                              obtain ⟨v261, ev261, hv261⟩ := (GCase.p2 (rep_root (k := 24) rfl hb209))
                              refine WL_y (Y_ld1 v261 ts40 rfl (hS.bvB 2 rfl) ev261) ?_
                              obtain ⟨a262, c262, hv262, _⟩ := repL_shape hv261
                              refine WL_y (Y_lenL Try.underlying40 (tr2 hv262 rfl)) ?_
                              refine WL_y (Y_lss rfl rfl) ?_
                              refine WL_y (Y_move (.bool (decide (x225 < (d210.ops.length : Int)))) rfl) ?_
                              rcases Bool.eq_false_or_eq_true (decide (x225 < (d210.ops.length : Int))) with hc263 | hc263
                              · replace hz := bif_ok_t hz hc263
                                refine WL_gy rfl (bt hc263 rfl) (Y_fa fa45_2 hT208_3) ?_
                                obtain ⟨v264, ev264, hv264⟩ := (GCase.p2 (rep_root (k := 24) rfl hb209))
                                refine WL_gy rfl (bt hc263 rfl) (Y_ld1 v264 ts40 rfl (hS.bvB 2 rfl) ev264) ?_
                                refine WL_gy rfl (bt hc263 rfl) (Y_move (.int .i64 x225) rfl) ?_
                                obtain ⟨x266, hx265, hz⟩ := bind_ok hz
                                obtain ⟨b265, o265, c265, p265, hv265, hi265, hj265, hM265, hr265⟩ := repL_at hv264 hx265
                                replace hr265 : rep _ (sl p265 (o265 + Int.toNat x225 * 3) 3) x266 := hr265
                                refine WL_gy rfl (bt hc263 rfl) (Y_ixL il40 rfl hv265 rfl hi265 hj265) ?_
                                refine WL_gy rfl (bt hc263 rfl) (Y_fa fa114_1 rfl) ?_
                                refine WL_gy rfl (bt hc263 rfl) (Y_ld1 (.int .i64 x266.key) ts3 rfl (hS.bvM hM265) (GOp.p1 hr265)) ?_
                                obtain ⟨r269, hr268, hz⟩ := bind_ok hz
                                replace hr268 := Option.some.inj hr268
                                refine WL_g rfl (bt hc263 rfl) (O_val (vs := [.int .i64 x266.key]) (v := .int .i64 r269) cb88 (args1 rfl) hS (hr268 ▸ (c_shardOf)) ?_)
                                intro w267 hS
                                refine WL_gy rfl (bt hc263 rfl) (Y_move (.int .i64 r40) hT208_10) ?_
                                refine WL_gy rfl (bt hc263 rfl) (Y_eql rfl rfl) ?_
                                refine WL_y (Y_pick_t (.bool (r269 == r40)) (bt hc263 rfl) rfl) ?_
                                refine WL_y (Y_move (.bool (r269 == r40)) rfl) ?_
                                rcases Bool.eq_false_or_eq_true (r269 == r40) with hc270 | hc270
                                · replace hz := bif_ok_t hz hc270
                                  refine WL_gy rfl (bt hc270 rfl) (Y_move (.int .i64 x225) rfl) ?_
                                  refine WL_gy rfl (bt hc270 rfl) (Y_fa fa45_6 hT208_3) ?_
                                  obtain ⟨u271, hx272, hz⟩ := bind_ok hz
                                  obtain ⟨hx272a, hx272b⟩ := inR_some hx272
                                  refine WL_gy rfl (bt hc270 rfl) (Y_ixA ia42 rfl rfl hx272a hx272b) ?_
                                  obtain ⟨x273, hx274, hz⟩ := bind_ok hz
                                  refine WL_gy rfl (bt hc270 rfl) (Y_ld1 (.bool x273) ts4 rfl (hS.bvB 2 rfl) (vp (k := 1) rfl rfl (GCase.p6 (rep_root (k := 24) rfl hb209)) hx274)) ?_
                                  refine WL_gy rfl (bt hc270 rfl) (Y_not rfl) ?_
                                  refine WL_y (Y_pick_t (.bool (!x273)) (bt hc270 rfl) rfl) ?_
                                  refine WL_nil (nm_then ?_)
                                  exact ⟨M207, (!x273), hF260, hS, hT208_3, hT208_5, hT208_6, hT208_10, rfl, rfl, hT208_152, hT208_153, hT208_154, rfl, hz⟩
                                · replace hz := bif_ok_f hz hc270
                                  refine WL_s (j := 16) rfl (bf hc270 rfl) rfl ?_
                                  refine WL_s (j := 16) rfl (bf hc270 rfl) rfl ?_
                                  refine WL_s (j := 16) rfl (bf hc270 rfl) rfl ?_
                                  refine WL_s (j := 16) rfl (bf hc270 rfl) rfl ?_
                                  refine WL_s (j := 16) rfl (bf hc270 rfl) rfl ?_
                                  refine WL_y (Y_pick_f (.bool false) (bf hc270 rfl) rfl) ?_
                                  refine WL_nil (nm_then ?_)
                                  exact ⟨M207, false, hF260, hS, hT208_3, hT208_5, hT208_6, hT208_10, rfl, rfl, hT208_152, hT208_153, hT208_154, rfl, hz⟩
                              · replace hz := bif_ok_f hz hc263
                                refine WL_s (j := 5) rfl (bf hc263 rfl) rfl ?_
                                refine WL_s (j := 5) rfl (bf hc263 rfl) rfl ?_
                                refine WL_s (j := 5) rfl (bf hc263 rfl) rfl ?_
                                refine WL_s (j := 5) rfl (bf hc263 rfl) rfl ?_
                                refine WL_s (j := 5) rfl (bf hc263 rfl) rfl ?_
                                refine WL_s (j := 5) rfl (bf hc263 rfl) rfl ?_
                                refine WL_s (j := 5) rfl (bf hc263 rfl) rfl ?_
                                refine WL_s (j := 5) rfl (bf hc263 rfl) rfl ?_
                                refine WL_s (j := 5) rfl (bf hc263 rfl) rfl ?_
                                refine WL_y (Y_pick_f (.bool false) (bf hc263 rfl) rfl) ?_
                                refine WL_y (Y_move (.bool false) rfl) ?_
                                refine WL_s (j := 16) rfl rfl rfl ?_
                                refine WL_s (j := 16) rfl rfl rfl ?_
                                refine WL_s (j := 16) rfl rfl rfl ?_
                                refine WL_s (j := 16) rfl rfl rfl ?_
                                refine WL_s (j := 16) rfl rfl rfl ?_
                                refine WL_y (Y_pick_f (.bool false) rfl rfl) ?_
                                refine WL_nil (nm_then ?_)
                                exact ⟨M207, false, hF260, hS, hT208_3, hT208_5, hT208_6, hT208_10, rfl, rfl, hT208_152, hT208_153, hT208_154, rfl, hz⟩
                            · rintro T228 w226 ⟨M227, c229, hx230, hS, hT228_3, hT228_5, hT228_6, hT228_10, hT228_13, hT228_14, hT228_152, hT228_153, hT228_154, hT228_181, hz⟩
                              replace hcx3 := Rep.mono hx230.1 hcx3
                              replace hb28 := Rep.mono hx230.1 hb28
                              replace hv204 := repL.mono hx230.1 hv204
                              replace hb209 := Rep.mono hx230.1 hb209
                              replace hE := Mm.ext.trans hE hx230
                              replace hF53 := Mm.ext.trans hF53 hx230
                              replace hF214 := Mm.ext.trans hF214 hx230
                              replace hF223 := Mm.ext.trans hF223 hx230
                              rw [takeAnswer_j10] at hz
                              refine W_cond hT228_181 (fun hc231 => ?_) (fun hc231 => ?_)
                              · replace hz := bif_ok_t hz hc231
                                refine W_drawB (Rd M227 [.box b7 cx3 50]) (inL []) mixed hS fun w232 hS => ?_
                                have hG233 := Mm.ext.refl w.heap.size noX M227
                                have hR234 : Rd M227 [.box b7 cx3 50] w232 := Rd.of hS hG233 (by simp)
                                refine WB_y (i := 0) rfl (by kernel_rfl) rfl (Y_move (.int .i64 x225) hT228_14) (fun _ => hR234) ?_
                                refine WB_y (i := 1) rfl (by kernel_rfl) rfl (Y_move (.int .i64 x225) hT228_14) (fun _ => hR234) ?_
                                refine WB_y (i := 2) rfl (by kernel_rfl) rfl (Y_fa fa50_6 hT228_5) (fun _ => hR234) ?_
                                obtain ⟨v235, ev235, hv235⟩ := (GFrame.p6 (rep_root (k := 7) rfl hcx3))
                                refine WB_ld (i := 3) rfl (by kernel_rfl) rfl (inL_lt rfl) (by kernel_rfl) (by kernel_rfl) (Y_ld1 v235 ts23 rfl (bvR 0 rfl) ev235) hR234 ?_
                                refine WB_y (i := 4) rfl (by kernel_rfl) rfl (Y_move (.int .i64 y211) hT228_13) (fun _ => hR234) ?_
                                obtain ⟨x237, hx236, hz⟩ := bind_ok hz
                                obtain ⟨b236, o236, c236, p236, hv236, hi236, hj236, hM236, hr236⟩ := repL_at hv235 hx236
                                replace hr236 : rep _ (sl p236 (o236 + Int.toNat y211 * 1) 1) x237 := hr236
                                refine WB_y (i := 5) rfl (by kernel_rfl) rfl (Y_ixL il23 rfl hv236 rfl hi236 hj236) (fun _ => hR234) ?_
                                refine WB_ld (i := 6) rfl (by kernel_rfl) rfl (inL_lt rfl) (by kernel_rfl) (by kernel_rfl) (Y_ld1 (.int .i64 x237) ts3 rfl (bvRM hM236) hr236) hR234 ?_
                                refine WB_y (i := 7) rfl (by kernel_rfl) rfl (Y_fa fa45_6 hT228_3) (fun _ => hR234) ?_
                                obtain ⟨u238, hx239, hz⟩ := bind_ok hz
                                obtain ⟨hx239a, hx239b⟩ := inR_some hx239
                                refine WB_y (i := 8) rfl (by kernel_rfl) rfl (Y_ixA ia42 rfl rfl hx239a hx239b) (fun _ => hR234) ?_
                                refine WB_y (i := 10) rfl (by kernel_rfl) rfl (Y_fa fa45_7 hT228_3) (fun _ => hR234) ?_
                                obtain ⟨x242, hx243, hz⟩ := bind_ok hz
                                have hw241 : ([.bool true] : List Value).length = 1 := Rep.len (show rep M227 [Value.bool true] (true : Bool) from rfl)
                                have hl241 : (cs209).length = 24 := Rep.len hb209
                                have hq244 := (idxV_some hx243)
                                obtain ⟨a245, hx246, hz⟩ := bind_ok hz
                                obtain ⟨d247, hd241, hz⟩ := bind_ok hz
                                have hb241 : rep M227 (pt cs209 (0 + 16 + Int.toNat x225 * 1) [.bool true]) d247 := rep_eq (rep_whole (k := 24) (by rw [pt_length (by omega)]; exact hl241) (GCase.s6 (rep_root (k := 24) rfl hb209) (vs (k := 1) rfl rfl (GCase.p6 (rep_root (k := 24) rfl hb209)) (rep_leaf rfl (show rep M227 [Value.bool true] (true : Bool) from rfl) (by omega)) hx246 (by omega) (by omega) (by omega)) (by omega) (by omega) (by omega))) hd241
                                generalize hg241 : (pt cs209 (0 + 16 + Int.toNat x225 * 1) [.bool true]) = cs241 at hb241
                                refine WB_one (i := 9) (by kernel_rfl) rfl (O_st (j := 2) (v := .bool true) (ws := [.bool true]) hS rfl (by kernel_rfl) rfl rfl rfl hw241 (Rep.one (show rep M227 [Value.bool true] (true : Bool) from rfl)) (by omega) ?_)
                                rw [hg241]
                                clear hg241
                                intro w240 hS
                                replace hS : St w noX M227 [.box b9 cs28 45, .box b7 cx3 50, .box b5 cs241 45] w240 := hS
                                have hR248 : Rd M227 [.box b7 cx3 50] w240 := Rd.of hS hG233 (by simp)
                                refine ⟨fun _ => hR248, ?_⟩
                                obtain ⟨u249, hx250, hz⟩ := bind_ok hz
                                obtain ⟨hx250a, hx250b⟩ := inR_some hx250
                                refine WB_y (i := 11) rfl (by kernel_rfl) rfl (Y_ixA ia43 rfl rfl hx250a hx250b) (fun _ => hR248) ?_
                                obtain ⟨x253, hx254, hz⟩ := bind_ok hz
                                have hw252 : ([.int .i64 x237] : List Value).length = 1 := Rep.len (show rep M227 [Value.int .i64 x237] (x237 : Int) from rfl)
                                have hl252 : (cs241).length = 24 := Rep.len hb241
                                have hq255 := (idxV_some hx254)
                                obtain ⟨a256, hx257, hz⟩ := bind_ok hz
                                obtain ⟨d258, hd252, hz⟩ := bind_ok hz
                                have hb252 : rep M227 (pt cs241 (0 + 20 + Int.toNat x225 * 1) [.int .i64 x237]) d258 := rep_eq (rep_whole (k := 24) (by rw [pt_length (by omega)]; exact hl252) (GCase.s7 (rep_root (k := 24) rfl hb241) (vs (k := 1) rfl rfl (GCase.p7 (rep_root (k := 24) rfl hb241)) (rep_leaf rfl (show rep M227 [Value.int .i64 x237] (x237 : Int) from rfl) (by omega)) hx257 (by omega) (by omega) (by omega)) (by omega) (by omega) (by omega))) hd252
                                generalize hg252 : (pt cs241 (0 + 20 + Int.toNat x225 * 1) [.int .i64 x237]) = cs252 at hb252
                                refine WB_one (i := 12) (by kernel_rfl) rfl (O_st (j := 2) (v := .int .i64 x237) (ws := [.int .i64 x237]) hS rfl (by kernel_rfl) rfl rfl rfl hw252 (Rep.one (show rep M227 [Value.int .i64 x237] (x237 : Int) from rfl)) (by omega) ?_)
                                rw [hg252]
                                clear hg252
                                intro w251 hS
                                replace hS : St w noX M227 [.box b9 cs28 45, .box b7 cx3 50, .box b5 cs252 45] w251 := hS
                                have hR259 : Rd M227 [.box b7 cx3 50] w251 := Rd.of hS hG233 (by simp)
                                refine ⟨fun _ => hR259, ?_⟩
                                refine WB_done (by kernel_rfl) (nm_blk ?_)
                                refine (nm_then ?_)
                                exact ⟨M227, cs252, d258, hF223, hS, hb252, hT228_3, hT228_5, hT228_6, hT228_10, hT228_152, hT228_153, hT228_154, hz⟩
                              · replace hz := bif_ok_f hz hc231
                                refine W_skip (nm_blk ?_)
                                refine (nm_then ?_)
                                exact ⟨M227, cs209, d210, hF223, hS, hb209, hT228_3, hT228_5, hT228_6, hT228_10, hT228_152, hT228_153, hT228_154, hz⟩
                          · rintro T219 w217 ⟨M218, cs220, d221, hx222, hS, hb220, hT219_3, hT219_5, hT219_6, hT219_10, hT219_152, hT219_153, hT219_154, hz⟩
                            replace hcx3 := Rep.mono hx222.1 hcx3
                            replace hb28 := Rep.mono hx222.1 hb28
                            replace hv204 := repL.mono hx222.1 hv204
                            replace hE := Mm.ext.trans hE hx222
                            replace hF53 := Mm.ext.trans hF53 hx222
                            replace hF214 := Mm.ext.trans hF214 hx222
                            rw [takeAnswer_j9] at hz
                            refine W_reg ?_
                            refine WL_y (Y_add hT219_154 rfl) ?_
                            refine WL_y (Y_move (.int .i64 (IntKind.wrap .i64 (y211 + 1))) rfl) ?_
                            refine WL_nil (nm_then ?_)
                            exact ⟨M218, cs220, d221, (IntKind.wrap .i64 (y211 + 1)), hF214, hS, hb220, hT219_3, hT219_5, hT219_6, hT219_10, hT219_152, hT219_153, rfl, (by rw [← hrec212]; exact hz)⟩
                        · replace hz := bif_ok_f hz hc216
                          refine W_exit ?_
                          refine ex_then ?_
                          refine ex_then ?_
                          refine ex_hit ?_
                          refine (nm_blk ?_)
                          refine (nm_then ?_)
                          exact ⟨M207, cs28, d29, cs209, d210, hF53, hS, hb28, hb209, hT208_3, hT208_6, hz⟩
                    · replace hz := bif_ok_f hz hc203
                      refine W_skip (nm_blk ?_)
                      refine (nm_then ?_)
                      exact ⟨M199, cs28, d29, cs36, d37, hF53, hS, hb28, hb36, hT200_3, hT200_6, hz⟩
        · rintro T43 w41 ⟨M42, cs44, d45, cs46, d47, hx48, hS, hb44, hb46, hT43_3, hT43_6, hz⟩
          replace hcx3 := Rep.mono hx48.1 hcx3
          replace hE := Mm.ext.trans hE hx48
          rw [takeAnswer_j3] at hz
          refine W_seq ?_
          refine W_reg ?_
          have ha49 := (rep_root (k := 24) rfl hb46)
          refine WL_y (Y_ldn ta45 hT43_3 (hS.bvB 2 rfl) (Rep.len ha49)) ?_
          have hw51 : ((sl cs46 (0) 24) : List Value).length = 24 := Rep.len ha49
          have hl51 : (cs44).length = 24 := Rep.len hb44
          obtain ⟨d52, hd51, hz⟩ := bind_ok hz
          have hb51 : rep M42 (pt cs44 (0) (sl cs46 (0) 24)) d52 := rep_eq (rep_whole (k := 24) (by rw [pt_length (by omega)]; exact hl51) (rep_leaf rfl ha49 (by omega))) hd51
          generalize hg51 : (pt cs44 (0) (sl cs46 (0) 24)) = cs51 at hb51
          refine WL_c (O_st (j := 0) (v := .agg (sl cs46 (0) 24).toArray) (ws := (sl cs46 (0) 24)) hS rfl (by kernel_rfl) hT43_6 rfl rfl hw51 (Rep.one ha49) (by omega) ?_)
          rw [hg51]
          clear hg51
          intro w50 hS
          replace hS : St w noX M42 [.box b9 cs51 45, .box b7 cx3 50, .box b5 cs46 45] w50 := hS
          refine WL_y (Y_assign ((.slice none 0 0)) rfl) ?_
          refine WL_y (Y_assign (.int .i64 0) rfl) ?_
          refine WL_nil (nm_then ?_)
          cases hz
          exact W_ret (R_ctt (j := 0) rfl hT43_6 rfl rfl (by rw [Rep.len hb51]; exact ta45) hS rfl (Gives.mk (St.dropB (St.dropB (St.dropB hS hb9) hb7) hb5) hE ⟨_, _, rfl, hb51, (repL_nil _)⟩))

def postTakes_j2 (c39 : Bool) : Option Bool :=
    some c39

def postTakes_j1 (fu : Nat) (x1 : GCase) (x2 : Int) (x3 : GFrame) (d16 : GCase) (d21 : GCase) (l22 : List GFrame) (y24 : Int) : Option Bool :=
    (takeAnswerD fu x1 x2 x3).bind fun r30 =>
    (some r30.1).bind fun d35 =>
    (sameCaseD fu d21 d35).bind fun r46 =>
    (bif r46 then
    (sameFramesD fu l22 r30.2.1).bind fun r50 =>
    (bif r50 then
    (bif y24 == r30.2.2 then
    (sameCaseD fu d16 x1).bind fun r57 =>
    (bif r57 then
    (lawPostsD fu).bind fun r61 =>
    postTakes_j2 r61
    else
    postTakes_j2 false)
    else
    postTakes_j2 false)
    else
    postTakes_j2 false)
    else
    postTakes_j2 false)

def postTakesD (fu : Nat) (x1 : GCase) (x2 : Int) (x3 : GFrame) : Option Bool :=
    (copyCaseD fu x1).bind fun r11 =>
    (some r11).bind fun d16 =>
    (lawFrameD fu x3).bind fun r70 =>
    (postTakeD fu d16 x2 r70).bind fun r73 =>
    (some r73.1).bind fun d78 =>
    postTakes_j1 fu x1 x2 x3 d16 d78 r73.2.1 r73.2.2

set_option maxRecDepth 100000 in
set_option maxHeartbeats 4000000 in
theorem postTakes_ok {M : Mm} {w : World} {cx1 : List Value} {cx3 : List Value} {x1 : GCase} {x2 : Int} {x3 : GFrame} {fu : Nat} {r : Bool} (hA : Agree M w) (hcx1 : rep M cx1 x1) (hcx3 : rep M cx3 x3) (hz : postTakesD fu x1 x2 x3 = some r) :
    Calls Try.prog 10 #[.agg cx1.toArray, .int .i64 x2, .agg cx3.toArray] w (GivesV w (.bool r)) := by
  refine calls_W Try.func10 rfl 54 rfl rfl (by kernel_rfl) fun T hT => ?_
  have hT_0 : T 0 = .agg cx1.toArray := hT 0
  have hT_1 : T 1 = .int .i64 x2 := hT 1
  have hT_2 : T 2 = .agg cx3.toArray := hT 2
  clear hT
  have hE := Mm.ext.refl w.heap.size noX M
  have hS : St w noX M [] w := St.start hA
  rw [postTakesD] at hz
  refine W_seq ?_
  refine W_reg ?_
  refine WL_c (O_box (v := .agg cx1.toArray) (cs := cx1) hT_0 rfl hS ?_)
  intro b5 w4 hb5 hS
  replace hS : St w noX M [.box b5 cx1 45] w4 := hS
  refine WL_c (O_box (v := .agg cx3.toArray) (cs := cx3) hT_2 rfl hS ?_)
  intro b7 w6 hb7 hS
  replace hS : St w noX M [.box b7 cx3 50, .box b5 cx1 45] w6 := hS
  refine WL_y (Y_assign (.bool false) rfl) ?_
  refine WL_nil (nm_then ?_)
  refine W_seq ?_
  refine W_reg ?_
  have ha8 := (rep_root (k := 24) rfl hcx1)
  refine WL_y (Y_ldn ta45 rfl (hS.bvB 1 rfl) (Rep.len ha8)) ?_
  obtain ⟨r11, hr10, hz⟩ := bind_ok hz
  refine WL_c (O_mem (vs := [.agg (sl cx1 (0) 24).toArray]) (rv := (fun M' u => ∃ cs, u = .agg cs.toArray ∧ rep M' cs r11)) cb35 (args1 rfl) hS (copyCase_ok hS.agree ha8 hr10) ?_)
  intro u10 M10 w9 hx10 hu10 hS
  obtain ⟨c10, hq10, f10⟩ := hu10
  subst hq10
  replace hcx1 := Rep.mono hx10.1 hcx1
  replace hcx3 := Rep.mono hx10.1 hcx3
  replace ha8 := Rep.mono hx10.1 ha8
  replace hE := Mm.ext.trans hE hx10
  refine WL_c (O_alloc tz45 hS ?_)
  intro b13 w12 hb13 hS
  replace hS : St w noX M10 [.box b13 (Zr.zc GCase) 45, .box b7 cx3 50, .box b5 cx1 45] w12 := hS
  have zb13 : rep M10 (Zr.zc GCase) (Zr.zd : GCase) := Zr.zr
  have hw15 : (c10 : List Value).length = 24 := Rep.len f10
  have hl15 : ((Zr.zc GCase)).length = 24 := Rep.len zb13
  obtain ⟨d16, hd15, hz⟩ := bind_ok hz
  have hb15 : rep M10 (pt (Zr.zc GCase) (0) c10) d16 := rep_eq (rep_whole (k := 24) (by rw [pt_length (by omega)]; exact hl15) (rep_leaf rfl f10 (by omega))) hd15
  generalize hg15 : (pt (Zr.zc GCase) (0) c10) = cs15 at hb15
  refine WL_c (O_st (j := 0) (v := .agg c10.toArray) (ws := c10) hS rfl (by kernel_rfl) rfl rfl rfl hw15 (Rep.one f10) (by omega) ?_)
  rw [hg15]
  clear hg15
  intro w14 hS
  replace hS : St w noX M10 [.box b13 cs15 45, .box b7 cx3 50, .box b5 cx1 45] w14 := hS
  refine WL_nil (nm_then ?_)
  refine W_seqJ (fun T' w' => ∃ M18 b20 cs20 d21 v23 l22 y24, Mm.ext w.heap.size noX M10 M18 ∧ St w noX M18 [.box b20 cs20 45, .box b13 cs15 45, .box b7 cx3 50, .box b5 cx1 45] w' ∧ rep M18 cs20 d21 ∧ w.heap.size ≤ b20 ∧ repL M18 v23 l22 ∧ T' 8 = .pointer (some ⟨b20, 0, none⟩) ∧ T' 1 = .int .i64 x2 ∧ T' 3 = .pointer (some ⟨b5, 0, none⟩) ∧ T' 5 = .pointer (some ⟨b7, 0, none⟩) ∧ T' 7 = .pointer (some ⟨b13, 0, none⟩) ∧ T' 9 = v23 ∧ T' 10 = .int .i64 y24 ∧ postTakes_j1 fu x1 x2 x3 d16 d21 l22 y24 = some r) ?_ ?_
  · have hF62 := Mm.ext.refl w.heap.size noX M10
    refine W_drawB (Rd M10 [.box b13 cs15 45, .box b7 cx3 50]) (inL [10]) mixed hS fun w63 hS => ?_
    have hG64 := Mm.ext.refl w.heap.size noX M10
    have hR65 : Rd M10 [.box b13 cs15 45, .box b7 cx3 50] w63 := Rd.of hS hG64 (by simp)
    have ha66 := (rep_root (k := 24) rfl hb15)
    refine WB_ld (i := 0) rfl (by kernel_rfl) rfl (inL_lt rfl) (by kernel_rfl) (by kernel_rfl) (Y_ldn ta45 rfl (bvR 0 rfl) (Rep.len ha66)) hR65 ?_
    refine WB_y (i := 1) rfl (by kernel_rfl) rfl (Y_move (.int .i64 x2) hT_1) (fun _ => hR65) ?_
    have ha67 := (rep_root (k := 7) rfl hcx3)
    refine WB_ld (i := 2) rfl (by kernel_rfl) rfl (inL_lt rfl) (by kernel_rfl) (by kernel_rfl) (Y_ldn ta50 rfl (bvR 1 rfl) (Rep.len ha67)) hR65 ?_
    obtain ⟨r70, hr69, hz⟩ := bind_ok hz
    obtain ⟨r73, hr72, hz⟩ := bind_ok hz
    obtain ⟨d78, hd77, hz⟩ := bind_ok hz
    refine WB_two (i := 3) (j := 9) (by kernel_rfl) rfl rfl (O_mem (vs := [.agg (sl cx3 (0) 7).toArray]) (rv := (fun M' u => ∃ cs, u = .agg cs.toArray ∧ rep M' cs r70)) cb37 (args1 rfl) hS (lawFrame_ok hS.agree ha67 hr69) ?_) (O_alloc tz45 hS ?_)
    · intro u69 M69 w68 hx69 hu69 hS
      obtain ⟨c69, hq69, f69⟩ := hu69
      subst hq69
      replace hcx1 := Rep.mono hx69.1 hcx1
      replace hcx3 := Rep.mono hx69.1 hcx3
      replace hb15 := Rep.mono hx69.1 hb15
      replace ha66 := Rep.mono hx69.1 ha66
      replace ha67 := Rep.mono hx69.1 ha67
      replace hE := Mm.ext.trans hE hx69
      replace hF62 := Mm.ext.trans hF62 hx69
      replace hG64 := Mm.ext.trans hG64 hx69
      have hR79 : Rd M10 [.box b13 cs15 45, .box b7 cx3 50] w68 := Rd.of hS hG64 (by simp)
      refine ⟨fun _ => hR79, ?_⟩
      refine WB_two (i := 4) (j := 9) (by kernel_rfl) rfl rfl (O_mem (vs := [.agg (sl cs15 (0) 24).toArray, .int .i64 x2, .agg c69.toArray]) (rv := (fun M' u => ∃ c0 v1, u = .tuple #[.agg c0.toArray, v1, .int .i64 r73.2.2] ∧ rep M' c0 r73.1 ∧ repL M' v1 r73.2.1)) cb36 (args3 rfl rfl rfl) hS (postTake_ok hS.agree ha66 f69 hr72) ?_) (O_alloc tz45 hS ?_)
      · intro u72 M72 w71 hx72 hu72 hS
        obtain ⟨c72_0, v72_1, hq72, f72_0, f72_1⟩ := hu72
        subst hq72
        replace hcx1 := Rep.mono hx72.1 hcx1
        replace hcx3 := Rep.mono hx72.1 hcx3
        replace hb15 := Rep.mono hx72.1 hb15
        replace ha66 := Rep.mono hx72.1 ha66
        replace ha67 := Rep.mono hx72.1 ha67
        replace f69 := Rep.mono hx72.1 f69
        replace hE := Mm.ext.trans hE hx72
        replace hF62 := Mm.ext.trans hF62 hx72
        replace hG64 := Mm.ext.trans hG64 hx72
        have hR80 : Rd M10 [.box b13 cs15 45, .box b7 cx3 50] w71 := Rd.of hS hG64 (by simp)
        refine ⟨fun _ => hR80, ?_⟩
        refine WB_y (i := 5) rfl (by kernel_rfl) rfl (Y_move (.tuple #[.agg c72_0.toArray, v72_1, .int .i64 r73.2.2]) rfl) (fun _ => hR80) ?_
        refine WB_y (i := 6) rfl (by kernel_rfl) rfl (Y_extract (v := .agg c72_0.toArray) rfl rfl) (fun _ => hR80) ?_
        refine WB_y (i := 7) rfl (by kernel_rfl) rfl (Y_extract (v := v72_1) rfl rfl) (fun _ => hR80) ?_
        refine WB_y (i := 8) rfl (by kernel_rfl) rfl (Y_extract (v := .int .i64 r73.2.2) rfl rfl) (fun _ => hR80) ?_
        refine WB_one (i := 9) (by kernel_rfl) rfl (O_alloc tz45 hS ?_)
        intro b75 w74 hb75 hS
        replace hS : St w noX M72 [.box b75 (Zr.zc GCase) 45, .box b13 cs15 45, .box b7 cx3 50, .box b5 cx1 45] w74 := hS
        have zb75 : rep M72 (Zr.zc GCase) (Zr.zd : GCase) := Zr.zr
        have hR81 : Rd M10 [.box b13 cs15 45, .box b7 cx3 50] w74 := Rd.of hS hG64 (by simp)
        refine ⟨fun _ => hR81, ?_⟩
        have hw77 : (c72_0 : List Value).length = 24 := Rep.len f72_0
        have hl77 : ((Zr.zc GCase)).length = 24 := Rep.len zb75
        have hb77 : rep M72 (pt (Zr.zc GCase) (0) c72_0) d78 := rep_eq (rep_whole (k := 24) (by rw [pt_length (by omega)]; exact hl77) (rep_leaf rfl f72_0 (by omega))) hd77
        generalize hg77 : (pt (Zr.zc GCase) (0) c72_0) = cs77 at hb77
        refine WB_one (i := 10) (by kernel_rfl) rfl (O_st (j := 0) (v := .agg c72_0.toArray) (ws := c72_0) hS rfl (by kernel_rfl) rfl rfl rfl hw77 (Rep.one f72_0) (by omega) ?_)
        rw [hg77]
        clear hg77
        intro w76 hS
        replace hS : St w noX M72 [.box b75 cs77 45, .box b13 cs15 45, .box b7 cx3 50, .box b5 cx1 45] w76 := hS
        refine ⟨fun h => Bool.noConfusion (show false = true from h), ?_⟩
        refine WB_y (i := 11) rfl (by kernel_rfl) rfl (Y_assign (v72_1) rfl) (fun h => Bool.noConfusion (show false = true from h)) ?_
        refine WB_y (i := 12) rfl (by kernel_rfl) rfl (Y_assign (.int .i64 r73.2.2) rfl) (fun h => Bool.noConfusion (show false = true from h)) ?_
        refine WB_done (by kernel_rfl) (nm_then ?_)
        exact ⟨M72, b75, cs77, d78, v72_1, r73.2.1, r73.2.2, hF62, hS, hb77, hb75, f72_1, rfl, hT_1, rfl, rfl, rfl, rfl, rfl, hz⟩
      · intro b75 w74 hb75 hS
        replace hS : St w noX M69 [.box b75 (Zr.zc GCase) 45, .box b13 cs15 45, .box b7 cx3 50, .box b5 cx1 45] w74 := hS
        have zb75 : rep M69 (Zr.zc GCase) (Zr.zd : GCase) := Zr.zr
        have hR82 : Rd M10 [.box b13 cs15 45, .box b7 cx3 50] w74 := Rd.of hS hG64 (by simp)
        refine ⟨fun _ => hR82, ?_⟩
        refine WB_one (i := 4) (by kernel_rfl) rfl (O_mem (vs := [.agg (sl cs15 (0) 24).toArray, .int .i64 x2, .agg c69.toArray]) (rv := (fun M' u => ∃ c0 v1, u = .tuple #[.agg c0.toArray, v1, .int .i64 r73.2.2] ∧ rep M' c0 r73.1 ∧ repL M' v1 r73.2.1)) cb36 (args3 rfl rfl rfl) hS (postTake_ok hS.agree ha66 f69 hr72) ?_)
        intro u72 M72 w71 hx72 hu72 hS
        obtain ⟨c72_0, v72_1, hq72, f72_0, f72_1⟩ := hu72
        subst hq72
        replace hcx1 := Rep.mono hx72.1 hcx1
        replace hcx3 := Rep.mono hx72.1 hcx3
        replace hb15 := Rep.mono hx72.1 hb15
        replace ha66 := Rep.mono hx72.1 ha66
        replace ha67 := Rep.mono hx72.1 ha67
        replace f69 := Rep.mono hx72.1 f69
        replace zb75 := Rep.mono hx72.1 zb75
        replace hE := Mm.ext.trans hE hx72
        replace hF62 := Mm.ext.trans hF62 hx72
        replace hG64 := Mm.ext.trans hG64 hx72
        have hR83 : Rd M10 [.box b13 cs15 45, .box b7 cx3 50] w71 := Rd.of hS hG64 (by simp)
        refine ⟨fun _ => hR83, ?_⟩
        refine WB_y (i := 5) rfl (by kernel_rfl) rfl (Y_move (.tuple #[.agg c72_0.toArray, v72_1, .int .i64 r73.2.2]) rfl) (fun _ => hR83) ?_
        refine WB_y (i := 6) rfl (by kernel_rfl) rfl (Y_extract (v := .agg c72_0.toArray) rfl rfl) (fun _ => hR83) ?_
        refine WB_y (i := 7) rfl (by kernel_rfl) rfl (Y_extract (v := v72_1) rfl rfl) (fun _ => hR83) ?_
        refine WB_y (i := 8) rfl (by kernel_rfl) rfl (Y_extract (v := .int .i64 r73.2.2) rfl rfl) (fun _ => hR83) ?_
        have hw77 : (c72_0 : List Value).length = 24 := Rep.len f72_0
        have hl77 : ((Zr.zc GCase)).length = 24 := Rep.len zb75
        have hb77 : rep M72 (pt (Zr.zc GCase) (0) c72_0) d78 := rep_eq (rep_whole (k := 24) (by rw [pt_length (by omega)]; exact hl77) (rep_leaf rfl f72_0 (by omega))) hd77
        generalize hg77 : (pt (Zr.zc GCase) (0) c72_0) = cs77 at hb77
        refine WB_one (i := 10) (by kernel_rfl) rfl (O_st (j := 0) (v := .agg c72_0.toArray) (ws := c72_0) hS rfl (by kernel_rfl) rfl rfl rfl hw77 (Rep.one f72_0) (by omega) ?_)
        rw [hg77]
        clear hg77
        intro w76 hS
        replace hS : St w noX M72 [.box b75 cs77 45, .box b13 cs15 45, .box b7 cx3 50, .box b5 cx1 45] w76 := hS
        refine ⟨fun h => Bool.noConfusion (show false = true from h), ?_⟩
        refine WB_y (i := 11) rfl (by kernel_rfl) rfl (Y_assign (v72_1) rfl) (fun h => Bool.noConfusion (show false = true from h)) ?_
        refine WB_y (i := 12) rfl (by kernel_rfl) rfl (Y_assign (.int .i64 r73.2.2) rfl) (fun h => Bool.noConfusion (show false = true from h)) ?_
        refine WB_done (by kernel_rfl) (nm_then ?_)
        exact ⟨M72, b75, cs77, d78, v72_1, r73.2.1, r73.2.2, hF62, hS, hb77, hb75, f72_1, rfl, hT_1, rfl, rfl, rfl, rfl, rfl, hz⟩
    · intro b75 w74 hb75 hS
      replace hS : St w noX M10 [.box b75 (Zr.zc GCase) 45, .box b13 cs15 45, .box b7 cx3 50, .box b5 cx1 45] w74 := hS
      have zb75 : rep M10 (Zr.zc GCase) (Zr.zd : GCase) := Zr.zr
      have hR84 : Rd M10 [.box b13 cs15 45, .box b7 cx3 50] w74 := Rd.of hS hG64 (by simp)
      refine ⟨fun _ => hR84, ?_⟩
      refine WB_one (i := 3) (by kernel_rfl) rfl (O_mem (vs := [.agg (sl cx3 (0) 7).toArray]) (rv := (fun M' u => ∃ cs, u = .agg cs.toArray ∧ rep M' cs r70)) cb37 (args1 rfl) hS (lawFrame_ok hS.agree ha67 hr69) ?_)
      intro u69 M69 w68 hx69 hu69 hS
      obtain ⟨c69, hq69, f69⟩ := hu69
      subst hq69
      replace hcx1 := Rep.mono hx69.1 hcx1
      replace hcx3 := Rep.mono hx69.1 hcx3
      replace hb15 := Rep.mono hx69.1 hb15
      replace ha66 := Rep.mono hx69.1 ha66
      replace ha67 := Rep.mono hx69.1 ha67
      replace zb75 := Rep.mono hx69.1 zb75
      replace hE := Mm.ext.trans hE hx69
      replace hF62 := Mm.ext.trans hF62 hx69
      replace hG64 := Mm.ext.trans hG64 hx69
      have hR85 : Rd M10 [.box b13 cs15 45, .box b7 cx3 50] w68 := Rd.of hS hG64 (by simp)
      refine ⟨fun _ => hR85, ?_⟩
      refine WB_one (i := 4) (by kernel_rfl) rfl (O_mem (vs := [.agg (sl cs15 (0) 24).toArray, .int .i64 x2, .agg c69.toArray]) (rv := (fun M' u => ∃ c0 v1, u = .tuple #[.agg c0.toArray, v1, .int .i64 r73.2.2] ∧ rep M' c0 r73.1 ∧ repL M' v1 r73.2.1)) cb36 (args3 rfl rfl rfl) hS (postTake_ok hS.agree ha66 f69 hr72) ?_)
      intro u72 M72 w71 hx72 hu72 hS
      obtain ⟨c72_0, v72_1, hq72, f72_0, f72_1⟩ := hu72
      subst hq72
      replace hcx1 := Rep.mono hx72.1 hcx1
      replace hcx3 := Rep.mono hx72.1 hcx3
      replace hb15 := Rep.mono hx72.1 hb15
      replace ha66 := Rep.mono hx72.1 ha66
      replace ha67 := Rep.mono hx72.1 ha67
      replace zb75 := Rep.mono hx72.1 zb75
      replace f69 := Rep.mono hx72.1 f69
      replace hE := Mm.ext.trans hE hx72
      replace hF62 := Mm.ext.trans hF62 hx72
      replace hG64 := Mm.ext.trans hG64 hx72
      have hR86 : Rd M10 [.box b13 cs15 45, .box b7 cx3 50] w71 := Rd.of hS hG64 (by simp)
      refine ⟨fun _ => hR86, ?_⟩
      refine WB_y (i := 5) rfl (by kernel_rfl) rfl (Y_move (.tuple #[.agg c72_0.toArray, v72_1, .int .i64 r73.2.2]) rfl) (fun _ => hR86) ?_
      refine WB_y (i := 6) rfl (by kernel_rfl) rfl (Y_extract (v := .agg c72_0.toArray) rfl rfl) (fun _ => hR86) ?_
      refine WB_y (i := 7) rfl (by kernel_rfl) rfl (Y_extract (v := v72_1) rfl rfl) (fun _ => hR86) ?_
      refine WB_y (i := 8) rfl (by kernel_rfl) rfl (Y_extract (v := .int .i64 r73.2.2) rfl rfl) (fun _ => hR86) ?_
      have hw77 : (c72_0 : List Value).length = 24 := Rep.len f72_0
      have hl77 : ((Zr.zc GCase)).length = 24 := Rep.len zb75
      have hb77 : rep M72 (pt (Zr.zc GCase) (0) c72_0) d78 := rep_eq (rep_whole (k := 24) (by rw [pt_length (by omega)]; exact hl77) (rep_leaf rfl f72_0 (by omega))) hd77
      generalize hg77 : (pt (Zr.zc GCase) (0) c72_0) = cs77 at hb77
      refine WB_one (i := 10) (by kernel_rfl) rfl (O_st (j := 0) (v := .agg c72_0.toArray) (ws := c72_0) hS rfl (by kernel_rfl) rfl rfl rfl hw77 (Rep.one f72_0) (by omega) ?_)
      rw [hg77]
      clear hg77
      intro w76 hS
      replace hS : St w noX M72 [.box b75 cs77 45, .box b13 cs15 45, .box b7 cx3 50, .box b5 cx1 45] w76 := hS
      refine ⟨fun h => Bool.noConfusion (show false = true from h), ?_⟩
      refine WB_y (i := 11) rfl (by kernel_rfl) rfl (Y_assign (v72_1) rfl) (fun h => Bool.noConfusion (show false = true from h)) ?_
      refine WB_y (i := 12) rfl (by kernel_rfl) rfl (Y_assign (.int .i64 r73.2.2) rfl) (fun h => Bool.noConfusion (show false = true from h)) ?_
      refine WB_done (by kernel_rfl) (nm_then ?_)
      exact ⟨M72, b75, cs77, d78, v72_1, r73.2.1, r73.2.2, hF62, hS, hb77, hb75, f72_1, rfl, hT_1, rfl, rfl, rfl, rfl, rfl, hz⟩
  · rintro T19 w17 ⟨M18, b20, cs20, d21, v23, l22, y24, hx25, hS, hb20, hs20, hv23, hT19_8, hT19_1, hT19_3, hT19_5, hT19_7, hT19_9, hT19_10, hz⟩
    replace hcx1 := Rep.mono hx25.1 hcx1
    replace hcx3 := Rep.mono hx25.1 hcx3
    replace hb15 := Rep.mono hx25.1 hb15
    replace hE := Mm.ext.trans hE hx25
    rw [postTakes_j1] at hz
    refine W_seq ?_
    refine W_reg ?_
    have ha26 := (rep_root (k := 24) rfl hcx1)
    refine WL_y (Y_ldn ta45 hT19_3 (hS.bvB 3 rfl) (Rep.len ha26)) ?_
    refine WL_y (Y_move (.int .i64 x2) hT19_1) ?_
    have ha27 := (rep_root (k := 7) rfl hcx3)
    refine WL_y (Y_ldn ta50 hT19_5 (hS.bvB 2 rfl) (Rep.len ha27)) ?_
    obtain ⟨r30, hr29, hz⟩ := bind_ok hz
    refine WL_c (O_mem (vs := [.agg (sl cx1 (0) 24).toArray, .int .i64 x2, .agg (sl cx3 (0) 7).toArray]) (rv := (fun M' u => ∃ c0 v1, u = .tuple #[.agg c0.toArray, v1, .int .i64 r30.2.2] ∧ rep M' c0 r30.1 ∧ repL M' v1 r30.2.1)) cb38 (args3 rfl rfl rfl) hS (takeAnswer_ok hS.agree ha26 ha27 hr29) ?_)
    intro u29 M29 w28 hx29 hu29 hS
    obtain ⟨c29_0, v29_1, hq29, f29_0, f29_1⟩ := hu29
    subst hq29
    replace hcx1 := Rep.mono hx29.1 hcx1
    replace hcx3 := Rep.mono hx29.1 hcx3
    replace hb15 := Rep.mono hx29.1 hb15
    replace hb20 := Rep.mono hx29.1 hb20
    replace hv23 := repL.mono hx29.1 hv23
    replace ha26 := Rep.mono hx29.1 ha26
    replace ha27 := Rep.mono hx29.1 ha27
    replace hE := Mm.ext.trans hE hx29
    refine WL_y (Y_move (.tuple #[.agg c29_0.toArray, v29_1, .int .i64 r30.2.2]) rfl) ?_
    refine WL_y (Y_extract (v := .agg c29_0.toArray) rfl rfl) ?_
    refine WL_y (Y_extract (v := v29_1) rfl rfl) ?_
    refine WL_y (Y_extract (v := .int .i64 r30.2.2) rfl rfl) ?_
    refine WL_c (O_alloc tz45 hS ?_)
    intro b32 w31 hb32 hS
    replace hS : St w noX M29 [.box b32 (Zr.zc GCase) 45, .box b20 cs20 45, .box b13 cs15 45, .box b7 cx3 50, .box b5 cx1 45] w31 := hS
    have zb32 : rep M29 (Zr.zc GCase) (Zr.zd : GCase) := Zr.zr
    have hw34 : (c29_0 : List Value).length = 24 := Rep.len f29_0
    have hl34 : ((Zr.zc GCase)).length = 24 := Rep.len zb32
    obtain ⟨d35, hd34, hz⟩ := bind_ok hz
    have hb34 : rep M29 (pt (Zr.zc GCase) (0) c29_0) d35 := rep_eq (rep_whole (k := 24) (by rw [pt_length (by omega)]; exact hl34) (rep_leaf rfl f29_0 (by omega))) hd34
    generalize hg34 : (pt (Zr.zc GCase) (0) c29_0) = cs34 at hb34
    refine WL_c (O_st (j := 0) (v := .agg c29_0.toArray) (ws := c29_0) hS rfl (by kernel_rfl) rfl rfl rfl hw34 (Rep.one f29_0) (by omega) ?_)
    rw [hg34]
    clear hg34
    intro w33 hS
    replace hS : St w noX M29 [.box b32 cs34 45, .box b20 cs20 45, .box b13 cs15 45, .box b7 cx3 50, .box b5 cx1 45] w33 := hS
    refine WL_y (Y_assign (v29_1) rfl) ?_
    refine WL_y (Y_assign (.int .i64 r30.2.2) rfl) ?_
    refine WL_nil (nm_then ?_)
    refine W_seqJ (fun T' w' => ∃ M37 c39, Mm.ext w.heap.size noX M29 M37 ∧ St w noX M37 [.box b32 cs34 45, .box b20 cs20 45, .box b13 cs15 45, .box b7 cx3 50, .box b5 cx1 45] w' ∧ T' 6 = .bool c39 ∧ postTakes_j2 c39 = some r) ?_ ?_
    · have hF41 := Mm.ext.refl w.heap.size noX M29
      refine W_reg ?_
      have ha42 := (rep_root (k := 24) rfl hb20)
      refine WL_y (Y_ldn ta45 hT19_8 (hS.bvB 1 rfl) (Rep.len ha42)) ?_
      have ha43 := (rep_root (k := 24) rfl hb34)
      refine WL_y (Y_ldn ta45 rfl (hS.bvB 0 rfl) (Rep.len ha43)) ?_
      obtain ⟨r46, hr45, hz⟩ := bind_ok hz
      refine WL_c (O_val (vs := [.agg (sl cs20 (0) 24).toArray, .agg (sl cs34 (0) 24).toArray]) (v := .bool r46) cb39 (args2 rfl rfl) hS (sameCase_ok hS.agree ha42 ha43 hr45) ?_)
      intro w44 hS
      refine WL_y (Y_move (.bool r46) rfl) ?_
      rcases Bool.eq_false_or_eq_true r46 with hc47 | hc47
      · replace hz := bif_ok_t hz hc47
        refine WL_gy rfl (bt hc47 rfl) (Y_move (v23) hT19_9) ?_
        refine WL_gy rfl (bt hc47 rfl) (Y_move (v29_1) rfl) ?_
        obtain ⟨r50, hr49, hz⟩ := bind_ok hz
        refine WL_g rfl (bt hc47 rfl) (O_val (vs := [v23, v29_1]) (v := .bool r50) cb40 (args2 rfl rfl) hS (sameFrames_ok hS.agree hv23 f29_1 hr49) ?_)
        intro w48 hS
        refine WL_y (Y_pick_t (.bool r50) (bt hc47 rfl) rfl) ?_
        refine WL_y (Y_move (.bool r50) rfl) ?_
        rcases Bool.eq_false_or_eq_true r50 with hc51 | hc51
        · replace hz := bif_ok_t hz hc51
          refine WL_gy rfl (bt hc51 rfl) (Y_move (.int .i64 y24) hT19_10) ?_
          refine WL_gy rfl (bt hc51 rfl) (Y_move (.int .i64 r30.2.2) rfl) ?_
          refine WL_gy rfl (bt hc51 rfl) (Y_eql rfl rfl) ?_
          refine WL_y (Y_pick_t (.bool (y24 == r30.2.2)) (bt hc51 rfl) rfl) ?_
          refine WL_y (Y_move (.bool (y24 == r30.2.2)) rfl) ?_
          rcases Bool.eq_false_or_eq_true (y24 == r30.2.2) with hc52 | hc52
          · replace hz := bif_ok_t hz hc52
            have ha53 := (rep_root (k := 24) rfl hb15)
            refine WL_gy rfl (bt hc52 rfl) (Y_ldn ta45 hT19_7 (hS.bvB 2 rfl) (Rep.len ha53)) ?_
            have ha54 := (rep_root (k := 24) rfl hcx1)
            refine WL_gy rfl (bt hc52 rfl) (Y_ldn ta45 hT19_3 (hS.bvB 4 rfl) (Rep.len ha54)) ?_
            obtain ⟨r57, hr56, hz⟩ := bind_ok hz
            refine WL_g rfl (bt hc52 rfl) (O_val (vs := [.agg (sl cs15 (0) 24).toArray, .agg (sl cx1 (0) 24).toArray]) (v := .bool r57) cb39 (args2 rfl rfl) hS (sameCase_ok hS.agree ha53 ha54 hr56) ?_)
            intro w55 hS
            refine WL_y (Y_pick_t (.bool r57) (bt hc52 rfl) rfl) ?_
            refine WL_y (Y_move (.bool r57) rfl) ?_
            rcases Bool.eq_false_or_eq_true r57 with hc58 | hc58
            · replace hz := bif_ok_t hz hc58
              obtain ⟨r61, hr60, hz⟩ := bind_ok hz
              refine WL_g rfl (bt hc58 rfl) (O_val (vs := []) (v := .bool r61) cb41 args0 hS (lawPosts_ok hS.agree hr60) ?_)
              intro w59 hS
              refine WL_y (Y_pick_t (.bool r61) (bt hc58 rfl) rfl) ?_
              refine WL_y (Y_assign (.bool r61) rfl) ?_
              refine WL_nil (nm_then ?_)
              exact ⟨M29, r61, hF41, hS, rfl, hz⟩
            · replace hz := bif_ok_f hz hc58
              refine WL_s (j := 18) rfl (bf hc58 rfl) rfl ?_
              refine WL_y (Y_pick_f (.bool false) (bf hc58 rfl) rfl) ?_
              refine WL_y (Y_assign (.bool false) rfl) ?_
              refine WL_nil (nm_then ?_)
              exact ⟨M29, false, hF41, hS, rfl, hz⟩
          · replace hz := bif_ok_f hz hc52
            refine WL_s (j := 13) rfl (bf hc52 rfl) rfl ?_
            refine WL_s (j := 13) rfl (bf hc52 rfl) rfl ?_
            refine WL_s (j := 13) rfl (bf hc52 rfl) rfl ?_
            refine WL_y (Y_pick_f (.bool false) (bf hc52 rfl) rfl) ?_
            refine WL_y (Y_move (.bool false) rfl) ?_
            refine WL_s (j := 18) rfl rfl rfl ?_
            refine WL_y (Y_pick_f (.bool false) rfl rfl) ?_
            refine WL_y (Y_assign (.bool false) rfl) ?_
            refine WL_nil (nm_then ?_)
            exact ⟨M29, false, hF41, hS, rfl, hz⟩
        · replace hz := bif_ok_f hz hc51
          refine WL_s (j := 8) rfl (bf hc51 rfl) rfl ?_
          refine WL_s (j := 8) rfl (bf hc51 rfl) rfl ?_
          refine WL_s (j := 8) rfl (bf hc51 rfl) rfl ?_
          refine WL_y (Y_pick_f (.bool false) (bf hc51 rfl) rfl) ?_
          refine WL_y (Y_move (.bool false) rfl) ?_
          refine WL_s (j := 13) rfl rfl rfl ?_
          refine WL_s (j := 13) rfl rfl rfl ?_
          refine WL_s (j := 13) rfl rfl rfl ?_
          refine WL_y (Y_pick_f (.bool false) rfl rfl) ?_
          refine WL_y (Y_move (.bool false) rfl) ?_
          refine WL_s (j := 18) rfl rfl rfl ?_
          refine WL_y (Y_pick_f (.bool false) rfl rfl) ?_
          refine WL_y (Y_assign (.bool false) rfl) ?_
          refine WL_nil (nm_then ?_)
          exact ⟨M29, false, hF41, hS, rfl, hz⟩
      · replace hz := bif_ok_f hz hc47
        refine WL_s (j := 3) rfl (bf hc47 rfl) rfl ?_
        refine WL_s (j := 3) rfl (bf hc47 rfl) rfl ?_
        refine WL_s (j := 3) rfl (bf hc47 rfl) rfl ?_
        refine WL_y (Y_pick_f (.bool false) (bf hc47 rfl) rfl) ?_
        refine WL_y (Y_move (.bool false) rfl) ?_
        refine WL_s (j := 8) rfl rfl rfl ?_
        refine WL_s (j := 8) rfl rfl rfl ?_
        refine WL_s (j := 8) rfl rfl rfl ?_
        refine WL_y (Y_pick_f (.bool false) rfl rfl) ?_
        refine WL_y (Y_move (.bool false) rfl) ?_
        refine WL_s (j := 13) rfl rfl rfl ?_
        refine WL_s (j := 13) rfl rfl rfl ?_
        refine WL_s (j := 13) rfl rfl rfl ?_
        refine WL_y (Y_pick_f (.bool false) rfl rfl) ?_
        refine WL_y (Y_move (.bool false) rfl) ?_
        refine WL_s (j := 18) rfl rfl rfl ?_
        refine WL_y (Y_pick_f (.bool false) rfl rfl) ?_
        refine WL_y (Y_assign (.bool false) rfl) ?_
        refine WL_nil (nm_then ?_)
        exact ⟨M29, false, hF41, hS, rfl, hz⟩
    · rintro T38 w36 ⟨M37, c39, hx40, hS, hT38_6, hz⟩
      replace hcx1 := Rep.mono hx40.1 hcx1
      replace hcx3 := Rep.mono hx40.1 hcx3
      replace hb15 := Rep.mono hx40.1 hb15
      replace hb20 := Rep.mono hx40.1 hb20
      replace hb34 := Rep.mono hx40.1 hb34
      replace hE := Mm.ext.trans hE hx40
      rw [postTakes_j2] at hz
      cases hz
      exact W_ret (R_t1 rfl hT38_6 ⟨rfl, (St.dropB (St.dropB (St.dropB (St.dropB (St.dropB hS hb32) hs20) hb13) hb7) hb5).kept⟩)

end Go.Proofs.Ytnfdgjdnlikepab
