/- What functions compute, and that they do. (Written by dc.py.) -/
import Derived.Test.YtopgdemmdcipcaaEb
namespace Go.Proofs.Ytopgdemmdcipcaa
open Go.RowKit
open Rep (rep)
set_option linter.unusedVariables false

def enough_j1 (y7 : Int) (rec8 : Int → Option Bool) : Option Bool :=
    rec8 (IntKind.wrap .i64 (y7 + 1))

def enough_j2 (y22 : Int) (rec23 : Int → Int → Option Bool) (y31 : Int) : Option Bool :=
    rec23 y31 (IntKind.wrap .i64 (y22 + 1))

def enough_j3 (y7 : Int) (rec8 : Int → Option Bool) (c42 : Bool) : Option Bool :=
    (bif c42 then
    some false
    else
    enough_j1 y7 rec8)

def enough_l2 (x1 : GCase) (y7 : Int) (rec8 : Int → Option Bool) : Nat → Int → Int → Option Bool
  | 0, _, _ => none
  | n + 1, y21, y22 =>
    (bif decide (y22 < 3) then
    (inR (IntKind.wrap .i64 ((IntKind.wrap .i64 (y7 * 3)) + y22)) 6).bind fun _ =>
    (idxV x1.told (IntKind.wrap .i64 ((IntKind.wrap .i64 (y7 * 3)) + y22))).bind fun x36 =>
    (bif x36 then
    enough_j2 y22 (enough_l2 x1 y7 rec8 n) (IntKind.wrap .i64 (y21 + 1))
    else
    enough_j2 y22 (enough_l2 x1 y7 rec8 n) y21)
    else
    (some (touchesZ x1.ops y7)).bind fun r49 =>
    (bif r49 then
    enough_j3 y7 rec8 (decide (y21 < 2))
    else
    enough_j3 y7 rec8 false))

def enough_l1 (fu : Nat) (x1 : GCase) : Nat → Int → Option Bool
  | 0, _ => none
  | n + 1, y7 =>
    (bif decide (y7 < 2) then
    enough_l2 x1 y7 (enough_l1 fu x1 n) fu 0 0
    else
    some true)

def enoughD (fu : Nat) (x1 : GCase) : Option Bool :=
    enough_l1 fu x1 fu 0

set_option maxRecDepth 100000 in
set_option maxHeartbeats 4000000 in
theorem enough_ok {M : Mm} {w : World} {cx1 : List Value} {x1 : GCase} {fu : Nat} {r : Bool} (hA : Agree M w) (hcx1 : rep M cx1 x1) (hz : enoughD fu x1 = some r) :
    Calls Try.prog 47 #[.agg cx1.toArray] w (GivesV w (.bool r)) := by
  refine calls_W Try.func47 rfl 31 rfl rfl (by kernel_rfl) fun T hT => ?_
  have hT_0 : T 0 = .agg cx1.toArray := hT 0
  clear hT
  have hE := Mm.ext.refl w.heap.size noX M
  have hS : St w noX M [] w := St.start hA
  rw [enoughD] at hz
  refine W_seq ?_
  refine W_reg ?_
  refine WL_c (O_box (v := .agg cx1.toArray) (cs := cx1) hT_0 rfl hS ?_)
  intro b3 w2 hb3 hS
  replace hS : St w noX M [.box b3 cx1 31] w2 := hS
  refine WL_y (Y_assign (.bool false) rfl) ?_
  refine WL_nil (nm_then ?_)
  refine W_seq ?_
  refine W_seq ?_
  refine W_reg ?_
  refine WL_y (Y_move (.int .i64 0) rfl) ?_
  refine WL_nil (nm_then ?_)
  refine W_block ?_
  refine W_loop (fun k9 T' w' => ∃ M5 y7, Mm.ext w.heap.size noX M M5 ∧ St w noX M5 [.box b3 cx1 31] w' ∧ T' 1 = .pointer (some ⟨b3, 0, none⟩) ∧ T' 6 = .int .i64 y7 ∧ enough_l1 fu x1 k9 y7 = some r) fu ?_ ?_ ?_
  · exact ⟨M, (0 : Int), (Mm.ext.refl _ _ _), hS, rfl, rfl, hz⟩
  · rintro T' w' ⟨_, _, _, _, _, _, hz⟩
    rw [enough_l1] at hz
    cases hz
  · intro k9
    rintro T6 w4 ⟨M5, y7, hx11, hS, hT6_1, hT6_6, hz⟩
    replace hcx1 := Rep.mono hx11.1 hcx1
    replace hE := Mm.ext.trans hE hx11
    have hF10 := hx11
    rw [enough_l1] at hz
    obtain ⟨rec8, hrec8⟩ : ∃ f, f = enough_l1 fu x1 k9 := ⟨_, rfl⟩
    rw [← hrec8] at hz
    refine W_seq ?_
    refine W_reg ?_
    refine WL_y (Y_lss hT6_6 rfl) ?_
    refine WL_nil (nm_then ?_)
    refine W_seq ?_
    refine W_cond rfl (fun hc12 => ?_) (fun hc12 => ?_)
    · replace hz := bif_ok_t hz hc12
      refine W_skip (nm_then ?_)
      refine W_seqJ (fun T' w' => ∃ M14, Mm.ext w.heap.size noX M5 M14 ∧ St w noX M14 [.box b3 cx1 31] w' ∧ T' 1 = .pointer (some ⟨b3, 0, none⟩) ∧ T' 6 = .int .i64 y7 ∧ enough_j1 y7 rec8 = some r) ?_ ?_
      · have hF17 := Mm.ext.refl w.heap.size noX M5
        refine W_block ?_
        refine W_seq ?_
        refine W_reg ?_
        refine WL_y (Y_move (.int .i64 y7) hT6_6) ?_
        refine WL_y (Y_assign (.int .i64 y7) rfl) ?_
        refine WL_nil (nm_then ?_)
        refine W_seq ?_
        refine W_reg ?_
        refine WL_y (Y_assign (.int .i64 0) rfl) ?_
        refine WL_nil (nm_then ?_)
        refine W_seq ?_
        refine W_seq ?_
        refine W_reg ?_
        refine WL_y (Y_move (.int .i64 0) rfl) ?_
        refine WL_nil (nm_then ?_)
        refine W_block ?_
        refine W_loop (fun k24 T' w' => ∃ M19 y21 y22, Mm.ext w.heap.size noX M5 M19 ∧ St w noX M19 [.box b3 cx1 31] w' ∧ T' 1 = .pointer (some ⟨b3, 0, none⟩) ∧ T' 3 = .int .i64 y7 ∧ T' 4 = .int .i64 y21 ∧ T' 6 = .int .i64 y7 ∧ T' 9 = .int .i64 y22 ∧ enough_l2 x1 y7 rec8 k24 y21 y22 = some r) fu ?_ ?_ ?_
        · exact ⟨M5, (0 : Int), (0 : Int), (Mm.ext.refl _ _ _), hS, hT6_1, rfl, rfl, hT6_6, rfl, hz⟩
        · rintro T' w' ⟨_, _, _, _, _, _, _, _, _, _, hz⟩
          rw [enough_l2] at hz
          cases hz
        · intro k24
          rintro T20 w18 ⟨M19, y21, y22, hx26, hS, hT20_1, hT20_3, hT20_4, hT20_6, hT20_9, hz⟩
          replace hcx1 := Rep.mono hx26.1 hcx1
          replace hE := Mm.ext.trans hE hx26
          replace hF10 := Mm.ext.trans hF10 hx26
          replace hF17 := Mm.ext.trans hF17 hx26
          have hF25 := hx26
          rw [enough_l2] at hz
          obtain ⟨rec23, hrec23⟩ : ∃ f, f = enough_l2 x1 y7 rec8 k24 := ⟨_, rfl⟩
          rw [← hrec23] at hz
          refine W_seq ?_
          refine W_reg ?_
          refine WL_y (Y_lss hT20_9 rfl) ?_
          refine WL_nil (nm_then ?_)
          refine W_seq ?_
          refine W_cond rfl (fun hc27 => ?_) (fun hc27 => ?_)
          · replace hz := bif_ok_t hz hc27
            refine W_skip (nm_then ?_)
            refine W_seqJ (fun T' w' => ∃ M29 y31, Mm.ext w.heap.size noX M19 M29 ∧ St w noX M29 [.box b3 cx1 31] w' ∧ T' 1 = .pointer (some ⟨b3, 0, none⟩) ∧ T' 3 = .int .i64 y7 ∧ T' 4 = .int .i64 y31 ∧ T' 6 = .int .i64 y7 ∧ T' 9 = .int .i64 y22 ∧ enough_j2 y22 rec23 y31 = some r) ?_ ?_
            · have hF33 := Mm.ext.refl w.heap.size noX M19
              refine W_block ?_
              refine W_seq ?_
              refine W_reg ?_
              refine WL_y (Y_move (.int .i64 y22) hT20_9) ?_
              refine WL_y (Y_assign (.int .i64 y22) rfl) ?_
              refine WL_nil (nm_then ?_)
              refine W_seq ?_
              refine W_reg ?_
              refine WL_y (Y_move (.int .i64 y7) hT20_3) ?_
              refine WL_y (Y_mul rfl rfl) ?_
              refine WL_y (Y_move (.int .i64 y22) rfl) ?_
              refine WL_y (Y_add rfl rfl) ?_
              refine WL_y (Y_fa fa31_3 hT20_1) ?_
              obtain ⟨u34, hx35, hz⟩ := bind_ok hz
              obtain ⟨hx35a, hx35b⟩ := inR_some hx35
              refine WL_y (Y_ixA ia26 rfl rfl hx35a hx35b) ?_
              obtain ⟨x36, hx37, hz⟩ := bind_ok hz
              refine WL_y (Y_ld1 (.bool x36) ts4 rfl (hS.bvB 0 rfl) (vp (k := 1) rfl rfl (GCase.p3 (rep_root (k := 24) rfl hcx1)) hx37)) ?_
              refine WL_nil (nm_then ?_)
              refine W_cond rfl (fun hc38 => ?_) (fun hc38 => ?_)
              · replace hz := bif_ok_t hz hc38
                refine W_reg ?_
                refine WL_y (Y_move (.int .i64 y21) hT20_4) ?_
                refine WL_y (Y_add rfl rfl) ?_
                refine WL_y (Y_assign (.int .i64 (IntKind.wrap .i64 (y21 + 1))) rfl) ?_
                refine WL_nil (nm_blk ?_)
                refine (nm_then ?_)
                exact ⟨M19, (IntKind.wrap .i64 (y21 + 1)), hF33, hS, hT20_1, hT20_3, rfl, hT20_6, hT20_9, hz⟩
              · replace hz := bif_ok_f hz hc38
                refine W_skip (nm_blk ?_)
                refine (nm_then ?_)
                exact ⟨M19, y21, hF33, hS, hT20_1, hT20_3, hT20_4, hT20_6, hT20_9, hz⟩
            · rintro T30 w28 ⟨M29, y31, hx32, hS, hT30_1, hT30_3, hT30_4, hT30_6, hT30_9, hz⟩
              replace hcx1 := Rep.mono hx32.1 hcx1
              replace hE := Mm.ext.trans hE hx32
              replace hF10 := Mm.ext.trans hF10 hx32
              replace hF17 := Mm.ext.trans hF17 hx32
              replace hF25 := Mm.ext.trans hF25 hx32
              rw [enough_j2] at hz
              refine W_reg ?_
              refine WL_y (Y_add hT30_9 rfl) ?_
              refine WL_y (Y_move (.int .i64 (IntKind.wrap .i64 (y22 + 1))) rfl) ?_
              refine WL_nil (nm_then ?_)
              exact ⟨M29, y31, (IntKind.wrap .i64 (y22 + 1)), hF25, hS, hT30_1, hT30_3, hT30_4, hT30_6, rfl, (by rw [← hrec23]; exact hz)⟩
          · replace hz := bif_ok_f hz hc27
            refine W_exit ?_
            refine ex_then ?_
            refine ex_then ?_
            refine ex_hit ?_
            refine (nm_then ?_)
            refine W_seqJ (fun T' w' => ∃ M40 c42, Mm.ext w.heap.size noX M19 M40 ∧ St w noX M40 [.box b3 cx1 31] w' ∧ T' 1 = .pointer (some ⟨b3, 0, none⟩) ∧ T' 6 = .int .i64 y7 ∧ T' 29 = .bool c42 ∧ enough_j3 y7 rec8 c42 = some r) ?_ ?_
            · have hF45 := Mm.ext.refl w.heap.size noX M19
              refine W_reg ?_
              refine WL_y (Y_fa fa31_2 hT20_1) ?_
              obtain ⟨v46, ev46, hv46⟩ := (GCase.p2 (rep_root (k := 24) rfl hcx1))
              refine WL_y (Y_ld1 v46 ts22 rfl (hS.bvB 0 rfl) ev46) ?_
              refine WL_y (Y_move (.int .i64 y7) hT20_3) ?_
              obtain ⟨r49, hr48, hz⟩ := bind_ok hz
              replace hr48 := Option.some.inj hr48
              refine WL_c (O_val (vs := [v46, .int .i64 y7]) (v := .bool r49) cb44 (args2 rfl rfl) hS (hr48 ▸ (c_touches hS.agree hv46)) ?_)
              intro w47 hS
              refine WL_y (Y_move (.bool r49) rfl) ?_
              rcases Bool.eq_false_or_eq_true r49 with hc50 | hc50
              · replace hz := bif_ok_t hz hc50
                refine WL_gy rfl (bt hc50 rfl) (Y_move (.int .i64 y21) hT20_4) ?_
                refine WL_gy rfl (bt hc50 rfl) (Y_lss rfl rfl) ?_
                refine WL_y (Y_pick_t (.bool (decide (y21 < 2))) (bt hc50 rfl) rfl) ?_
                refine WL_nil (nm_then ?_)
                exact ⟨M19, (decide (y21 < 2)), hF45, hS, hT20_1, hT20_6, rfl, hz⟩
              · replace hz := bif_ok_f hz hc50
                refine WL_s (j := 4) rfl (bf hc50 rfl) rfl ?_
                refine WL_s (j := 4) rfl (bf hc50 rfl) rfl ?_
                refine WL_y (Y_pick_f (.bool false) (bf hc50 rfl) rfl) ?_
                refine WL_nil (nm_then ?_)
                exact ⟨M19, false, hF45, hS, hT20_1, hT20_6, rfl, hz⟩
            · rintro T41 w39 ⟨M40, c42, hx43, hS, hT41_1, hT41_6, hT41_29, hz⟩
              replace hcx1 := Rep.mono hx43.1 hcx1
              replace hE := Mm.ext.trans hE hx43
              replace hF10 := Mm.ext.trans hF10 hx43
              replace hF17 := Mm.ext.trans hF17 hx43
              replace hF25 := Mm.ext.trans hF25 hx43
              rw [enough_j3] at hz
              refine W_cond hT41_29 (fun hc44 => ?_) (fun hc44 => ?_)
              · replace hz := bif_ok_t hz hc44
                refine W_seq ?_
                refine W_reg ?_
                refine WL_y (Y_assign (.bool false) rfl) ?_
                refine WL_nil (nm_then ?_)
                cases hz
                exact W_ret (rt_blk (rt_then (rt_then (rt_blk (rt_then (R_t1 rfl rfl ⟨rfl, (St.dropB hS hb3).kept⟩))))))
              · replace hz := bif_ok_f hz hc44
                refine W_skip (nm_blk ?_)
                refine (nm_then ?_)
                exact ⟨M40, hF17, hS, hT41_1, hT41_6, hz⟩
      · rintro T15 w13 ⟨M14, hx16, hS, hT15_1, hT15_6, hz⟩
        replace hcx1 := Rep.mono hx16.1 hcx1
        replace hE := Mm.ext.trans hE hx16
        replace hF10 := Mm.ext.trans hF10 hx16
        rw [enough_j1] at hz
        refine W_reg ?_
        refine WL_y (Y_add hT15_6 rfl) ?_
        refine WL_y (Y_move (.int .i64 (IntKind.wrap .i64 (y7 + 1))) rfl) ?_
        refine WL_nil (nm_then ?_)
        exact ⟨M14, (IntKind.wrap .i64 (y7 + 1)), hF10, hS, hT15_1, rfl, (by rw [← hrec8]; exact hz)⟩
    · replace hz := bif_ok_f hz hc12
      refine W_exit ?_
      refine ex_then ?_
      refine ex_then ?_
      refine ex_hit ?_
      refine (nm_then ?_)
      refine W_seq ?_
      refine W_reg ?_
      refine WL_y (Y_assign (.bool true) rfl) ?_
      refine WL_nil (nm_then ?_)
      cases hz
      exact W_ret (R_t1 rfl rfl ⟨rfl, (St.dropB hS hb3).kept⟩)

def postTake_j2 (fu : Nat) (x1 : GCase) (x2 : Int) (x3 : GFrame) (d30 : GCase) : Option (GCase × (List GFrame) × Int) :=
    (inR x3.node 6).bind fun _ =>
    (idxV x1.told x3.node).bind fun x36 =>
    (setV x1.told x3.node true).bind fun a39 =>
    (some ({ x1 with told := a39 } : GCase)).bind fun d41 =>
    (some (unionZ d41.deps x3.deps)).bind fun r46 =>
    (some ({ d41 with deps := r46 } : GCase)).bind fun d49 =>
    (enoughD fu d49).bind fun r53 =>
    (some ({ d49 with fixed := r53 } : GCase)).bind fun d56 =>
    (bif !d56.fixed then
    (some d56).bind fun d61 =>
    some (d61, [], 0)
    else
    (againD fu d56 x2).bind fun r69 =>
    (some d56).bind fun d73 =>
    some (d73, r69, 0))

def postTake_j3 (fu : Nat) (x1 : GCase) (x2 : Int) (x3 : GFrame) (d14 : GCase) (c79 : Bool) : Option (GCase × (List GFrame) × Int) :=
    (bif c79 then
    (some x1).bind fun d85 =>
    some (d85, [], 0)
    else
    postTake_j2 fu x1 x2 x3 d14)

def postTake_j4 (d110 : GCase) : Option (GCase × (List GFrame) × Int) :=
    (some d110).bind fun d115 =>
    some (d115, [], 0)

def postTake_j5 (y136 : Int) (rec137 : GCase → Int → Option (GCase × (List GFrame) × Int)) (d146 : GCase) : Option (GCase × (List GFrame) × Int) :=
    rec137 d146 (IntKind.wrap .i64 (y136 + 1))

def postTake_j6 (x3 : GFrame) (d135 : GCase) (y136 : Int) (rec137 : GCase → Int → Option (GCase × (List GFrame) × Int)) (x150 : Int) (c154 : Bool) : Option (GCase × (List GFrame) × Int) :=
    (bif c154 then
    (idx x3.vals y136).bind fun x162 =>
    (inR x150 4).bind fun _ =>
    (idxV d135.has x150).bind fun x167 =>
    (setV d135.has x150 true).bind fun a170 =>
    (some ({ d135 with has := a170 } : GCase)).bind fun d172 =>
    (inR x150 4).bind fun _ =>
    (idxV d172.values x150).bind fun x178 =>
    (setV d172.values x150 x162).bind fun a181 =>
    (some ({ d172 with values := a181 } : GCase)).bind fun d183 =>
    postTake_j5 y136 rec137 d183
    else
    postTake_j5 y136 rec137 d135)

def postTake_l1 (x3 : GFrame) : Nat → GCase → Int → Option (GCase × (List GFrame) × Int)
  | 0, _, _ => none
  | n + 1, d135, y136 =>
    (bif decide (y136 < (x3.at_.length : Int)) then
    (idx x3.at_ y136).bind fun x150 =>
    (bif d135.fixed then
    (bif decide (x150 < (d135.ops.length : Int)) then
    (idx d135.ops x150).bind fun x195 =>
    (some (shardZ x195.key)).bind fun r198 =>
    (some (ofZ x3.node)).bind fun r202 =>
    (bif r198 == r202 then
    (inR x150 4).bind fun _ =>
    (idxV d135.has x150).bind fun x207 =>
    postTake_j6 x3 d135 y136 (postTake_l1 x3 n) x150 (!x207)
    else
    postTake_j6 x3 d135 y136 (postTake_l1 x3 n) x150 false)
    else
    postTake_j6 x3 d135 y136 (postTake_l1 x3 n) x150 false)
    else
    postTake_j6 x3 d135 y136 (postTake_l1 x3 n) x150 false)
    else
    (some d135).bind fun d212 =>
    some (d212, [], 0))

def postTake_j1 (fu : Nat) (x1 : GCase) (x2 : Int) (x3 : GFrame) (d14 : GCase) : Option (GCase × (List GFrame) × Int) :=
    (some (frameZ x3)).bind fun r19 =>
    (bif r19 != 0 then
    (some x1).bind fun d24 =>
    some (d24, [], r19)
    else
    (bif x3.kind == 2 then
    (bif x1.fixed then
    postTake_j3 fu x1 x2 x3 d14 true
    else
    (inR x3.node 6).bind fun _ =>
    (idxV x1.told x3.node).bind fun x93 =>
    (bif x93 then
    postTake_j3 fu x1 x2 x3 d14 true
    else
    (some (ofZ x3.node)).bind fun r99 =>
    (some (touchesZ x1.ops r99)).bind fun r103 =>
    postTake_j3 fu x1 x2 x3 d14 (!r103)))
    else
    (bif x3.kind == 4 then
    (bif x1.fixed then
    (inR x3.node 6).bind fun _ =>
    (idxV x1.known x3.node).bind fun x122 =>
    (setV x1.known x3.node true).bind fun a125 =>
    (some ({ x1 with known := a125 } : GCase)).bind fun d127 =>
    postTake_j4 d127
    else
    postTake_j4 x1)
    else
    (bif x3.kind == 5 then
    postTake_l1 x3 fu x1 0
    else
    (some x1).bind fun d216 =>
    some (d216, [], 3)))))

def postTake_j7 (fu : Nat) (x1 : GCase) (x2 : Int) (x3 : GFrame) (c221 : Bool) : Option (GCase × (List GFrame) × Int) :=
    (bif c221 then
    (some x1).bind fun d227 =>
    some (d227, [], 2)
    else
    postTake_j1 fu x1 x2 x3 (Zr.zd : GCase))

def postTakeD (fu : Nat) (x1 : GCase) (x2 : Int) (x3 : GFrame) : Option (GCase × (List GFrame) × Int) :=
    (postGoodD fu x1).bind fun r232 =>
    (bif !r232 then
    postTake_j7 fu x1 x2 x3 true
    else
    (bif !x1.begun then
    postTake_j7 fu x1 x2 x3 true
    else
    (bif x3.id != x2 then
    postTake_j7 fu x1 x2 x3 true
    else
    (some (hasZ x1.deps x2)).bind fun r239 =>
    postTake_j7 fu x1 x2 x3 r239)))

set_option maxRecDepth 100000 in
set_option maxHeartbeats 4000000 in
theorem postTake_ok {M : Mm} {w : World} {cx1 : List Value} {cx3 : List Value} {x1 : GCase} {x2 : Int} {x3 : GFrame} {fu : Nat} {r : GCase × (List GFrame) × Int} (hA : Agree M w) (hcx1 : rep M cx1 x1) (hcx3 : rep M cx3 x3) (hz : postTakeD fu x1 x2 x3 = some r) :
    Calls Try.prog 12 #[.agg cx1.toArray, .int .i64 x2, .agg cx3.toArray] w (Gives M w (fun M' u => ∃ c0 v1, u = .tuple #[.agg c0.toArray, v1, .int .i64 r.2.2] ∧ rep M' c0 r.1 ∧ repL M' v1 r.2.1)) := by
  refine calls_W Try.func12 rfl 146 rfl rfl (by kernel_rfl) fun T hT => ?_
  have hT_0 : T 0 = .agg cx1.toArray := hT 0
  have hT_1 : T 1 = .int .i64 x2 := hT 1
  have hT_2 : T 2 = .agg cx3.toArray := hT 2
  clear hT
  have hE := Mm.ext.refl w.heap.size noX M
  have hS : St w noX M [] w := St.start hA
  rw [postTakeD] at hz
  refine W_seq ?_
  refine W_reg ?_
  refine WL_c (O_box (v := .agg cx1.toArray) (cs := cx1) hT_0 rfl hS ?_)
  intro b5 w4 hb5 hS
  replace hS : St w noX M [.box b5 cx1 31] w4 := hS
  refine WL_c (O_box (v := .agg cx3.toArray) (cs := cx3) hT_2 rfl hS ?_)
  intro b7 w6 hb7 hS
  replace hS : St w noX M [.box b7 cx3 38, .box b5 cx1 31] w6 := hS
  refine WL_c (O_alloc tz31 hS ?_)
  intro b9 w8 hb9 hS
  replace hS : St w noX M [.box b9 (Zr.zc GCase) 31, .box b7 cx3 38, .box b5 cx1 31] w8 := hS
  have zb9 : rep M (Zr.zc GCase) (Zr.zd : GCase) := Zr.zr
  refine WL_y (Y_assign ((.slice none 0 0)) rfl) ?_
  refine WL_y (Y_assign (.int .i64 0) rfl) ?_
  refine WL_nil (nm_then ?_)
  refine W_seqJ (fun T' w' => ∃ M11 cs13 d14, Mm.ext w.heap.size noX M M11 ∧ St w noX M11 [.box b9 cs13 31, .box b7 cx3 38, .box b5 cx1 31] w' ∧ rep M11 cs13 d14 ∧ T' 1 = .int .i64 x2 ∧ T' 3 = .pointer (some ⟨b5, 0, none⟩) ∧ T' 5 = .pointer (some ⟨b7, 0, none⟩) ∧ T' 6 = .pointer (some ⟨b9, 0, none⟩) ∧ postTake_j1 fu x1 x2 x3 d14 = some r) ?_ ?_
  · have hF217 := Mm.ext.refl w.heap.size noX M
    refine W_block ?_
    refine W_seqJ (fun T' w' => ∃ M219 c221, Mm.ext w.heap.size noX M M219 ∧ St w noX M219 [.box b9 (Zr.zc GCase) 31, .box b7 cx3 38, .box b5 cx1 31] w' ∧ T' 1 = .int .i64 x2 ∧ T' 3 = .pointer (some ⟨b5, 0, none⟩) ∧ T' 5 = .pointer (some ⟨b7, 0, none⟩) ∧ T' 6 = .pointer (some ⟨b9, 0, none⟩) ∧ T' 12 = .bool c221 ∧ postTake_j7 fu x1 x2 x3 c221 = some r) ?_ ?_
    · have hF228 := Mm.ext.refl w.heap.size noX M
      refine W_reg ?_
      have ha229 := (rep_root (k := 24) rfl hcx1)
      refine WL_y (Y_ldn ta31 rfl (hS.bvB 2 rfl) (Rep.len ha229)) ?_
      obtain ⟨r232, hr231, hz⟩ := bind_ok hz
      refine WL_c (O_val (vs := [.agg (sl cx1 (0) 24).toArray]) (v := .bool r232) cb41 (args1 rfl) hS (postGood_ok hS.agree ha229 hr231) ?_)
      intro w230 hS
      refine WL_y (Y_not rfl) ?_
      refine WL_y (Y_move (.bool (!r232)) rfl) ?_
      rcases Bool.eq_false_or_eq_true (!r232) with hc233 | hc233
      · replace hz := bif_ok_t hz hc233
        refine WL_s (j := 3) rfl (bt hc233 rfl) rfl ?_
        refine WL_s (j := 3) rfl (bt hc233 rfl) rfl ?_
        refine WL_s (j := 3) rfl (bt hc233 rfl) rfl ?_
        refine WL_y (Y_pick_t (.bool true) (bt hc233 rfl) rfl) ?_
        refine WL_y (Y_move (.bool true) rfl) ?_
        refine WL_s (j := 8) rfl rfl rfl ?_
        refine WL_s (j := 8) rfl rfl rfl ?_
        refine WL_s (j := 8) rfl rfl rfl ?_
        refine WL_s (j := 8) rfl rfl rfl ?_
        refine WL_y (Y_pick_t (.bool true) rfl rfl) ?_
        refine WL_y (Y_move (.bool true) rfl) ?_
        refine WL_s (j := 14) rfl rfl rfl ?_
        refine WL_s (j := 14) rfl rfl rfl ?_
        refine WL_s (j := 14) rfl rfl rfl ?_
        refine WL_s (j := 14) rfl rfl rfl ?_
        refine WL_y (Y_pick_t (.bool true) rfl rfl) ?_
        refine WL_y (Y_assign (.bool true) rfl) ?_
        refine WL_nil (nm_then ?_)
        exact ⟨M, true, hF228, hS, hT_1, rfl, rfl, rfl, rfl, hz⟩
      · replace hz := bif_ok_f hz hc233
        refine WL_gy rfl (bf hc233 rfl) (Y_fa fa31_0 rfl) ?_
        refine WL_gy rfl (bf hc233 rfl) (Y_ld1 (.bool x1.begun) ts4 rfl (hS.bvB 2 rfl) (GCase.p0 (rep_root (k := 24) rfl hcx1))) ?_
        refine WL_gy rfl (bf hc233 rfl) (Y_not rfl) ?_
        refine WL_y (Y_pick_f (.bool (!x1.begun)) (bf hc233 rfl) rfl) ?_
        refine WL_y (Y_move (.bool (!x1.begun)) rfl) ?_
        rcases Bool.eq_false_or_eq_true (!x1.begun) with hc234 | hc234
        · replace hz := bif_ok_t hz hc234
          refine WL_s (j := 8) rfl (bt hc234 rfl) rfl ?_
          refine WL_s (j := 8) rfl (bt hc234 rfl) rfl ?_
          refine WL_s (j := 8) rfl (bt hc234 rfl) rfl ?_
          refine WL_s (j := 8) rfl (bt hc234 rfl) rfl ?_
          refine WL_y (Y_pick_t (.bool true) (bt hc234 rfl) rfl) ?_
          refine WL_y (Y_move (.bool true) rfl) ?_
          refine WL_s (j := 14) rfl rfl rfl ?_
          refine WL_s (j := 14) rfl rfl rfl ?_
          refine WL_s (j := 14) rfl rfl rfl ?_
          refine WL_s (j := 14) rfl rfl rfl ?_
          refine WL_y (Y_pick_t (.bool true) rfl rfl) ?_
          refine WL_y (Y_assign (.bool true) rfl) ?_
          refine WL_nil (nm_then ?_)
          exact ⟨M, true, hF228, hS, hT_1, rfl, rfl, rfl, rfl, hz⟩
        · replace hz := bif_ok_f hz hc234
          refine WL_gy rfl (bf hc234 rfl) (Y_fa fa38_2 rfl) ?_
          refine WL_gy rfl (bf hc234 rfl) (Y_ld1 (.int .i64 x3.id) ts3 rfl (hS.bvB 1 rfl) (GFrame.p2 (rep_root (k := 7) rfl hcx3))) ?_
          refine WL_gy rfl (bf hc234 rfl) (Y_move (.int .i64 x2) hT_1) ?_
          refine WL_gy rfl (bf hc234 rfl) (Y_neq rfl rfl) ?_
          refine WL_y (Y_pick_f (.bool (x3.id != x2)) (bf hc234 rfl) rfl) ?_
          refine WL_y (Y_move (.bool (x3.id != x2)) rfl) ?_
          rcases Bool.eq_false_or_eq_true (x3.id != x2) with hc235 | hc235
          · replace hz := bif_ok_t hz hc235
            refine WL_s (j := 14) rfl (bt hc235 rfl) rfl ?_
            refine WL_s (j := 14) rfl (bt hc235 rfl) rfl ?_
            refine WL_s (j := 14) rfl (bt hc235 rfl) rfl ?_
            refine WL_s (j := 14) rfl (bt hc235 rfl) rfl ?_
            refine WL_y (Y_pick_t (.bool true) (bt hc235 rfl) rfl) ?_
            refine WL_y (Y_assign (.bool true) rfl) ?_
            refine WL_nil (nm_then ?_)
            exact ⟨M, true, hF228, hS, hT_1, rfl, rfl, rfl, rfl, hz⟩
          · replace hz := bif_ok_f hz hc235
            refine WL_gy rfl (bf hc235 rfl) (Y_fa fa31_5 rfl) ?_
            obtain ⟨v236, ev236, hv236⟩ := (GCase.p5 (rep_root (k := 24) rfl hcx1))
            refine WL_gy rfl (bf hc235 rfl) (Y_ld1 v236 ts27 rfl (hS.bvB 2 rfl) ev236) ?_
            refine WL_gy rfl (bf hc235 rfl) (Y_move (.int .i64 x2) hT_1) ?_
            obtain ⟨r239, hr238, hz⟩ := bind_ok hz
            replace hr238 := Option.some.inj hr238
            refine WL_g rfl (bf hc235 rfl) (O_val (vs := [v236, .int .i64 x2]) (v := .bool r239) cb42 (args2 rfl rfl) hS (hr238 ▸ (c_contains hS.agree hv236)) ?_)
            intro w237 hS
            refine WL_y (Y_pick_f (.bool r239) (bf hc235 rfl) rfl) ?_
            refine WL_y (Y_assign (.bool r239) rfl) ?_
            refine WL_nil (nm_then ?_)
            exact ⟨M, r239, hF228, hS, hT_1, rfl, rfl, rfl, rfl, hz⟩
    · rintro T220 w218 ⟨M219, c221, hx222, hS, hT220_1, hT220_3, hT220_5, hT220_6, hT220_12, hz⟩
      replace hcx1 := Rep.mono hx222.1 hcx1
      replace hcx3 := Rep.mono hx222.1 hcx3
      replace zb9 := Rep.mono hx222.1 zb9
      replace hE := Mm.ext.trans hE hx222
      replace hF217 := Mm.ext.trans hF217 hx222
      rw [postTake_j7] at hz
      refine W_cond hT220_12 (fun hc223 => ?_) (fun hc223 => ?_)
      · replace hz := bif_ok_t hz hc223
        refine W_seq ?_
        refine W_reg ?_
        have ha224 := (rep_root (k := 24) rfl hcx1)
        refine WL_y (Y_ldn ta31 hT220_3 (hS.bvB 2 rfl) (Rep.len ha224)) ?_
        have hw226 : ((sl cx1 (0) 24) : List Value).length = 24 := Rep.len ha224
        have hl226 : ((Zr.zc GCase)).length = 24 := Rep.len zb9
        obtain ⟨d227, hd226, hz⟩ := bind_ok hz
        have hb226 : rep M219 (pt (Zr.zc GCase) (0) (sl cx1 (0) 24)) d227 := rep_eq (rep_whole (k := 24) (by rw [pt_length (by omega)]; exact hl226) (rep_leaf rfl ha224 (by omega))) hd226
        generalize hg226 : (pt (Zr.zc GCase) (0) (sl cx1 (0) 24)) = cs226 at hb226
        refine WL_c (O_st (j := 0) (v := .agg (sl cx1 (0) 24).toArray) (ws := (sl cx1 (0) 24)) hS rfl (by kernel_rfl) hT220_6 rfl rfl hw226 (Rep.one ha224) (by omega) ?_)
        rw [hg226]
        clear hg226
        intro w225 hS
        replace hS : St w noX M219 [.box b9 cs226 31, .box b7 cx3 38, .box b5 cx1 31] w225 := hS
        refine WL_y (Y_assign ((.slice none 0 0)) rfl) ?_
        refine WL_y (Y_assign (.int .i64 2) rfl) ?_
        refine WL_nil (nm_then ?_)
        cases hz
        exact W_ret (rt_blk (rt_then (R_ctt (j := 0) rfl hT220_6 rfl rfl (by rw [Rep.len hb226]; exact ta31) hS rfl (Gives.mk (St.dropB (St.dropB (St.dropB hS hb9) hb7) hb5) hE ⟨_, _, rfl, hb226, (repL_nil _)⟩))))
      · replace hz := bif_ok_f hz hc223
        refine W_skip (nm_blk ?_)
        refine (nm_then ?_)
        exact ⟨M219, (Zr.zc GCase), (Zr.zd : GCase), hF217, hS, zb9, hT220_1, hT220_3, hT220_5, hT220_6, hz⟩
  · rintro T12 w10 ⟨M11, cs13, d14, hx15, hS, hb13, hT12_1, hT12_3, hT12_5, hT12_6, hz⟩
    replace hcx1 := Rep.mono hx15.1 hcx1
    replace hcx3 := Rep.mono hx15.1 hcx3
    replace hE := Mm.ext.trans hE hx15
    rw [postTake_j1] at hz
    refine W_seq ?_
    refine W_seq ?_
    refine W_reg ?_
    have ha16 := (rep_root (k := 7) rfl hcx3)
    refine WL_y (Y_ldn ta38 hT12_5 (hS.bvB 1 rfl) (Rep.len ha16)) ?_
    obtain ⟨r19, hr18, hz⟩ := bind_ok hz
    replace hr18 := Option.some.inj hr18
    refine WL_c (O_val (vs := [.agg (sl cx3 (0) 7).toArray]) (v := .int .i64 r19) cb43 (args1 rfl) hS (hr18 ▸ (c_good hS.agree ha16)) ?_)
    intro w17 hS
    refine WL_y (Y_assign (.int .i64 r19) rfl) ?_
    refine WL_nil (nm_then ?_)
    refine W_seq ?_
    refine W_reg ?_
    refine WL_y (Y_move (.int .i64 r19) rfl) ?_
    refine WL_y (Y_neq rfl rfl) ?_
    refine WL_nil (nm_then ?_)
    refine W_cond rfl (fun hc20 => ?_) (fun hc20 => ?_)
    · replace hz := bif_ok_t hz hc20
      refine W_seq ?_
      refine W_reg ?_
      have ha21 := (rep_root (k := 24) rfl hcx1)
      refine WL_y (Y_ldn ta31 hT12_3 (hS.bvB 2 rfl) (Rep.len ha21)) ?_
      refine WL_y (Y_move (.int .i64 r19) rfl) ?_
      have hw23 : ((sl cx1 (0) 24) : List Value).length = 24 := Rep.len ha21
      have hl23 : (cs13).length = 24 := Rep.len hb13
      obtain ⟨d24, hd23, hz⟩ := bind_ok hz
      have hb23 : rep M11 (pt cs13 (0) (sl cx1 (0) 24)) d24 := rep_eq (rep_whole (k := 24) (by rw [pt_length (by omega)]; exact hl23) (rep_leaf rfl ha21 (by omega))) hd23
      generalize hg23 : (pt cs13 (0) (sl cx1 (0) 24)) = cs23 at hb23
      refine WL_c (O_st (j := 0) (v := .agg (sl cx1 (0) 24).toArray) (ws := (sl cx1 (0) 24)) hS rfl (by kernel_rfl) hT12_6 rfl rfl hw23 (Rep.one ha21) (by omega) ?_)
      rw [hg23]
      clear hg23
      intro w22 hS
      replace hS : St w noX M11 [.box b9 cs23 31, .box b7 cx3 38, .box b5 cx1 31] w22 := hS
      refine WL_y (Y_assign ((.slice none 0 0)) rfl) ?_
      refine WL_y (Y_assign (.int .i64 r19) rfl) ?_
      refine WL_nil (nm_then ?_)
      cases hz
      exact W_ret (rt_then (R_ctt (j := 0) rfl hT12_6 rfl rfl (by rw [Rep.len hb23]; exact ta31) hS rfl (Gives.mk (St.dropB (St.dropB (St.dropB hS hb9) hb7) hb5) hE ⟨_, _, rfl, hb23, (repL_nil _)⟩)))
    · replace hz := bif_ok_f hz hc20
      refine W_skip (nm_then ?_)
      refine W_seq ?_
      refine W_seq ?_
      refine W_reg ?_
      refine WL_y (Y_fa fa38_0 hT12_5) ?_
      refine WL_y (Y_ld1 (.int .i64 x3.kind) ts3 rfl (hS.bvB 1 rfl) (GFrame.p0 (rep_root (k := 7) rfl hcx3))) ?_
      refine WL_nil (nm_then ?_)
      refine W_block ?_
      refine W_seq ?_
      refine W_reg ?_
      refine WL_y (Y_eql rfl rfl) ?_
      refine WL_y (Y_assign (.bool (x3.kind == 2)) rfl) ?_
      refine WL_nil (nm_then ?_)
      refine W_cond rfl (fun hc25 => ?_) (fun hc25 => ?_)
      · replace hz := bif_ok_t hz hc25
        refine W_seqJ (fun T' w' => ∃ M27 cs29 d30, Mm.ext w.heap.size noX M11 M27 ∧ St w noX M27 [.box b9 cs29 31, .box b7 cx3 38, .box b5 cx1 31] w' ∧ rep M27 cs29 d30 ∧ T' 1 = .int .i64 x2 ∧ T' 3 = .pointer (some ⟨b5, 0, none⟩) ∧ T' 5 = .pointer (some ⟨b7, 0, none⟩) ∧ T' 6 = .pointer (some ⟨b9, 0, none⟩) ∧ postTake_j2 fu x1 x2 x3 d30 = some r) ?_ ?_
        · have hF75 := Mm.ext.refl w.heap.size noX M11
          refine W_seqJ (fun T' w' => ∃ M77 c79, Mm.ext w.heap.size noX M11 M77 ∧ St w noX M77 [.box b9 cs13 31, .box b7 cx3 38, .box b5 cx1 31] w' ∧ T' 1 = .int .i64 x2 ∧ T' 3 = .pointer (some ⟨b5, 0, none⟩) ∧ T' 5 = .pointer (some ⟨b7, 0, none⟩) ∧ T' 6 = .pointer (some ⟨b9, 0, none⟩) ∧ T' 61 = .bool c79 ∧ postTake_j3 fu x1 x2 x3 d14 c79 = some r) ?_ ?_
          · have hF86 := Mm.ext.refl w.heap.size noX M11
            refine W_drawB (Rd M11 [.box b7 cx3 38, .box b5 cx1 31]) (inL []) mixed hS fun w87 hS => ?_
            have hG88 := Mm.ext.refl w.heap.size noX M11
            have hR89 : Rd M11 [.box b7 cx3 38, .box b5 cx1 31] w87 := Rd.of hS hG88 (by simp)
            refine WB_y (i := 0) rfl (by kernel_rfl) rfl (Y_fa fa31_1 hT12_3) (fun _ => hR89) ?_
            refine WB_ld (i := 1) rfl (by kernel_rfl) rfl (inL_lt rfl) (by kernel_rfl) (by kernel_rfl) (Y_ld1 (.bool x1.fixed) ts4 rfl (bvR 1 rfl) (GCase.p1 (rep_root (k := 24) rfl hcx1))) hR89 ?_
            refine WB_y (i := 2) rfl (by kernel_rfl) rfl (Y_move (.bool x1.fixed) rfl) (fun _ => hR89) ?_
            rcases Bool.eq_false_or_eq_true x1.fixed with hc90 | hc90
            · replace hz := bif_ok_t hz hc90
              refine WB_s (i := 3) (j := 2) rfl (by kernel_rfl) rfl rfl (bt hc90 rfl) rfl (fun _ => hR89) ?_
              refine WB_s (i := 4) (j := 2) rfl (by kernel_rfl) rfl rfl (bt hc90 rfl) rfl (fun _ => hR89) ?_
              refine WB_s (i := 5) (j := 2) rfl (by kernel_rfl) rfl rfl (bt hc90 rfl) rfl (fun _ => hR89) ?_
              refine WB_s (i := 6) (j := 2) rfl (by kernel_rfl) rfl rfl (bt hc90 rfl) rfl (fun _ => hR89) ?_
              refine WB_s (i := 7) (j := 2) rfl (by kernel_rfl) rfl rfl (bt hc90 rfl) rfl (fun _ => hR89) ?_
              refine WB_y (i := 8) rfl (by kernel_rfl) rfl (Y_pick_t (.bool true) (bt hc90 rfl) rfl) (fun _ => hR89) ?_
              refine WB_y (i := 9) rfl (by kernel_rfl) rfl (Y_move (.bool true) rfl) (fun _ => hR89) ?_
              refine WB_s (i := 10) (j := 9) rfl (by kernel_rfl) rfl rfl rfl rfl (fun _ => hR89) ?_
              refine WB_s (i := 11) (j := 9) rfl (by kernel_rfl) rfl rfl rfl rfl (fun _ => hR89) ?_
              refine WB_s (i := 12) (j := 9) rfl (by kernel_rfl) rfl rfl rfl rfl (fun _ => hR89) ?_
              refine WB_s (i := 13) (j := 9) rfl (by kernel_rfl) rfl rfl rfl rfl (fun _ => hR89) ?_
              refine WB_s (i := 14) (j := 9) rfl (by kernel_rfl) rfl rfl rfl rfl (fun _ => hR89) ?_
              refine WB_s (i := 15) (j := 9) rfl (by kernel_rfl) rfl rfl rfl rfl (fun _ => hR89) ?_
              refine WB_s (i := 16) (j := 9) rfl (by kernel_rfl) rfl rfl rfl rfl (fun _ => hR89) ?_
              refine WB_y (i := 17) rfl (by kernel_rfl) rfl (Y_pick_t (.bool true) rfl rfl) (fun _ => hR89) ?_
              refine WB_done (by kernel_rfl) (nm_then ?_)
              exact ⟨M11, true, hF86, hS, hT12_1, hT12_3, hT12_5, hT12_6, rfl, hz⟩
            · replace hz := bif_ok_f hz hc90
              refine WB_gy (i := 3) rfl (by kernel_rfl) rfl rfl (bf hc90 rfl) (Y_fa fa38_1 hT12_5) (fun _ => hR89) ?_
              refine WB_gld (i := 4) rfl (by kernel_rfl) rfl (inL_lt rfl) (by kernel_rfl) (by kernel_rfl) rfl (bf hc90 rfl) (Y_ld1 (.int .i64 x3.node) ts3 rfl (bvR 0 rfl) (GFrame.p1 (rep_root (k := 7) rfl hcx3))) hR89 ?_
              refine WB_gy (i := 5) rfl (by kernel_rfl) rfl rfl (bf hc90 rfl) (Y_fa fa31_3 hT12_3) (fun _ => hR89) ?_
              obtain ⟨u91, hx92, hz⟩ := bind_ok hz
              obtain ⟨hx92a, hx92b⟩ := inR_some hx92
              refine WB_gy (i := 6) rfl (by kernel_rfl) rfl rfl (bf hc90 rfl) (Y_ixA ia26 rfl rfl hx92a hx92b) (fun _ => hR89) ?_
              obtain ⟨x93, hx94, hz⟩ := bind_ok hz
              refine WB_gld (i := 7) rfl (by kernel_rfl) rfl (inL_lt rfl) (by kernel_rfl) (by kernel_rfl) rfl (bf hc90 rfl) (Y_ld1 (.bool x93) ts4 rfl (bvR 1 rfl) (vp (k := 1) rfl rfl (GCase.p3 (rep_root (k := 24) rfl hcx1)) hx94)) hR89 ?_
              refine WB_y (i := 8) rfl (by kernel_rfl) rfl (Y_pick_f (.bool x93) (bf hc90 rfl) rfl) (fun _ => hR89) ?_
              refine WB_y (i := 9) rfl (by kernel_rfl) rfl (Y_move (.bool x93) rfl) (fun _ => hR89) ?_
              rcases Bool.eq_false_or_eq_true x93 with hc95 | hc95
              · replace hz := bif_ok_t hz hc95
                refine WB_s (i := 10) (j := 9) rfl (by kernel_rfl) rfl rfl (bt hc95 rfl) rfl (fun _ => hR89) ?_
                refine WB_s (i := 11) (j := 9) rfl (by kernel_rfl) rfl rfl (bt hc95 rfl) rfl (fun _ => hR89) ?_
                refine WB_s (i := 12) (j := 9) rfl (by kernel_rfl) rfl rfl (bt hc95 rfl) rfl (fun _ => hR89) ?_
                refine WB_s (i := 13) (j := 9) rfl (by kernel_rfl) rfl rfl (bt hc95 rfl) rfl (fun _ => hR89) ?_
                refine WB_s (i := 14) (j := 9) rfl (by kernel_rfl) rfl rfl (bt hc95 rfl) rfl (fun _ => hR89) ?_
                refine WB_s (i := 15) (j := 9) rfl (by kernel_rfl) rfl rfl (bt hc95 rfl) rfl (fun _ => hR89) ?_
                refine WB_s (i := 16) (j := 9) rfl (by kernel_rfl) rfl rfl (bt hc95 rfl) rfl (fun _ => hR89) ?_
                refine WB_y (i := 17) rfl (by kernel_rfl) rfl (Y_pick_t (.bool true) (bt hc95 rfl) rfl) (fun _ => hR89) ?_
                refine WB_done (by kernel_rfl) (nm_then ?_)
                exact ⟨M11, true, hF86, hS, hT12_1, hT12_3, hT12_5, hT12_6, rfl, hz⟩
              · replace hz := bif_ok_f hz hc95
                refine WB_gy (i := 10) rfl (by kernel_rfl) rfl rfl (bf hc95 rfl) (Y_fa fa31_2 hT12_3) (fun _ => hR89) ?_
                obtain ⟨v96, ev96, hv96⟩ := (GCase.p2 (rep_root (k := 24) rfl hcx1))
                refine WB_gld (i := 11) rfl (by kernel_rfl) rfl (inL_lt rfl) (by kernel_rfl) (by kernel_rfl) rfl (bf hc95 rfl) (Y_ld1 v96 ts22 rfl (bvR 1 rfl) ev96) hR89 ?_
                refine WB_gy (i := 12) rfl (by kernel_rfl) rfl rfl (bf hc95 rfl) (Y_fa fa38_1 hT12_5) (fun _ => hR89) ?_
                refine WB_gld (i := 13) rfl (by kernel_rfl) rfl (inL_lt rfl) (by kernel_rfl) (by kernel_rfl) rfl (bf hc95 rfl) (Y_ld1 (.int .i64 x3.node) ts3 rfl (bvR 0 rfl) (GFrame.p1 (rep_root (k := 7) rfl hcx3))) hR89 ?_
                obtain ⟨r99, hr98, hz⟩ := bind_ok hz
                replace hr98 := Option.some.inj hr98
                refine WB_one_g (i := 14) (by kernel_rfl) rfl rfl (bf hc95 rfl) (O_val (vs := [.int .i64 x3.node]) (v := .int .i64 r99) cb45 (args1 rfl) hS (hr98 ▸ (c_of)) ?_)
                intro w97 hS
                have hR100 : Rd M11 [.box b7 cx3 38, .box b5 cx1 31] w97 := Rd.of hS hG88 (by simp)
                refine ⟨fun _ => hR100, ?_⟩
                obtain ⟨r103, hr102, hz⟩ := bind_ok hz
                replace hr102 := Option.some.inj hr102
                refine WB_one_g (i := 15) (by kernel_rfl) rfl rfl (bf hc95 rfl) (O_val (vs := [v96, .int .i64 r99]) (v := .bool r103) cb44 (args2 rfl rfl) hS (hr102 ▸ (c_touches hS.agree hv96)) ?_)
                intro w101 hS
                have hR104 : Rd M11 [.box b7 cx3 38, .box b5 cx1 31] w101 := Rd.of hS hG88 (by simp)
                refine ⟨fun _ => hR104, ?_⟩
                refine WB_gy (i := 16) rfl (by kernel_rfl) rfl rfl (bf hc95 rfl) (Y_not rfl) (fun _ => hR104) ?_
                refine WB_y (i := 17) rfl (by kernel_rfl) rfl (Y_pick_f (.bool (!r103)) (bf hc95 rfl) rfl) (fun _ => hR104) ?_
                refine WB_done (by kernel_rfl) (nm_then ?_)
                exact ⟨M11, (!r103), hF86, hS, hT12_1, hT12_3, hT12_5, hT12_6, rfl, hz⟩
          · rintro T78 w76 ⟨M77, c79, hx80, hS, hT78_1, hT78_3, hT78_5, hT78_6, hT78_61, hz⟩
            replace hcx1 := Rep.mono hx80.1 hcx1
            replace hcx3 := Rep.mono hx80.1 hcx3
            replace hb13 := Rep.mono hx80.1 hb13
            replace hE := Mm.ext.trans hE hx80
            replace hF75 := Mm.ext.trans hF75 hx80
            rw [postTake_j3] at hz
            refine W_cond hT78_61 (fun hc81 => ?_) (fun hc81 => ?_)
            · replace hz := bif_ok_t hz hc81
              refine W_seq ?_
              refine W_reg ?_
              have ha82 := (rep_root (k := 24) rfl hcx1)
              refine WL_y (Y_ldn ta31 hT78_3 (hS.bvB 2 rfl) (Rep.len ha82)) ?_
              have hw84 : ((sl cx1 (0) 24) : List Value).length = 24 := Rep.len ha82
              have hl84 : (cs13).length = 24 := Rep.len hb13
              obtain ⟨d85, hd84, hz⟩ := bind_ok hz
              have hb84 : rep M77 (pt cs13 (0) (sl cx1 (0) 24)) d85 := rep_eq (rep_whole (k := 24) (by rw [pt_length (by omega)]; exact hl84) (rep_leaf rfl ha82 (by omega))) hd84
              generalize hg84 : (pt cs13 (0) (sl cx1 (0) 24)) = cs84 at hb84
              refine WL_c (O_st (j := 0) (v := .agg (sl cx1 (0) 24).toArray) (ws := (sl cx1 (0) 24)) hS rfl (by kernel_rfl) hT78_6 rfl rfl hw84 (Rep.one ha82) (by omega) ?_)
              rw [hg84]
              clear hg84
              intro w83 hS
              replace hS : St w noX M77 [.box b9 cs84 31, .box b7 cx3 38, .box b5 cx1 31] w83 := hS
              refine WL_y (Y_assign ((.slice none 0 0)) rfl) ?_
              refine WL_y (Y_assign (.int .i64 0) rfl) ?_
              refine WL_nil (nm_then ?_)
              cases hz
              exact W_ret (rt_then (rt_blk (rt_then (R_ctt (j := 0) rfl hT78_6 rfl rfl (by rw [Rep.len hb84]; exact ta31) hS rfl (Gives.mk (St.dropB (St.dropB (St.dropB hS hb9) hb7) hb5) hE ⟨_, _, rfl, hb84, (repL_nil _)⟩)))))
            · replace hz := bif_ok_f hz hc81
              refine W_skip (nm_then ?_)
              exact ⟨M77, cs13, d14, hF75, hS, hb13, hT78_1, hT78_3, hT78_5, hT78_6, hz⟩
        · rintro T28 w26 ⟨M27, cs29, d30, hx31, hS, hb29, hT28_1, hT28_3, hT28_5, hT28_6, hz⟩
          replace hcx1 := Rep.mono hx31.1 hcx1
          replace hcx3 := Rep.mono hx31.1 hcx3
          replace hE := Mm.ext.trans hE hx31
          rw [postTake_j2] at hz
          refine W_seq ?_
          refine W_reg ?_
          refine WL_y (Y_fa fa38_1 hT28_5) ?_
          refine WL_y (Y_ld1 (.int .i64 x3.node) ts3 rfl (hS.bvB 1 rfl) (GFrame.p1 (rep_root (k := 7) rfl hcx3))) ?_
          refine WL_y (Y_fa fa31_3 hT28_3) ?_
          obtain ⟨u32, hx33, hz⟩ := bind_ok hz
          obtain ⟨hx33a, hx33b⟩ := inR_some hx33
          refine WL_y (Y_ixA ia26 rfl rfl hx33a hx33b) ?_
          obtain ⟨x36, hx37, hz⟩ := bind_ok hz
          have hw35 : ([.bool true] : List Value).length = 1 := Rep.len (show rep M27 [Value.bool true] (true : Bool) from rfl)
          have hl35 : (cx1).length = 24 := Rep.len hcx1
          have hq38 := (idxV_some hx37)
          obtain ⟨a39, hx40, hz⟩ := bind_ok hz
          obtain ⟨d41, hd35, hz⟩ := bind_ok hz
          have hb35 : rep M27 (pt cx1 (0 + 3 + Int.toNat x3.node * 1) [.bool true]) d41 := rep_eq (rep_whole (k := 24) (by rw [pt_length (by omega)]; exact hl35) (GCase.s3 (rep_root (k := 24) rfl hcx1) (vs (k := 1) rfl rfl (GCase.p3 (rep_root (k := 24) rfl hcx1)) (rep_leaf rfl (show rep M27 [Value.bool true] (true : Bool) from rfl) (by omega)) hx40 (by omega) (by omega) (by omega)) (by omega) (by omega) (by omega))) hd35
          generalize hg35 : (pt cx1 (0 + 3 + Int.toNat x3.node * 1) [.bool true]) = cs35 at hb35
          refine WL_c (O_st (j := 2) (v := .bool true) (ws := [.bool true]) hS rfl (by kernel_rfl) rfl rfl rfl hw35 (Rep.one (show rep M27 [Value.bool true] (true : Bool) from rfl)) (by omega) ?_)
          rw [hg35]
          clear hg35
          intro w34 hS
          replace hS : St w noX M27 [.box b9 cs29 31, .box b7 cx3 38, .box b5 cs35 31] w34 := hS
          refine WL_nil (nm_then ?_)
          refine W_seq ?_
          refine W_reg ?_
          refine WL_y (Y_fa fa31_5 hT28_3) ?_
          obtain ⟨v42, ev42, hv42⟩ := (GCase.p5 (rep_root (k := 24) rfl hb35))
          refine WL_y (Y_ld1 v42 ts27 rfl (hS.bvB 2 rfl) ev42) ?_
          refine WL_y (Y_fa fa38_4 hT28_5) ?_
          obtain ⟨v43, ev43, hv43⟩ := (GFrame.p4 (rep_root (k := 7) rfl hcx3))
          refine WL_y (Y_ld1 v43 ts27 rfl (hS.bvB 1 rfl) ev43) ?_
          obtain ⟨r46, hr45, hz⟩ := bind_ok hz
          replace hr45 := Option.some.inj hr45
          refine WL_c (O_mem (vs := [v42, v43]) (rv := (fun M' u => repL M' u r46)) cb46 (args2 rfl rfl) hS (hr45 ▸ (c_union hS.agree hv42 hv43)) ?_)
          intro u45 M45 w44 hx45 hu45 hS
          have h45 : repL M45 u45 r46 := hu45
          replace hcx3 := Rep.mono hx45.1 hcx3
          replace hb29 := Rep.mono hx45.1 hb29
          replace hb35 := Rep.mono hx45.1 hb35
          replace hv42 := repL.mono hx45.1 hv42
          replace hv43 := repL.mono hx45.1 hv43
          replace hE := Mm.ext.trans hE hx45
          refine WL_y (Y_fa fa31_5 hT28_3) ?_
          have hw48 : ([u45] : List Value).length = 1 := Rep.len (repL_rep h45)
          have hl48 : (cs35).length = 24 := Rep.len hb35
          obtain ⟨d49, hd48, hz⟩ := bind_ok hz
          have hb48 : rep M45 (pt cs35 (0 + 15) [u45]) d49 := rep_eq (rep_whole (k := 24) (by rw [pt_length (by omega)]; exact hl48) (GCase.s5 (rep_root (k := 24) rfl hb35) (rep_leaf rfl (repL_rep h45) (by omega)) (by omega) (by omega) (by omega))) hd48
          generalize hg48 : (pt cs35 (0 + 15) [u45]) = cs48 at hb48
          refine WL_c (O_st (j := 2) (v := u45) (ws := [u45]) hS rfl (by kernel_rfl) rfl rfl (repL_cells h45) hw48 (Rep.one (repL_rep h45)) (by omega) ?_)
          rw [hg48]
          clear hg48
          intro w47 hS
          replace hS : St w noX M45 [.box b9 cs29 31, .box b7 cx3 38, .box b5 cs48 31] w47 := hS
          refine WL_nil (nm_then ?_)
          refine W_seq ?_
          refine W_seq ?_
          refine W_reg ?_
          have ha50 := (rep_root (k := 24) rfl hb48)
          refine WL_y (Y_ldn ta31 hT28_3 (hS.bvB 2 rfl) (Rep.len ha50)) ?_
          obtain ⟨r53, hr52, hz⟩ := bind_ok hz
          refine WL_c (O_val (vs := [.agg (sl cs48 (0) 24).toArray]) (v := .bool r53) cb47 (args1 rfl) hS (enough_ok hS.agree ha50 hr52) ?_)
          intro w51 hS
          refine WL_y (Y_fa fa31_1 hT28_3) ?_
          have hw55 : ([.bool r53] : List Value).length = 1 := Rep.len (show rep M45 [Value.bool r53] (r53 : Bool) from rfl)
          have hl55 : (cs48).length = 24 := Rep.len hb48
          obtain ⟨d56, hd55, hz⟩ := bind_ok hz
          have hb55 : rep M45 (pt cs48 (0 + 1) [.bool r53]) d56 := rep_eq (rep_whole (k := 24) (by rw [pt_length (by omega)]; exact hl55) (GCase.s1 (rep_root (k := 24) rfl hb48) (rep_leaf rfl (show rep M45 [Value.bool r53] (r53 : Bool) from rfl) (by omega)) (by omega) (by omega) (by omega))) hd55
          generalize hg55 : (pt cs48 (0 + 1) [.bool r53]) = cs55 at hb55
          refine WL_c (O_st (j := 2) (v := .bool r53) (ws := [.bool r53]) hS rfl (by kernel_rfl) rfl rfl rfl hw55 (Rep.one (show rep M45 [Value.bool r53] (r53 : Bool) from rfl)) (by omega) ?_)
          rw [hg55]
          clear hg55
          intro w54 hS
          replace hS : St w noX M45 [.box b9 cs29 31, .box b7 cx3 38, .box b5 cs55 31] w54 := hS
          refine WL_nil (nm_then ?_)
          refine W_seq ?_
          refine W_reg ?_
          refine WL_y (Y_fa fa31_1 hT28_3) ?_
          refine WL_y (Y_ld1 (.bool d56.fixed) ts4 rfl (hS.bvB 2 rfl) (GCase.p1 (rep_root (k := 24) rfl hb55))) ?_
          refine WL_y (Y_not rfl) ?_
          refine WL_nil (nm_then ?_)
          refine W_cond rfl (fun hc57 => ?_) (fun hc57 => ?_)
          · replace hz := bif_ok_t hz hc57
            refine W_seq ?_
            refine W_reg ?_
            have ha58 := (rep_root (k := 24) rfl hb55)
            refine WL_y (Y_ldn ta31 hT28_3 (hS.bvB 2 rfl) (Rep.len ha58)) ?_
            have hw60 : ((sl cs55 (0) 24) : List Value).length = 24 := Rep.len ha58
            have hl60 : (cs29).length = 24 := Rep.len hb29
            obtain ⟨d61, hd60, hz⟩ := bind_ok hz
            have hb60 : rep M45 (pt cs29 (0) (sl cs55 (0) 24)) d61 := rep_eq (rep_whole (k := 24) (by rw [pt_length (by omega)]; exact hl60) (rep_leaf rfl ha58 (by omega))) hd60
            generalize hg60 : (pt cs29 (0) (sl cs55 (0) 24)) = cs60 at hb60
            refine WL_c (O_st (j := 0) (v := .agg (sl cs55 (0) 24).toArray) (ws := (sl cs55 (0) 24)) hS rfl (by kernel_rfl) hT28_6 rfl rfl hw60 (Rep.one ha58) (by omega) ?_)
            rw [hg60]
            clear hg60
            intro w59 hS
            replace hS : St w noX M45 [.box b9 cs60 31, .box b7 cx3 38, .box b5 cs55 31] w59 := hS
            refine WL_y (Y_assign ((.slice none 0 0)) rfl) ?_
            refine WL_y (Y_assign (.int .i64 0) rfl) ?_
            refine WL_nil (nm_then ?_)
            cases hz
            exact W_ret (rt_then (rt_blk (rt_then (R_ctt (j := 0) rfl hT28_6 rfl rfl (by rw [Rep.len hb60]; exact ta31) hS rfl (Gives.mk (St.dropB (St.dropB (St.dropB hS hb9) hb7) hb5) hE ⟨_, _, rfl, hb60, (repL_nil _)⟩)))))
          · replace hz := bif_ok_f hz hc57
            refine W_skip (nm_then ?_)
            refine W_seq ?_
            refine W_drawB (Rd M45 [.box b5 cs55 31]) (inL []) mixed hS fun w62 hS => ?_
            have hG63 := Mm.ext.refl w.heap.size noX M45
            have hR64 : Rd M45 [.box b5 cs55 31] w62 := Rd.of hS hG63 (by simp)
            have ha65 := (rep_root (k := 24) rfl hb55)
            refine WB_ld (i := 0) rfl (by kernel_rfl) rfl (inL_lt rfl) (by kernel_rfl) (by kernel_rfl) (Y_ldn ta31 hT28_3 (bvR 0 rfl) (Rep.len ha65)) hR64 ?_
            have ha66 := (rep_root (k := 24) rfl hb55)
            refine WB_ld (i := 1) rfl (by kernel_rfl) rfl (inL_lt rfl) (by kernel_rfl) (by kernel_rfl) (Y_ldn ta31 hT28_3 (bvR 0 rfl) (Rep.len ha66)) hR64 ?_
            refine WB_y (i := 2) rfl (by kernel_rfl) rfl (Y_move (.int .i64 x2) hT28_1) (fun _ => hR64) ?_
            obtain ⟨r69, hr68, hz⟩ := bind_ok hz
            refine WB_one (i := 3) (by kernel_rfl) rfl (O_mem (vs := [.agg (sl cs55 (0) 24).toArray, .int .i64 x2]) (rv := (fun M' u => repL M' u r69)) cb40 (args2 rfl rfl) hS (again_ok hS.agree ha66 hr68) ?_)
            intro u68 M68 w67 hx68 hu68 hS
            have f68 : repL M68 u68 r69 := hu68
            replace hcx3 := Rep.mono hx68.1 hcx3
            replace hb29 := Rep.mono hx68.1 hb29
            replace hb55 := Rep.mono hx68.1 hb55
            replace ha65 := Rep.mono hx68.1 ha65
            replace ha66 := Rep.mono hx68.1 ha66
            replace hE := Mm.ext.trans hE hx68
            replace hG63 := Mm.ext.trans hG63 hx68
            have hR70 : Rd M45 [.box b5 cs55 31] w67 := Rd.of hS hG63 (by simp)
            refine ⟨fun _ => hR70, ?_⟩
            have hw72 : ((sl cs55 (0) 24) : List Value).length = 24 := Rep.len ha65
            have hl72 : (cs29).length = 24 := Rep.len hb29
            obtain ⟨d73, hd72, hz⟩ := bind_ok hz
            have hb72 : rep M68 (pt cs29 (0) (sl cs55 (0) 24)) d73 := rep_eq (rep_whole (k := 24) (by rw [pt_length (by omega)]; exact hl72) (rep_leaf rfl ha65 (by omega))) hd72
            generalize hg72 : (pt cs29 (0) (sl cs55 (0) 24)) = cs72 at hb72
            refine WB_one (i := 4) (by kernel_rfl) rfl (O_st (j := 0) (v := .agg (sl cs55 (0) 24).toArray) (ws := (sl cs55 (0) 24)) hS rfl (by kernel_rfl) hT28_6 rfl rfl hw72 (Rep.one ha65) (by omega) ?_)
            rw [hg72]
            clear hg72
            intro w71 hS
            replace hS : St w noX M68 [.box b9 cs72 31, .box b7 cx3 38, .box b5 cs55 31] w71 := hS
            have hR74 : Rd M45 [.box b5 cs55 31] w71 := Rd.of hS hG63 (by simp)
            refine ⟨fun _ => hR74, ?_⟩
            refine WB_y (i := 5) rfl (by kernel_rfl) rfl (Y_assign (u68) rfl) (fun _ => hR74) ?_
            refine WB_y (i := 6) rfl (by kernel_rfl) rfl (Y_assign (.int .i64 0) rfl) (fun _ => hR74) ?_
            refine WB_done (by kernel_rfl) (nm_then ?_)
            cases hz
            exact W_ret (rt_blk (rt_then (R_ctt (j := 0) rfl hT28_6 rfl rfl (by rw [Rep.len hb72]; exact ta31) hS rfl (Gives.mk (St.dropB (St.dropB (St.dropB hS hb9) hb7) hb5) hE ⟨_, _, rfl, hb72, f68⟩))))
      · replace hz := bif_ok_f hz hc25
        refine W_seq ?_
        refine W_reg ?_
        refine WL_y (Y_eql rfl rfl) ?_
        refine WL_y (Y_assign (.bool (x3.kind == 4)) rfl) ?_
        refine WL_nil (nm_then ?_)
        refine W_cond rfl (fun hc105 => ?_) (fun hc105 => ?_)
        · replace hz := bif_ok_t hz hc105
          refine W_seqJ (fun T' w' => ∃ M107 cs109 d110, Mm.ext w.heap.size noX M11 M107 ∧ St w noX M107 [.box b9 cs13 31, .box b7 cx3 38, .box b5 cs109 31] w' ∧ rep M107 cs109 d110 ∧ T' 3 = .pointer (some ⟨b5, 0, none⟩) ∧ T' 6 = .pointer (some ⟨b9, 0, none⟩) ∧ postTake_j4 d110 = some r) ?_ ?_
          · have hF116 := Mm.ext.refl w.heap.size noX M11
            refine W_seq ?_
            refine W_reg ?_
            refine WL_y (Y_fa fa31_1 hT12_3) ?_
            refine WL_y (Y_ld1 (.bool x1.fixed) ts4 rfl (hS.bvB 2 rfl) (GCase.p1 (rep_root (k := 24) rfl hcx1))) ?_
            refine WL_nil (nm_then ?_)
            refine W_cond rfl (fun hc117 => ?_) (fun hc117 => ?_)
            · replace hz := bif_ok_t hz hc117
              refine W_reg ?_
              refine WL_y (Y_fa fa38_1 hT12_5) ?_
              refine WL_y (Y_ld1 (.int .i64 x3.node) ts3 rfl (hS.bvB 1 rfl) (GFrame.p1 (rep_root (k := 7) rfl hcx3))) ?_
              refine WL_y (Y_fa fa31_4 hT12_3) ?_
              obtain ⟨u118, hx119, hz⟩ := bind_ok hz
              obtain ⟨hx119a, hx119b⟩ := inR_some hx119
              refine WL_y (Y_ixA ia26 rfl rfl hx119a hx119b) ?_
              obtain ⟨x122, hx123, hz⟩ := bind_ok hz
              have hw121 : ([.bool true] : List Value).length = 1 := Rep.len (show rep M11 [Value.bool true] (true : Bool) from rfl)
              have hl121 : (cx1).length = 24 := Rep.len hcx1
              have hq124 := (idxV_some hx123)
              obtain ⟨a125, hx126, hz⟩ := bind_ok hz
              obtain ⟨d127, hd121, hz⟩ := bind_ok hz
              have hb121 : rep M11 (pt cx1 (0 + 9 + Int.toNat x3.node * 1) [.bool true]) d127 := rep_eq (rep_whole (k := 24) (by rw [pt_length (by omega)]; exact hl121) (GCase.s4 (rep_root (k := 24) rfl hcx1) (vs (k := 1) rfl rfl (GCase.p4 (rep_root (k := 24) rfl hcx1)) (rep_leaf rfl (show rep M11 [Value.bool true] (true : Bool) from rfl) (by omega)) hx126 (by omega) (by omega) (by omega)) (by omega) (by omega) (by omega))) hd121
              generalize hg121 : (pt cx1 (0 + 9 + Int.toNat x3.node * 1) [.bool true]) = cs121 at hb121
              refine WL_c (O_st (j := 2) (v := .bool true) (ws := [.bool true]) hS rfl (by kernel_rfl) rfl rfl rfl hw121 (Rep.one (show rep M11 [Value.bool true] (true : Bool) from rfl)) (by omega) ?_)
              rw [hg121]
              clear hg121
              intro w120 hS
              replace hS : St w noX M11 [.box b9 cs13 31, .box b7 cx3 38, .box b5 cs121 31] w120 := hS
              refine WL_nil (nm_then ?_)
              exact ⟨M11, cs121, d127, hF116, hS, hb121, hT12_3, hT12_6, hz⟩
            · replace hz := bif_ok_f hz hc117
              refine W_skip (nm_then ?_)
              exact ⟨M11, cx1, x1, hF116, hS, hcx1, hT12_3, hT12_6, hz⟩
          · rintro T108 w106 ⟨M107, cs109, d110, hx111, hS, hb109, hT108_3, hT108_6, hz⟩
            replace hcx3 := Rep.mono hx111.1 hcx3
            replace hb13 := Rep.mono hx111.1 hb13
            replace hE := Mm.ext.trans hE hx111
            rw [postTake_j4] at hz
            refine W_seq ?_
            refine W_reg ?_
            have ha112 := (rep_root (k := 24) rfl hb109)
            refine WL_y (Y_ldn ta31 hT108_3 (hS.bvB 2 rfl) (Rep.len ha112)) ?_
            have hw114 : ((sl cs109 (0) 24) : List Value).length = 24 := Rep.len ha112
            have hl114 : (cs13).length = 24 := Rep.len hb13
            obtain ⟨d115, hd114, hz⟩ := bind_ok hz
            have hb114 : rep M107 (pt cs13 (0) (sl cs109 (0) 24)) d115 := rep_eq (rep_whole (k := 24) (by rw [pt_length (by omega)]; exact hl114) (rep_leaf rfl ha112 (by omega))) hd114
            generalize hg114 : (pt cs13 (0) (sl cs109 (0) 24)) = cs114 at hb114
            refine WL_c (O_st (j := 0) (v := .agg (sl cs109 (0) 24).toArray) (ws := (sl cs109 (0) 24)) hS rfl (by kernel_rfl) hT108_6 rfl rfl hw114 (Rep.one ha112) (by omega) ?_)
            rw [hg114]
            clear hg114
            intro w113 hS
            replace hS : St w noX M107 [.box b9 cs114 31, .box b7 cx3 38, .box b5 cs109 31] w113 := hS
            refine WL_y (Y_assign ((.slice none 0 0)) rfl) ?_
            refine WL_y (Y_assign (.int .i64 0) rfl) ?_
            refine WL_nil (nm_then ?_)
            cases hz
            exact W_ret (rt_blk (rt_then (R_ctt (j := 0) rfl hT108_6 rfl rfl (by rw [Rep.len hb114]; exact ta31) hS rfl (Gives.mk (St.dropB (St.dropB (St.dropB hS hb9) hb7) hb5) hE ⟨_, _, rfl, hb114, (repL_nil _)⟩))))
        · replace hz := bif_ok_f hz hc105
          refine W_seq ?_
          refine W_reg ?_
          refine WL_y (Y_eql rfl rfl) ?_
          refine WL_y (Y_assign (.bool (x3.kind == 5)) rfl) ?_
          refine WL_nil (nm_then ?_)
          refine W_cond rfl (fun hc128 => ?_) (fun hc128 => ?_)
          · replace hz := bif_ok_t hz hc128
            refine W_seq ?_
            refine W_seq ?_
            refine W_reg ?_
            refine WL_y (Y_fa fa38_5 hT12_5) ?_
            obtain ⟨v129, ev129, hv129⟩ := (GFrame.p5 (rep_root (k := 7) rfl hcx3))
            refine WL_y (Y_ld1 v129 ts27 rfl (hS.bvB 1 rfl) ev129) ?_
            obtain ⟨a130, c130, hv130, _⟩ := repL_shape hv129
            refine WL_y (Y_lenL Try.underlying27 (tr2 hv130 rfl)) ?_
            refine WL_y (Y_move (.int .i64 0) rfl) ?_
            refine WL_nil (nm_then ?_)
            refine W_block ?_
            refine W_loop (fun k138 T' w' => ∃ M132 cs134 d135 y136, Mm.ext w.heap.size noX M11 M132 ∧ St w noX M132 [.box b9 cs13 31, .box b7 cx3 38, .box b5 cs134 31] w' ∧ rep M132 cs134 d135 ∧ T' 3 = .pointer (some ⟨b5, 0, none⟩) ∧ T' 5 = .pointer (some ⟨b7, 0, none⟩) ∧ T' 6 = .pointer (some ⟨b9, 0, none⟩) ∧ T' 96 = v129 ∧ T' 97 = .int .i64 (x3.at_.length : Int) ∧ T' 98 = .int .i64 y136 ∧ postTake_l1 x3 k138 d135 y136 = some r) fu ?_ ?_ ?_
            · exact ⟨M11, cx1, x1, (0 : Int), (Mm.ext.refl _ _ _), hS, hcx1, hT12_3, hT12_5, hT12_6, rfl, rfl, rfl, hz⟩
            · rintro T' w' ⟨_, _, _, _, _, _, _, _, _, _, _, _, _, hz⟩
              rw [postTake_l1] at hz
              cases hz
            · intro k138
              rintro T133 w131 ⟨M132, cs134, d135, y136, hx140, hS, hb134, hT133_3, hT133_5, hT133_6, hT133_96, hT133_97, hT133_98, hz⟩
              replace hcx3 := Rep.mono hx140.1 hcx3
              replace hb13 := Rep.mono hx140.1 hb13
              replace hv129 := repL.mono hx140.1 hv129
              replace hE := Mm.ext.trans hE hx140
              have hF139 := hx140
              rw [postTake_l1] at hz
              obtain ⟨rec137, hrec137⟩ : ∃ f, f = postTake_l1 x3 k138 := ⟨_, rfl⟩
              rw [← hrec137] at hz
              refine W_seq ?_
              refine W_reg ?_
              refine WL_y (Y_lss hT133_98 hT133_97) ?_
              refine WL_nil (nm_then ?_)
              refine W_seq ?_
              refine W_cond rfl (fun hc141 => ?_) (fun hc141 => ?_)
              · replace hz := bif_ok_t hz hc141
                refine W_skip (nm_then ?_)
                refine W_seqJ (fun T' w' => ∃ M143 cs145 d146, Mm.ext w.heap.size noX M132 M143 ∧ St w noX M143 [.box b9 cs13 31, .box b7 cx3 38, .box b5 cs145 31] w' ∧ rep M143 cs145 d146 ∧ T' 3 = .pointer (some ⟨b5, 0, none⟩) ∧ T' 5 = .pointer (some ⟨b7, 0, none⟩) ∧ T' 6 = .pointer (some ⟨b9, 0, none⟩) ∧ T' 96 = v129 ∧ T' 97 = .int .i64 (x3.at_.length : Int) ∧ T' 98 = .int .i64 y136 ∧ postTake_j5 y136 rec137 d146 = some r) ?_ ?_
                · have hF148 := Mm.ext.refl w.heap.size noX M132
                  refine W_block ?_
                  refine W_seq ?_
                  refine W_reg ?_
                  refine WL_y (Y_move (.int .i64 y136) hT133_98) ?_
                  obtain ⟨x150, hx149, hz⟩ := bind_ok hz
                  obtain ⟨b149, o149, c149, p149, hv149, hi149, hj149, hM149, hr149⟩ := repL_at hv129 hx149
                  replace hr149 : rep _ (sl p149 (o149 + Int.toNat y136 * 1) 1) x150 := hr149
                  refine WL_y (Y_ixL il27 hT133_96 hv149 hT133_98 hi149 hj149) ?_
                  refine WL_y (Y_ld1 (.int .i64 x150) ts3 rfl (hS.bvM hM149) hr149) ?_
                  refine WL_y (Y_assign (.int .i64 y136) rfl) ?_
                  refine WL_y (Y_assign (.int .i64 x150) rfl) ?_
                  refine WL_nil (nm_then ?_)
                  refine W_seqJ (fun T' w' => ∃ M152 c154, Mm.ext w.heap.size noX M132 M152 ∧ St w noX M152 [.box b9 cs13 31, .box b7 cx3 38, .box b5 cs134 31] w' ∧ T' 3 = .pointer (some ⟨b5, 0, none⟩) ∧ T' 5 = .pointer (some ⟨b7, 0, none⟩) ∧ T' 6 = .pointer (some ⟨b9, 0, none⟩) ∧ T' 10 = .int .i64 y136 ∧ T' 11 = .int .i64 x150 ∧ T' 96 = v129 ∧ T' 97 = .int .i64 (x3.at_.length : Int) ∧ T' 98 = .int .i64 y136 ∧ T' 131 = .bool c154 ∧ postTake_j6 x3 d135 y136 rec137 x150 c154 = some r) ?_ ?_
                  · have hF185 := Mm.ext.refl w.heap.size noX M132
                    refine W_drawB (Rd M132 [.box b7 cx3 38, .box b5 cs134 31]) (inL []) mixed hS fun w186 hS => ?_
                    have hG187 := Mm.ext.refl w.heap.size noX M132
                    have hR188 : Rd M132 [.box b7 cx3 38, .box b5 cs134 31] w186 := Rd.of hS hG187 (by simp)
                    refine WB_y (i := 0) rfl (by kernel_rfl) rfl (Y_fa fa31_1 hT133_3) (fun _ => hR188) ?_
                    refine WB_ld (i := 1) rfl (by kernel_rfl) rfl (inL_lt rfl) (by kernel_rfl) (by kernel_rfl) (Y_ld1 (.bool d135.fixed) ts4 rfl (bvR 1 rfl) (GCase.p1 (rep_root (k := 24) rfl hb134))) hR188 ?_
                    refine WB_y (i := 2) rfl (by kernel_rfl) rfl (Y_move (.bool d135.fixed) rfl) (fun _ => hR188) ?_
                    rcases Bool.eq_false_or_eq_true d135.fixed with hc189 | hc189
                    · replace hz := bif_ok_t hz hc189
                      refine WB_gy (i := 3) rfl (by kernel_rfl) rfl rfl (bt hc189 rfl) (Y_move (.int .i64 x150) rfl) (fun _ => hR188) ?_
                      refine WB_gy (i := 4) rfl (by kernel_rfl) rfl rfl (bt hc189 rfl) (Y_fa fa31_2 hT133_3) (fun _ => hR188) ?_
                      obtain ⟨v190, ev190, hv190⟩ := (GCase.p2 (rep_root (k := 24) rfl hb134))
                      refine WB_gld (i := 5) rfl (by kernel_rfl) rfl (inL_lt rfl) (by kernel_rfl) (by kernel_rfl) rfl (bt hc189 rfl) (Y_ld1 v190 ts22 rfl (bvR 1 rfl) ev190) hR188 ?_
                      obtain ⟨a191, c191, hv191, _⟩ := repL_shape hv190
                      refine WB_gy (i := 6) rfl (by kernel_rfl) rfl rfl (bt hc189 rfl) (Y_lenL Try.underlying22 (tr2 hv191 rfl)) (fun _ => hR188) ?_
                      refine WB_gy (i := 7) rfl (by kernel_rfl) rfl rfl (bt hc189 rfl) (Y_lss rfl rfl) (fun _ => hR188) ?_
                      refine WB_y (i := 8) rfl (by kernel_rfl) rfl (Y_pick_t (.bool (decide (x150 < (d135.ops.length : Int)))) (bt hc189 rfl) rfl) (fun _ => hR188) ?_
                      refine WB_y (i := 9) rfl (by kernel_rfl) rfl (Y_move (.bool (decide (x150 < (d135.ops.length : Int)))) rfl) (fun _ => hR188) ?_
                      rcases Bool.eq_false_or_eq_true (decide (x150 < (d135.ops.length : Int))) with hc192 | hc192
                      · replace hz := bif_ok_t hz hc192
                        refine WB_gy (i := 10) rfl (by kernel_rfl) rfl rfl (bt hc192 rfl) (Y_fa fa31_2 hT133_3) (fun _ => hR188) ?_
                        obtain ⟨v193, ev193, hv193⟩ := (GCase.p2 (rep_root (k := 24) rfl hb134))
                        refine WB_gld (i := 11) rfl (by kernel_rfl) rfl (inL_lt rfl) (by kernel_rfl) (by kernel_rfl) rfl (bt hc192 rfl) (Y_ld1 v193 ts22 rfl (bvR 1 rfl) ev193) hR188 ?_
                        refine WB_gy (i := 12) rfl (by kernel_rfl) rfl rfl (bt hc192 rfl) (Y_move (.int .i64 x150) rfl) (fun _ => hR188) ?_
                        obtain ⟨x195, hx194, hz⟩ := bind_ok hz
                        obtain ⟨b194, o194, c194, p194, hv194, hi194, hj194, hM194, hr194⟩ := repL_at hv193 hx194
                        replace hr194 : rep _ (sl p194 (o194 + Int.toNat x150 * 3) 3) x195 := hr194
                        refine WB_gy (i := 13) rfl (by kernel_rfl) rfl rfl (bt hc192 rfl) (Y_ixL il22 rfl hv194 rfl hi194 hj194) (fun _ => hR188) ?_
                        refine WB_gy (i := 14) rfl (by kernel_rfl) rfl rfl (bt hc192 rfl) (Y_fa fa78_1 rfl) (fun _ => hR188) ?_
                        refine WB_gld (i := 15) rfl (by kernel_rfl) rfl (inL_lt rfl) (by kernel_rfl) (by kernel_rfl) rfl (bt hc192 rfl) (Y_ld1 (.int .i64 x195.key) ts3 rfl (bvRM hM194) (GOp.p1 hr194)) hR188 ?_
                        refine WB_gy (i := 17) rfl (by kernel_rfl) rfl rfl (bt hc192 rfl) (Y_fa fa38_1 hT133_5) (fun _ => hR188) ?_
                        refine WB_gld (i := 18) rfl (by kernel_rfl) rfl (inL_lt rfl) (by kernel_rfl) (by kernel_rfl) rfl (bt hc192 rfl) (Y_ld1 (.int .i64 x3.node) ts3 rfl (bvR 0 rfl) (GFrame.p1 (rep_root (k := 7) rfl hcx3))) hR188 ?_
                        obtain ⟨r198, hr197, hz⟩ := bind_ok hz
                        replace hr197 := Option.some.inj hr197
                        refine WB_one_g (i := 16) (by kernel_rfl) rfl rfl (bt hc192 rfl) (O_val (vs := [.int .i64 x195.key]) (v := .int .i64 r198) cb48 (args1 rfl) hS (hr197 ▸ (c_shard)) ?_)
                        intro w196 hS
                        have hR199 : Rd M132 [.box b7 cx3 38, .box b5 cs134 31] w196 := Rd.of hS hG187 (by simp)
                        refine ⟨fun _ => hR199, ?_⟩
                        obtain ⟨r202, hr201, hz⟩ := bind_ok hz
                        replace hr201 := Option.some.inj hr201
                        refine WB_one_g (i := 19) (by kernel_rfl) rfl rfl (bt hc192 rfl) (O_val (vs := [.int .i64 x3.node]) (v := .int .i64 r202) cb45 (args1 rfl) hS (hr201 ▸ (c_of)) ?_)
                        intro w200 hS
                        have hR203 : Rd M132 [.box b7 cx3 38, .box b5 cs134 31] w200 := Rd.of hS hG187 (by simp)
                        refine ⟨fun _ => hR203, ?_⟩
                        refine WB_gy (i := 20) rfl (by kernel_rfl) rfl rfl (bt hc192 rfl) (Y_eql rfl rfl) (fun _ => hR203) ?_
                        refine WB_y (i := 21) rfl (by kernel_rfl) rfl (Y_pick_t (.bool (r198 == r202)) (bt hc192 rfl) rfl) (fun _ => hR203) ?_
                        refine WB_y (i := 22) rfl (by kernel_rfl) rfl (Y_move (.bool (r198 == r202)) rfl) (fun _ => hR203) ?_
                        rcases Bool.eq_false_or_eq_true (r198 == r202) with hc204 | hc204
                        · replace hz := bif_ok_t hz hc204
                          refine WB_gy (i := 23) rfl (by kernel_rfl) rfl rfl (bt hc204 rfl) (Y_move (.int .i64 x150) rfl) (fun _ => hR203) ?_
                          refine WB_gy (i := 24) rfl (by kernel_rfl) rfl rfl (bt hc204 rfl) (Y_fa fa31_6 hT133_3) (fun _ => hR203) ?_
                          obtain ⟨u205, hx206, hz⟩ := bind_ok hz
                          obtain ⟨hx206a, hx206b⟩ := inR_some hx206
                          refine WB_gy (i := 25) rfl (by kernel_rfl) rfl rfl (bt hc204 rfl) (Y_ixA ia28 rfl rfl hx206a hx206b) (fun _ => hR203) ?_
                          obtain ⟨x207, hx208, hz⟩ := bind_ok hz
                          refine WB_gld (i := 26) rfl (by kernel_rfl) rfl (inL_lt rfl) (by kernel_rfl) (by kernel_rfl) rfl (bt hc204 rfl) (Y_ld1 (.bool x207) ts4 rfl (bvR 1 rfl) (vp (k := 1) rfl rfl (GCase.p6 (rep_root (k := 24) rfl hb134)) hx208)) hR203 ?_
                          refine WB_gy (i := 27) rfl (by kernel_rfl) rfl rfl (bt hc204 rfl) (Y_not rfl) (fun _ => hR203) ?_
                          refine WB_y (i := 28) rfl (by kernel_rfl) rfl (Y_pick_t (.bool (!x207)) (bt hc204 rfl) rfl) (fun _ => hR203) ?_
                          refine WB_done (by kernel_rfl) (nm_then ?_)
                          exact ⟨M132, (!x207), hF185, hS, hT133_3, hT133_5, hT133_6, rfl, rfl, hT133_96, hT133_97, hT133_98, rfl, hz⟩
                        · replace hz := bif_ok_f hz hc204
                          refine WB_s (i := 23) (j := 22) rfl (by kernel_rfl) rfl rfl (bf hc204 rfl) rfl (fun _ => hR203) ?_
                          refine WB_s (i := 24) (j := 22) rfl (by kernel_rfl) rfl rfl (bf hc204 rfl) rfl (fun _ => hR203) ?_
                          refine WB_s (i := 25) (j := 22) rfl (by kernel_rfl) rfl rfl (bf hc204 rfl) rfl (fun _ => hR203) ?_
                          refine WB_s (i := 26) (j := 22) rfl (by kernel_rfl) rfl rfl (bf hc204 rfl) rfl (fun _ => hR203) ?_
                          refine WB_s (i := 27) (j := 22) rfl (by kernel_rfl) rfl rfl (bf hc204 rfl) rfl (fun _ => hR203) ?_
                          refine WB_y (i := 28) rfl (by kernel_rfl) rfl (Y_pick_f (.bool false) (bf hc204 rfl) rfl) (fun _ => hR203) ?_
                          refine WB_done (by kernel_rfl) (nm_then ?_)
                          exact ⟨M132, false, hF185, hS, hT133_3, hT133_5, hT133_6, rfl, rfl, hT133_96, hT133_97, hT133_98, rfl, hz⟩
                      · replace hz := bif_ok_f hz hc192
                        refine WB_s (i := 10) (j := 9) rfl (by kernel_rfl) rfl rfl (bf hc192 rfl) rfl (fun _ => hR188) ?_
                        refine WB_s (i := 11) (j := 9) rfl (by kernel_rfl) rfl rfl (bf hc192 rfl) rfl (fun _ => hR188) ?_
                        refine WB_s (i := 12) (j := 9) rfl (by kernel_rfl) rfl rfl (bf hc192 rfl) rfl (fun _ => hR188) ?_
                        refine WB_s (i := 13) (j := 9) rfl (by kernel_rfl) rfl rfl (bf hc192 rfl) rfl (fun _ => hR188) ?_
                        refine WB_s (i := 14) (j := 9) rfl (by kernel_rfl) rfl rfl (bf hc192 rfl) rfl (fun _ => hR188) ?_
                        refine WB_s (i := 15) (j := 9) rfl (by kernel_rfl) rfl rfl (bf hc192 rfl) rfl (fun _ => hR188) ?_
                        refine WB_s (i := 16) (j := 9) rfl (by kernel_rfl) rfl rfl (bf hc192 rfl) rfl (fun _ => hR188) ?_
                        refine WB_s (i := 17) (j := 9) rfl (by kernel_rfl) rfl rfl (bf hc192 rfl) rfl (fun _ => hR188) ?_
                        refine WB_s (i := 18) (j := 9) rfl (by kernel_rfl) rfl rfl (bf hc192 rfl) rfl (fun _ => hR188) ?_
                        refine WB_s (i := 19) (j := 9) rfl (by kernel_rfl) rfl rfl (bf hc192 rfl) rfl (fun _ => hR188) ?_
                        refine WB_s (i := 20) (j := 9) rfl (by kernel_rfl) rfl rfl (bf hc192 rfl) rfl (fun _ => hR188) ?_
                        refine WB_y (i := 21) rfl (by kernel_rfl) rfl (Y_pick_f (.bool false) (bf hc192 rfl) rfl) (fun _ => hR188) ?_
                        refine WB_y (i := 22) rfl (by kernel_rfl) rfl (Y_move (.bool false) rfl) (fun _ => hR188) ?_
                        refine WB_s (i := 23) (j := 22) rfl (by kernel_rfl) rfl rfl rfl rfl (fun _ => hR188) ?_
                        refine WB_s (i := 24) (j := 22) rfl (by kernel_rfl) rfl rfl rfl rfl (fun _ => hR188) ?_
                        refine WB_s (i := 25) (j := 22) rfl (by kernel_rfl) rfl rfl rfl rfl (fun _ => hR188) ?_
                        refine WB_s (i := 26) (j := 22) rfl (by kernel_rfl) rfl rfl rfl rfl (fun _ => hR188) ?_
                        refine WB_s (i := 27) (j := 22) rfl (by kernel_rfl) rfl rfl rfl rfl (fun _ => hR188) ?_
                        refine WB_y (i := 28) rfl (by kernel_rfl) rfl (Y_pick_f (.bool false) rfl rfl) (fun _ => hR188) ?_
                        refine WB_done (by kernel_rfl) (nm_then ?_)
                        exact ⟨M132, false, hF185, hS, hT133_3, hT133_5, hT133_6, rfl, rfl, hT133_96, hT133_97, hT133_98, rfl, hz⟩
                    · replace hz := bif_ok_f hz hc189
                      refine WB_s (i := 3) (j := 2) rfl (by kernel_rfl) rfl rfl (bf hc189 rfl) rfl (fun _ => hR188) ?_
                      refine WB_s (i := 4) (j := 2) rfl (by kernel_rfl) rfl rfl (bf hc189 rfl) rfl (fun _ => hR188) ?_
                      refine WB_s (i := 5) (j := 2) rfl (by kernel_rfl) rfl rfl (bf hc189 rfl) rfl (fun _ => hR188) ?_
                      refine WB_s (i := 6) (j := 2) rfl (by kernel_rfl) rfl rfl (bf hc189 rfl) rfl (fun _ => hR188) ?_
                      refine WB_s (i := 7) (j := 2) rfl (by kernel_rfl) rfl rfl (bf hc189 rfl) rfl (fun _ => hR188) ?_
                      refine WB_y (i := 8) rfl (by kernel_rfl) rfl (Y_pick_f (.bool false) (bf hc189 rfl) rfl) (fun _ => hR188) ?_
                      refine WB_y (i := 9) rfl (by kernel_rfl) rfl (Y_move (.bool false) rfl) (fun _ => hR188) ?_
                      refine WB_s (i := 10) (j := 9) rfl (by kernel_rfl) rfl rfl rfl rfl (fun _ => hR188) ?_
                      refine WB_s (i := 11) (j := 9) rfl (by kernel_rfl) rfl rfl rfl rfl (fun _ => hR188) ?_
                      refine WB_s (i := 12) (j := 9) rfl (by kernel_rfl) rfl rfl rfl rfl (fun _ => hR188) ?_
                      refine WB_s (i := 13) (j := 9) rfl (by kernel_rfl) rfl rfl rfl rfl (fun _ => hR188) ?_
                      refine WB_s (i := 14) (j := 9) rfl (by kernel_rfl) rfl rfl rfl rfl (fun _ => hR188) ?_
                      refine WB_s (i := 15) (j := 9) rfl (by kernel_rfl) rfl rfl rfl rfl (fun _ => hR188) ?_
                      refine WB_s (i := 16) (j := 9) rfl (by kernel_rfl) rfl rfl rfl rfl (fun _ => hR188) ?_
                      refine WB_s (i := 17) (j := 9) rfl (by kernel_rfl) rfl rfl rfl rfl (fun _ => hR188) ?_
                      refine WB_s (i := 18) (j := 9) rfl (by kernel_rfl) rfl rfl rfl rfl (fun _ => hR188) ?_
                      refine WB_s (i := 19) (j := 9) rfl (by kernel_rfl) rfl rfl rfl rfl (fun _ => hR188) ?_
                      refine WB_s (i := 20) (j := 9) rfl (by kernel_rfl) rfl rfl rfl rfl (fun _ => hR188) ?_
                      refine WB_y (i := 21) rfl (by kernel_rfl) rfl (Y_pick_f (.bool false) rfl rfl) (fun _ => hR188) ?_
                      refine WB_y (i := 22) rfl (by kernel_rfl) rfl (Y_move (.bool false) rfl) (fun _ => hR188) ?_
                      refine WB_s (i := 23) (j := 22) rfl (by kernel_rfl) rfl rfl rfl rfl (fun _ => hR188) ?_
                      refine WB_s (i := 24) (j := 22) rfl (by kernel_rfl) rfl rfl rfl rfl (fun _ => hR188) ?_
                      refine WB_s (i := 25) (j := 22) rfl (by kernel_rfl) rfl rfl rfl rfl (fun _ => hR188) ?_
                      refine WB_s (i := 26) (j := 22) rfl (by kernel_rfl) rfl rfl rfl rfl (fun _ => hR188) ?_
                      refine WB_s (i := 27) (j := 22) rfl (by kernel_rfl) rfl rfl rfl rfl (fun _ => hR188) ?_
                      refine WB_y (i := 28) rfl (by kernel_rfl) rfl (Y_pick_f (.bool false) rfl rfl) (fun _ => hR188) ?_
                      refine WB_done (by kernel_rfl) (nm_then ?_)
                      exact ⟨M132, false, hF185, hS, hT133_3, hT133_5, hT133_6, rfl, rfl, hT133_96, hT133_97, hT133_98, rfl, hz⟩
                  · rintro T153 w151 ⟨M152, c154, hx155, hS, hT153_3, hT153_5, hT153_6, hT153_10, hT153_11, hT153_96, hT153_97, hT153_98, hT153_131, hz⟩
                    replace hcx3 := Rep.mono hx155.1 hcx3
                    replace hb13 := Rep.mono hx155.1 hb13
                    replace hv129 := repL.mono hx155.1 hv129
                    replace hb134 := Rep.mono hx155.1 hb134
                    replace hE := Mm.ext.trans hE hx155
                    replace hF139 := Mm.ext.trans hF139 hx155
                    replace hF148 := Mm.ext.trans hF148 hx155
                    rw [postTake_j6] at hz
                    refine W_cond hT153_131 (fun hc156 => ?_) (fun hc156 => ?_)
                    · replace hz := bif_ok_t hz hc156
                      refine W_drawB (Rd M152 [.box b7 cx3 38]) (inL []) mixed hS fun w157 hS => ?_
                      have hG158 := Mm.ext.refl w.heap.size noX M152
                      have hR159 : Rd M152 [.box b7 cx3 38] w157 := Rd.of hS hG158 (by simp)
                      refine WB_y (i := 0) rfl (by kernel_rfl) rfl (Y_move (.int .i64 x150) hT153_11) (fun _ => hR159) ?_
                      refine WB_y (i := 1) rfl (by kernel_rfl) rfl (Y_move (.int .i64 x150) hT153_11) (fun _ => hR159) ?_
                      refine WB_y (i := 2) rfl (by kernel_rfl) rfl (Y_fa fa38_6 hT153_5) (fun _ => hR159) ?_
                      obtain ⟨v160, ev160, hv160⟩ := (GFrame.p6 (rep_root (k := 7) rfl hcx3))
                      refine WB_ld (i := 3) rfl (by kernel_rfl) rfl (inL_lt rfl) (by kernel_rfl) (by kernel_rfl) (Y_ld1 v160 ts27 rfl (bvR 0 rfl) ev160) hR159 ?_
                      refine WB_y (i := 4) rfl (by kernel_rfl) rfl (Y_move (.int .i64 y136) hT153_10) (fun _ => hR159) ?_
                      obtain ⟨x162, hx161, hz⟩ := bind_ok hz
                      obtain ⟨b161, o161, c161, p161, hv161, hi161, hj161, hM161, hr161⟩ := repL_at hv160 hx161
                      replace hr161 : rep _ (sl p161 (o161 + Int.toNat y136 * 1) 1) x162 := hr161
                      refine WB_y (i := 5) rfl (by kernel_rfl) rfl (Y_ixL il27 rfl hv161 rfl hi161 hj161) (fun _ => hR159) ?_
                      refine WB_ld (i := 6) rfl (by kernel_rfl) rfl (inL_lt rfl) (by kernel_rfl) (by kernel_rfl) (Y_ld1 (.int .i64 x162) ts3 rfl (bvRM hM161) hr161) hR159 ?_
                      refine WB_y (i := 7) rfl (by kernel_rfl) rfl (Y_fa fa31_6 hT153_3) (fun _ => hR159) ?_
                      obtain ⟨u163, hx164, hz⟩ := bind_ok hz
                      obtain ⟨hx164a, hx164b⟩ := inR_some hx164
                      refine WB_y (i := 8) rfl (by kernel_rfl) rfl (Y_ixA ia28 rfl rfl hx164a hx164b) (fun _ => hR159) ?_
                      refine WB_y (i := 10) rfl (by kernel_rfl) rfl (Y_fa fa31_7 hT153_3) (fun _ => hR159) ?_
                      obtain ⟨x167, hx168, hz⟩ := bind_ok hz
                      have hw166 : ([.bool true] : List Value).length = 1 := Rep.len (show rep M152 [Value.bool true] (true : Bool) from rfl)
                      have hl166 : (cs134).length = 24 := Rep.len hb134
                      have hq169 := (idxV_some hx168)
                      obtain ⟨a170, hx171, hz⟩ := bind_ok hz
                      obtain ⟨d172, hd166, hz⟩ := bind_ok hz
                      have hb166 : rep M152 (pt cs134 (0 + 16 + Int.toNat x150 * 1) [.bool true]) d172 := rep_eq (rep_whole (k := 24) (by rw [pt_length (by omega)]; exact hl166) (GCase.s6 (rep_root (k := 24) rfl hb134) (vs (k := 1) rfl rfl (GCase.p6 (rep_root (k := 24) rfl hb134)) (rep_leaf rfl (show rep M152 [Value.bool true] (true : Bool) from rfl) (by omega)) hx171 (by omega) (by omega) (by omega)) (by omega) (by omega) (by omega))) hd166
                      generalize hg166 : (pt cs134 (0 + 16 + Int.toNat x150 * 1) [.bool true]) = cs166 at hb166
                      refine WB_one (i := 9) (by kernel_rfl) rfl (O_st (j := 2) (v := .bool true) (ws := [.bool true]) hS rfl (by kernel_rfl) rfl rfl rfl hw166 (Rep.one (show rep M152 [Value.bool true] (true : Bool) from rfl)) (by omega) ?_)
                      rw [hg166]
                      clear hg166
                      intro w165 hS
                      replace hS : St w noX M152 [.box b9 cs13 31, .box b7 cx3 38, .box b5 cs166 31] w165 := hS
                      have hR173 : Rd M152 [.box b7 cx3 38] w165 := Rd.of hS hG158 (by simp)
                      refine ⟨fun _ => hR173, ?_⟩
                      obtain ⟨u174, hx175, hz⟩ := bind_ok hz
                      obtain ⟨hx175a, hx175b⟩ := inR_some hx175
                      refine WB_y (i := 11) rfl (by kernel_rfl) rfl (Y_ixA ia29 rfl rfl hx175a hx175b) (fun _ => hR173) ?_
                      obtain ⟨x178, hx179, hz⟩ := bind_ok hz
                      have hw177 : ([.int .i64 x162] : List Value).length = 1 := Rep.len (show rep M152 [Value.int .i64 x162] (x162 : Int) from rfl)
                      have hl177 : (cs166).length = 24 := Rep.len hb166
                      have hq180 := (idxV_some hx179)
                      obtain ⟨a181, hx182, hz⟩ := bind_ok hz
                      obtain ⟨d183, hd177, hz⟩ := bind_ok hz
                      have hb177 : rep M152 (pt cs166 (0 + 20 + Int.toNat x150 * 1) [.int .i64 x162]) d183 := rep_eq (rep_whole (k := 24) (by rw [pt_length (by omega)]; exact hl177) (GCase.s7 (rep_root (k := 24) rfl hb166) (vs (k := 1) rfl rfl (GCase.p7 (rep_root (k := 24) rfl hb166)) (rep_leaf rfl (show rep M152 [Value.int .i64 x162] (x162 : Int) from rfl) (by omega)) hx182 (by omega) (by omega) (by omega)) (by omega) (by omega) (by omega))) hd177
                      generalize hg177 : (pt cs166 (0 + 20 + Int.toNat x150 * 1) [.int .i64 x162]) = cs177 at hb177
                      refine WB_one (i := 12) (by kernel_rfl) rfl (O_st (j := 2) (v := .int .i64 x162) (ws := [.int .i64 x162]) hS rfl (by kernel_rfl) rfl rfl rfl hw177 (Rep.one (show rep M152 [Value.int .i64 x162] (x162 : Int) from rfl)) (by omega) ?_)
                      rw [hg177]
                      clear hg177
                      intro w176 hS
                      replace hS : St w noX M152 [.box b9 cs13 31, .box b7 cx3 38, .box b5 cs177 31] w176 := hS
                      have hR184 : Rd M152 [.box b7 cx3 38] w176 := Rd.of hS hG158 (by simp)
                      refine ⟨fun _ => hR184, ?_⟩
                      refine WB_done (by kernel_rfl) (nm_blk ?_)
                      refine (nm_then ?_)
                      exact ⟨M152, cs177, d183, hF148, hS, hb177, hT153_3, hT153_5, hT153_6, hT153_96, hT153_97, hT153_98, hz⟩
                    · replace hz := bif_ok_f hz hc156
                      refine W_skip (nm_blk ?_)
                      refine (nm_then ?_)
                      exact ⟨M152, cs134, d135, hF148, hS, hb134, hT153_3, hT153_5, hT153_6, hT153_96, hT153_97, hT153_98, hz⟩
                · rintro T144 w142 ⟨M143, cs145, d146, hx147, hS, hb145, hT144_3, hT144_5, hT144_6, hT144_96, hT144_97, hT144_98, hz⟩
                  replace hcx3 := Rep.mono hx147.1 hcx3
                  replace hb13 := Rep.mono hx147.1 hb13
                  replace hv129 := repL.mono hx147.1 hv129
                  replace hE := Mm.ext.trans hE hx147
                  replace hF139 := Mm.ext.trans hF139 hx147
                  rw [postTake_j5] at hz
                  refine W_reg ?_
                  refine WL_y (Y_add hT144_98 rfl) ?_
                  refine WL_y (Y_move (.int .i64 (IntKind.wrap .i64 (y136 + 1))) rfl) ?_
                  refine WL_nil (nm_then ?_)
                  exact ⟨M143, cs145, d146, (IntKind.wrap .i64 (y136 + 1)), hF139, hS, hb145, hT144_3, hT144_5, hT144_6, hT144_96, hT144_97, rfl, (by rw [← hrec137]; exact hz)⟩
              · replace hz := bif_ok_f hz hc141
                refine W_exit ?_
                refine ex_then ?_
                refine ex_then ?_
                refine ex_hit ?_
                refine (nm_then ?_)
                refine W_seq ?_
                refine W_reg ?_
                have ha209 := (rep_root (k := 24) rfl hb134)
                refine WL_y (Y_ldn ta31 hT133_3 (hS.bvB 2 rfl) (Rep.len ha209)) ?_
                have hw211 : ((sl cs134 (0) 24) : List Value).length = 24 := Rep.len ha209
                have hl211 : (cs13).length = 24 := Rep.len hb13
                obtain ⟨d212, hd211, hz⟩ := bind_ok hz
                have hb211 : rep M132 (pt cs13 (0) (sl cs134 (0) 24)) d212 := rep_eq (rep_whole (k := 24) (by rw [pt_length (by omega)]; exact hl211) (rep_leaf rfl ha209 (by omega))) hd211
                generalize hg211 : (pt cs13 (0) (sl cs134 (0) 24)) = cs211 at hb211
                refine WL_c (O_st (j := 0) (v := .agg (sl cs134 (0) 24).toArray) (ws := (sl cs134 (0) 24)) hS rfl (by kernel_rfl) hT133_6 rfl rfl hw211 (Rep.one ha209) (by omega) ?_)
                rw [hg211]
                clear hg211
                intro w210 hS
                replace hS : St w noX M132 [.box b9 cs211 31, .box b7 cx3 38, .box b5 cs134 31] w210 := hS
                refine WL_y (Y_assign ((.slice none 0 0)) rfl) ?_
                refine WL_y (Y_assign (.int .i64 0) rfl) ?_
                refine WL_nil (nm_then ?_)
                cases hz
                exact W_ret (rt_blk (rt_then (R_ctt (j := 0) rfl hT133_6 rfl rfl (by rw [Rep.len hb211]; exact ta31) hS rfl (Gives.mk (St.dropB (St.dropB (St.dropB hS hb9) hb7) hb5) hE ⟨_, _, rfl, hb211, (repL_nil _)⟩))))
          · replace hz := bif_ok_f hz hc128
            refine W_skip (nm_blk ?_)
            refine (nm_then ?_)
            refine W_seq ?_
            refine W_reg ?_
            have ha213 := (rep_root (k := 24) rfl hcx1)
            refine WL_y (Y_ldn ta31 hT12_3 (hS.bvB 2 rfl) (Rep.len ha213)) ?_
            have hw215 : ((sl cx1 (0) 24) : List Value).length = 24 := Rep.len ha213
            have hl215 : (cs13).length = 24 := Rep.len hb13
            obtain ⟨d216, hd215, hz⟩ := bind_ok hz
            have hb215 : rep M11 (pt cs13 (0) (sl cx1 (0) 24)) d216 := rep_eq (rep_whole (k := 24) (by rw [pt_length (by omega)]; exact hl215) (rep_leaf rfl ha213 (by omega))) hd215
            generalize hg215 : (pt cs13 (0) (sl cx1 (0) 24)) = cs215 at hb215
            refine WL_c (O_st (j := 0) (v := .agg (sl cx1 (0) 24).toArray) (ws := (sl cx1 (0) 24)) hS rfl (by kernel_rfl) hT12_6 rfl rfl hw215 (Rep.one ha213) (by omega) ?_)
            rw [hg215]
            clear hg215
            intro w214 hS
            replace hS : St w noX M11 [.box b9 cs215 31, .box b7 cx3 38, .box b5 cx1 31] w214 := hS
            refine WL_y (Y_assign ((.slice none 0 0)) rfl) ?_
            refine WL_y (Y_assign (.int .i64 3) rfl) ?_
            refine WL_nil (nm_then ?_)
            cases hz
            exact W_ret (R_ctt (j := 0) rfl hT12_6 rfl rfl (by rw [Rep.len hb215]; exact ta31) hS rfl (Gives.mk (St.dropB (St.dropB (St.dropB hS hb9) hb7) hb5) hE ⟨_, _, rfl, hb215, (repL_nil _)⟩))

end Go.Proofs.Ytopgdemmdcipcaa
