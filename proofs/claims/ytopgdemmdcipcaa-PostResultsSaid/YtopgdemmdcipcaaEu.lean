/- What functions compute, and that they do. (Written by dc.py.) -/
import Derived.Test.YtopgdemmdcipcaaDk
namespace Go.Proofs.Ytopgdemmdcipcaa
open Go.RowKit
open Rep (rep)
set_option linter.unusedVariables false

def wireGood_j6 (y31 : Int) (rec32 : Int → Option Int) : Option Int :=
    rec32 (IntKind.wrap .i64 (y31 + 1))

def wireGood_j7 (y31 : Int) (rec32 : Int → Option Int) (c47 : Bool) : Option Int :=
    (bif c47 then
    some 1
    else
    wireGood_j6 y31 rec32)

def wireGood_l1 (x1 : GFrame) : Nat → Int → Option Int
  | 0, _ => none
  | n + 1, y31 =>
    (bif decide (y31 < (x1.at_.length : Int)) then
    (idx x1.at_ y31).bind fun x43 =>
    (bif decide (x43 < 0) then
    wireGood_j7 y31 (wireGood_l1 x1 n) true
    else
    (bif decide (x43 ≥ 4) then
    wireGood_j7 y31 (wireGood_l1 x1 n) true
    else
    (bif decide (y31 > 0) then
    (idx x1.at_ (IntKind.wrap .i64 (y31 - 1))).bind fun x56 =>
    (bif decide (x56 ≥ x43) then
    wireGood_j7 y31 (wireGood_l1 x1 n) true
    else
    (idx x1.vals y31).bind fun x60 =>
    (bif decide (x60 < (-1099511627776)) then
    wireGood_j7 y31 (wireGood_l1 x1 n) true
    else
    (idx x1.vals y31).bind fun x64 =>
    wireGood_j7 y31 (wireGood_l1 x1 n) (decide (x64 > 1099511627776))))
    else
    (idx x1.vals y31).bind fun x67 =>
    (bif decide (x67 < (-1099511627776)) then
    wireGood_j7 y31 (wireGood_l1 x1 n) true
    else
    (idx x1.vals y31).bind fun x71 =>
    wireGood_j7 y31 (wireGood_l1 x1 n) (decide (x71 > 1099511627776))))))
    else
    some 0)

def wireGood_j5 (fu : Nat) (x1 : GFrame) : Option Int :=
    wireGood_l1 x1 fu 0

def wireGood_j8 (fu : Nat) (x1 : GFrame) (c76 : Bool) : Option Int :=
    (bif c76 then
    some 1
    else
    wireGood_j5 fu x1)

def wireGood_j4 (fu : Nat) (x1 : GFrame) : Option Int :=
    (bif x1.kind != 5 then
    (bif decide ((x1.at_.length : Int) > 0) then
    wireGood_j8 fu x1 true
    else
    wireGood_j8 fu x1 ((x1.at_.length : Int) != (x1.vals.length : Int)))
    else
    wireGood_j8 fu x1 ((x1.at_.length : Int) != (x1.vals.length : Int)))

def wireGood_j9 (fu : Nat) (x1 : GFrame) (c96 : Bool) : Option Int :=
    (bif c96 then
    some 1
    else
    wireGood_j4 fu x1)

def wireGood_j3 (fu : Nat) (x1 : GFrame) (c11 : Bool) (c16 : Bool) : Option Int :=
    (bif !(c11 == (decide ((x1.ops.length : Int) > 0))) then
    wireGood_j9 fu x1 true
    else
    (bif c11 then
    (some (goodOpsZ x1.ops)).bind fun r107 =>
    (bif !r107 then
    wireGood_j9 fu x1 true
    else
    (bif !c16 then
    (bif decide ((x1.deps.length : Int) > 0) then
    wireGood_j9 fu x1 true
    else
    (some (risingZ x1.deps)).bind fun r116 =>
    (bif !r116 then
    wireGood_j9 fu x1 true
    else
    (some (hasZ x1.deps x1.id)).bind fun r121 =>
    wireGood_j9 fu x1 r121))
    else
    (some (risingZ x1.deps)).bind fun r125 =>
    (bif !r125 then
    wireGood_j9 fu x1 true
    else
    (some (hasZ x1.deps x1.id)).bind fun r130 =>
    wireGood_j9 fu x1 r130)))
    else
    (bif !c16 then
    (bif decide ((x1.deps.length : Int) > 0) then
    wireGood_j9 fu x1 true
    else
    (some (risingZ x1.deps)).bind fun r138 =>
    (bif !r138 then
    wireGood_j9 fu x1 true
    else
    (some (hasZ x1.deps x1.id)).bind fun r143 =>
    wireGood_j9 fu x1 r143))
    else
    (some (risingZ x1.deps)).bind fun r147 =>
    (bif !r147 then
    wireGood_j9 fu x1 true
    else
    (some (hasZ x1.deps x1.id)).bind fun r152 =>
    wireGood_j9 fu x1 r152))))

def wireGood_j2 (fu : Nat) (x1 : GFrame) (c11 : Bool) : Option Int :=
    (bif x1.kind == 2 then
    wireGood_j3 fu x1 c11 true
    else
    wireGood_j3 fu x1 c11 (x1.kind == 3))

def wireGood_j1 (fu : Nat) (x1 : GFrame) : Option Int :=
    (bif x1.kind == 1 then
    wireGood_j2 fu x1 true
    else
    wireGood_j2 fu x1 (x1.kind == 3))

def wireGood_j11 (fu : Nat) (x1 : GFrame) (c167 : Bool) : Option Int :=
    (bif c167 then
    some 2
    else
    wireGood_j1 fu x1)

def wireGood_j10 (fu : Nat) (x1 : GFrame) (c161 : Bool) : Option Int :=
    (bif c161 then
    some 3
    else
    (bif decide (x1.node < 0) then
    wireGood_j11 fu x1 true
    else
    (bif decide (x1.node ≥ 6) then
    wireGood_j11 fu x1 true
    else
    (bif decide (x1.id < 0) then
    wireGood_j11 fu x1 true
    else
    wireGood_j11 fu x1 (decide (x1.id ≥ 32))))))

def wireGoodD (fu : Nat) (x1 : GFrame) : Option Int :=
    (bif decide (x1.kind < 1) then
    wireGood_j10 fu x1 true
    else
    wireGood_j10 fu x1 (decide (x1.kind > 5)))

set_option maxRecDepth 100000 in
set_option maxHeartbeats 4000000 in
theorem wireGood_ok {M : Mm} {w : World} {cx1 : List Value} {x1 : GFrame} {fu : Nat} {r : Int} (hA : Agree M w) (hcx1 : rep M cx1 x1) (hz : wireGoodD fu x1 = some r) :
    Calls Try.prog 43 #[.agg cx1.toArray] w (GivesV w (.int .i64 r)) := by
  refine calls_W Try.func43 rfl 152 rfl rfl (by kernel_rfl) fun T hT => ?_
  have hT_0 : T 0 = .agg cx1.toArray := hT 0
  clear hT
  have hE := Mm.ext.refl w.heap.size noX M
  have hS : St w noX M [] w := St.start hA
  rw [wireGoodD] at hz
  refine W_seq ?_
  refine W_reg ?_
  refine WL_c (O_box (v := .agg cx1.toArray) (cs := cx1) hT_0 rfl hS ?_)
  intro b3 w2 hb3 hS
  replace hS : St w noX M [.box b3 cx1 38] w2 := hS
  refine WL_y (Y_assign (.int .i64 0) rfl) ?_
  refine WL_nil (nm_then ?_)
  refine W_seqJ (fun T' w' => ∃ M5, Mm.ext w.heap.size noX M M5 ∧ St w noX M5 [.box b3 cx1 38] w' ∧ T' 1 = .pointer (some ⟨b3, 0, none⟩) ∧ wireGood_j1 fu x1 = some r) ?_ ?_
  · have hF157 := Mm.ext.refl w.heap.size noX M
    refine W_block ?_
    refine W_seqJ (fun T' w' => ∃ M159 c161, Mm.ext w.heap.size noX M M159 ∧ St w noX M159 [.box b3 cx1 38] w' ∧ T' 1 = .pointer (some ⟨b3, 0, none⟩) ∧ T' 7 = .bool c161 ∧ wireGood_j10 fu x1 c161 = some r) ?_ ?_
    · have hF174 := Mm.ext.refl w.heap.size noX M
      refine W_reg ?_
      refine WL_y (Y_fa fa38_0 rfl) ?_
      refine WL_y (Y_ld1 (.int .i64 x1.kind) ts3 rfl (hS.bvB 0 rfl) (GFrame.p0 (rep_root (k := 7) rfl hcx1))) ?_
      refine WL_y (Y_lss rfl rfl) ?_
      refine WL_y (Y_move (.bool (decide (x1.kind < 1))) rfl) ?_
      rcases Bool.eq_false_or_eq_true (decide (x1.kind < 1)) with hc175 | hc175
      · replace hz := bif_ok_t hz hc175
        refine WL_s (j := 3) rfl (bt hc175 rfl) rfl ?_
        refine WL_s (j := 3) rfl (bt hc175 rfl) rfl ?_
        refine WL_s (j := 3) rfl (bt hc175 rfl) rfl ?_
        refine WL_y (Y_pick_t (.bool true) (bt hc175 rfl) rfl) ?_
        refine WL_y (Y_assign (.bool true) rfl) ?_
        refine WL_nil (nm_then ?_)
        exact ⟨M, true, hF174, hS, rfl, rfl, hz⟩
      · replace hz := bif_ok_f hz hc175
        refine WL_gy rfl (bf hc175 rfl) (Y_fa fa38_0 rfl) ?_
        refine WL_gy rfl (bf hc175 rfl) (Y_ld1 (.int .i64 x1.kind) ts3 rfl (hS.bvB 0 rfl) (GFrame.p0 (rep_root (k := 7) rfl hcx1))) ?_
        refine WL_gy rfl (bf hc175 rfl) (Y_gtr rfl rfl) ?_
        refine WL_y (Y_pick_f (.bool (decide (x1.kind > 5))) (bf hc175 rfl) rfl) ?_
        refine WL_y (Y_assign (.bool (decide (x1.kind > 5))) rfl) ?_
        refine WL_nil (nm_then ?_)
        exact ⟨M, (decide (x1.kind > 5)), hF174, hS, rfl, rfl, hz⟩
    · rintro T160 w158 ⟨M159, c161, hx162, hS, hT160_1, hT160_7, hz⟩
      replace hcx1 := Rep.mono hx162.1 hcx1
      replace hE := Mm.ext.trans hE hx162
      replace hF157 := Mm.ext.trans hF157 hx162
      rw [wireGood_j10] at hz
      refine W_cond hT160_7 (fun hc163 => ?_) (fun hc163 => ?_)
      · replace hz := bif_ok_t hz hc163
        refine W_seq ?_
        refine W_reg ?_
        refine WL_y (Y_assign (.int .i64 3) rfl) ?_
        refine WL_nil (nm_then ?_)
        cases hz
        exact W_ret (rt_blk (rt_then (R_t1 rfl rfl ⟨rfl, (St.dropB hS hb3).kept⟩)))
      · replace hz := bif_ok_f hz hc163
        refine W_seqJ (fun T' w' => ∃ M165 c167, Mm.ext w.heap.size noX M159 M165 ∧ St w noX M165 [.box b3 cx1 38] w' ∧ T' 1 = .pointer (some ⟨b3, 0, none⟩) ∧ T' 16 = .bool c167 ∧ wireGood_j11 fu x1 c167 = some r) ?_ ?_
        · have hF170 := Mm.ext.refl w.heap.size noX M159
          refine W_reg ?_
          refine WL_y (Y_fa fa38_1 hT160_1) ?_
          refine WL_y (Y_ld1 (.int .i64 x1.node) ts3 rfl (hS.bvB 0 rfl) (GFrame.p1 (rep_root (k := 7) rfl hcx1))) ?_
          refine WL_y (Y_lss rfl rfl) ?_
          refine WL_y (Y_move (.bool (decide (x1.node < 0))) rfl) ?_
          rcases Bool.eq_false_or_eq_true (decide (x1.node < 0)) with hc171 | hc171
          · replace hz := bif_ok_t hz hc171
            refine WL_s (j := 3) rfl (bt hc171 rfl) rfl ?_
            refine WL_s (j := 3) rfl (bt hc171 rfl) rfl ?_
            refine WL_s (j := 3) rfl (bt hc171 rfl) rfl ?_
            refine WL_y (Y_pick_t (.bool true) (bt hc171 rfl) rfl) ?_
            refine WL_y (Y_move (.bool true) rfl) ?_
            refine WL_s (j := 8) rfl rfl rfl ?_
            refine WL_s (j := 8) rfl rfl rfl ?_
            refine WL_s (j := 8) rfl rfl rfl ?_
            refine WL_y (Y_pick_t (.bool true) rfl rfl) ?_
            refine WL_y (Y_move (.bool true) rfl) ?_
            refine WL_s (j := 13) rfl rfl rfl ?_
            refine WL_s (j := 13) rfl rfl rfl ?_
            refine WL_s (j := 13) rfl rfl rfl ?_
            refine WL_y (Y_pick_t (.bool true) rfl rfl) ?_
            refine WL_y (Y_assign (.bool true) rfl) ?_
            refine WL_nil (nm_then ?_)
            exact ⟨M159, true, hF170, hS, hT160_1, rfl, hz⟩
          · replace hz := bif_ok_f hz hc171
            refine WL_gy rfl (bf hc171 rfl) (Y_fa fa38_1 hT160_1) ?_
            refine WL_gy rfl (bf hc171 rfl) (Y_ld1 (.int .i64 x1.node) ts3 rfl (hS.bvB 0 rfl) (GFrame.p1 (rep_root (k := 7) rfl hcx1))) ?_
            refine WL_gy rfl (bf hc171 rfl) (Y_geq rfl rfl) ?_
            refine WL_y (Y_pick_f (.bool (decide (x1.node ≥ 6))) (bf hc171 rfl) rfl) ?_
            refine WL_y (Y_move (.bool (decide (x1.node ≥ 6))) rfl) ?_
            rcases Bool.eq_false_or_eq_true (decide (x1.node ≥ 6)) with hc172 | hc172
            · replace hz := bif_ok_t hz hc172
              refine WL_s (j := 8) rfl (bt hc172 rfl) rfl ?_
              refine WL_s (j := 8) rfl (bt hc172 rfl) rfl ?_
              refine WL_s (j := 8) rfl (bt hc172 rfl) rfl ?_
              refine WL_y (Y_pick_t (.bool true) (bt hc172 rfl) rfl) ?_
              refine WL_y (Y_move (.bool true) rfl) ?_
              refine WL_s (j := 13) rfl rfl rfl ?_
              refine WL_s (j := 13) rfl rfl rfl ?_
              refine WL_s (j := 13) rfl rfl rfl ?_
              refine WL_y (Y_pick_t (.bool true) rfl rfl) ?_
              refine WL_y (Y_assign (.bool true) rfl) ?_
              refine WL_nil (nm_then ?_)
              exact ⟨M159, true, hF170, hS, hT160_1, rfl, hz⟩
            · replace hz := bif_ok_f hz hc172
              refine WL_gy rfl (bf hc172 rfl) (Y_fa fa38_2 hT160_1) ?_
              refine WL_gy rfl (bf hc172 rfl) (Y_ld1 (.int .i64 x1.id) ts3 rfl (hS.bvB 0 rfl) (GFrame.p2 (rep_root (k := 7) rfl hcx1))) ?_
              refine WL_gy rfl (bf hc172 rfl) (Y_lss rfl rfl) ?_
              refine WL_y (Y_pick_f (.bool (decide (x1.id < 0))) (bf hc172 rfl) rfl) ?_
              refine WL_y (Y_move (.bool (decide (x1.id < 0))) rfl) ?_
              rcases Bool.eq_false_or_eq_true (decide (x1.id < 0)) with hc173 | hc173
              · replace hz := bif_ok_t hz hc173
                refine WL_s (j := 13) rfl (bt hc173 rfl) rfl ?_
                refine WL_s (j := 13) rfl (bt hc173 rfl) rfl ?_
                refine WL_s (j := 13) rfl (bt hc173 rfl) rfl ?_
                refine WL_y (Y_pick_t (.bool true) (bt hc173 rfl) rfl) ?_
                refine WL_y (Y_assign (.bool true) rfl) ?_
                refine WL_nil (nm_then ?_)
                exact ⟨M159, true, hF170, hS, hT160_1, rfl, hz⟩
              · replace hz := bif_ok_f hz hc173
                refine WL_gy rfl (bf hc173 rfl) (Y_fa fa38_2 hT160_1) ?_
                refine WL_gy rfl (bf hc173 rfl) (Y_ld1 (.int .i64 x1.id) ts3 rfl (hS.bvB 0 rfl) (GFrame.p2 (rep_root (k := 7) rfl hcx1))) ?_
                refine WL_gy rfl (bf hc173 rfl) (Y_geq rfl rfl) ?_
                refine WL_y (Y_pick_f (.bool (decide (x1.id ≥ 32))) (bf hc173 rfl) rfl) ?_
                refine WL_y (Y_assign (.bool (decide (x1.id ≥ 32))) rfl) ?_
                refine WL_nil (nm_then ?_)
                exact ⟨M159, (decide (x1.id ≥ 32)), hF170, hS, hT160_1, rfl, hz⟩
        · rintro T166 w164 ⟨M165, c167, hx168, hS, hT166_1, hT166_16, hz⟩
          replace hcx1 := Rep.mono hx168.1 hcx1
          replace hE := Mm.ext.trans hE hx168
          replace hF157 := Mm.ext.trans hF157 hx168
          rw [wireGood_j11] at hz
          refine W_cond hT166_16 (fun hc169 => ?_) (fun hc169 => ?_)
          · replace hz := bif_ok_t hz hc169
            refine W_seq ?_
            refine W_reg ?_
            refine WL_y (Y_assign (.int .i64 2) rfl) ?_
            refine WL_nil (nm_then ?_)
            cases hz
            exact W_ret (rt_blk (rt_then (R_t1 rfl rfl ⟨rfl, (St.dropB hS hb3).kept⟩)))
          · replace hz := bif_ok_f hz hc169
            refine W_skip (nm_blk ?_)
            refine (nm_then ?_)
            exact ⟨M165, hF157, hS, hT166_1, hz⟩
  · rintro T6 w4 ⟨M5, hx7, hS, hT6_1, hz⟩
    replace hcx1 := Rep.mono hx7.1 hcx1
    replace hE := Mm.ext.trans hE hx7
    rw [wireGood_j1] at hz
    refine W_seqJ (fun T' w' => ∃ M9 c11, Mm.ext w.heap.size noX M5 M9 ∧ St w noX M9 [.box b3 cx1 38] w' ∧ T' 1 = .pointer (some ⟨b3, 0, none⟩) ∧ T' 3 = .bool c11 ∧ wireGood_j2 fu x1 c11 = some r) ?_ ?_
    · have hF155 := Mm.ext.refl w.heap.size noX M5
      refine W_reg ?_
      refine WL_y (Y_fa fa38_0 hT6_1) ?_
      refine WL_y (Y_ld1 (.int .i64 x1.kind) ts3 rfl (hS.bvB 0 rfl) (GFrame.p0 (rep_root (k := 7) rfl hcx1))) ?_
      refine WL_y (Y_eql rfl rfl) ?_
      refine WL_y (Y_move (.bool (x1.kind == 1)) rfl) ?_
      rcases Bool.eq_false_or_eq_true (x1.kind == 1) with hc156 | hc156
      · replace hz := bif_ok_t hz hc156
        refine WL_s (j := 3) rfl (bt hc156 rfl) rfl ?_
        refine WL_s (j := 3) rfl (bt hc156 rfl) rfl ?_
        refine WL_s (j := 3) rfl (bt hc156 rfl) rfl ?_
        refine WL_y (Y_pick_t (.bool true) (bt hc156 rfl) rfl) ?_
        refine WL_y (Y_assign (.bool true) rfl) ?_
        refine WL_nil (nm_then ?_)
        exact ⟨M5, true, hF155, hS, hT6_1, rfl, hz⟩
      · replace hz := bif_ok_f hz hc156
        refine WL_gy rfl (bf hc156 rfl) (Y_fa fa38_0 hT6_1) ?_
        refine WL_gy rfl (bf hc156 rfl) (Y_ld1 (.int .i64 x1.kind) ts3 rfl (hS.bvB 0 rfl) (GFrame.p0 (rep_root (k := 7) rfl hcx1))) ?_
        refine WL_gy rfl (bf hc156 rfl) (Y_eql rfl rfl) ?_
        refine WL_y (Y_pick_f (.bool (x1.kind == 3)) (bf hc156 rfl) rfl) ?_
        refine WL_y (Y_assign (.bool (x1.kind == 3)) rfl) ?_
        refine WL_nil (nm_then ?_)
        exact ⟨M5, (x1.kind == 3), hF155, hS, hT6_1, rfl, hz⟩
    · rintro T10 w8 ⟨M9, c11, hx12, hS, hT10_1, hT10_3, hz⟩
      replace hcx1 := Rep.mono hx12.1 hcx1
      replace hE := Mm.ext.trans hE hx12
      rw [wireGood_j2] at hz
      refine W_seqJ (fun T' w' => ∃ M14 c16, Mm.ext w.heap.size noX M9 M14 ∧ St w noX M14 [.box b3 cx1 38] w' ∧ T' 1 = .pointer (some ⟨b3, 0, none⟩) ∧ T' 3 = .bool c11 ∧ T' 4 = .bool c16 ∧ wireGood_j3 fu x1 c11 c16 = some r) ?_ ?_
      · have hF153 := Mm.ext.refl w.heap.size noX M9
        refine W_reg ?_
        refine WL_y (Y_fa fa38_0 hT10_1) ?_
        refine WL_y (Y_ld1 (.int .i64 x1.kind) ts3 rfl (hS.bvB 0 rfl) (GFrame.p0 (rep_root (k := 7) rfl hcx1))) ?_
        refine WL_y (Y_eql rfl rfl) ?_
        refine WL_y (Y_move (.bool (x1.kind == 2)) rfl) ?_
        rcases Bool.eq_false_or_eq_true (x1.kind == 2) with hc154 | hc154
        · replace hz := bif_ok_t hz hc154
          refine WL_s (j := 3) rfl (bt hc154 rfl) rfl ?_
          refine WL_s (j := 3) rfl (bt hc154 rfl) rfl ?_
          refine WL_s (j := 3) rfl (bt hc154 rfl) rfl ?_
          refine WL_y (Y_pick_t (.bool true) (bt hc154 rfl) rfl) ?_
          refine WL_y (Y_assign (.bool true) rfl) ?_
          refine WL_nil (nm_then ?_)
          exact ⟨M9, true, hF153, hS, hT10_1, hT10_3, rfl, hz⟩
        · replace hz := bif_ok_f hz hc154
          refine WL_gy rfl (bf hc154 rfl) (Y_fa fa38_0 hT10_1) ?_
          refine WL_gy rfl (bf hc154 rfl) (Y_ld1 (.int .i64 x1.kind) ts3 rfl (hS.bvB 0 rfl) (GFrame.p0 (rep_root (k := 7) rfl hcx1))) ?_
          refine WL_gy rfl (bf hc154 rfl) (Y_eql rfl rfl) ?_
          refine WL_y (Y_pick_f (.bool (x1.kind == 3)) (bf hc154 rfl) rfl) ?_
          refine WL_y (Y_assign (.bool (x1.kind == 3)) rfl) ?_
          refine WL_nil (nm_then ?_)
          exact ⟨M9, (x1.kind == 3), hF153, hS, hT10_1, hT10_3, rfl, hz⟩
      · rintro T15 w13 ⟨M14, c16, hx17, hS, hT15_1, hT15_3, hT15_4, hz⟩
        replace hcx1 := Rep.mono hx17.1 hcx1
        replace hE := Mm.ext.trans hE hx17
        rw [wireGood_j3] at hz
        refine W_seqJ (fun T' w' => ∃ M19, Mm.ext w.heap.size noX M14 M19 ∧ St w noX M19 [.box b3 cx1 38] w' ∧ T' 1 = .pointer (some ⟨b3, 0, none⟩) ∧ wireGood_j4 fu x1 = some r) ?_ ?_
        · have hF92 := Mm.ext.refl w.heap.size noX M14
          refine W_seqJ (fun T' w' => ∃ M94 c96, Mm.ext w.heap.size noX M14 M94 ∧ St w noX M94 [.box b3 cx1 38] w' ∧ T' 1 = .pointer (some ⟨b3, 0, none⟩) ∧ T' 88 = .bool c96 ∧ wireGood_j9 fu x1 c96 = some r) ?_ ?_
          · have hF99 := Mm.ext.refl w.heap.size noX M14
            refine W_reg ?_
            refine WL_y (Y_move (.bool c11) hT15_3) ?_
            refine WL_y (Y_fa fa38_3 hT15_1) ?_
            obtain ⟨v100, ev100, hv100⟩ := (GFrame.p3 (rep_root (k := 7) rfl hcx1))
            refine WL_y (Y_ld1 v100 ts22 rfl (hS.bvB 0 rfl) ev100) ?_
            obtain ⟨a101, c101, hv101, _⟩ := repL_shape hv100
            refine WL_y (Y_lenL Try.underlying22 (tr2 hv101 rfl)) ?_
            refine WL_y (Y_gtr rfl rfl) ?_
            refine WL_y (Y_neB rfl rfl Try.underlying4) ?_
            refine WL_y (Y_move (.bool (!(c11 == (decide ((x1.ops.length : Int) > 0))))) rfl) ?_
            rcases Bool.eq_false_or_eq_true (!(c11 == (decide ((x1.ops.length : Int) > 0)))) with hc102 | hc102
            · replace hz := bif_ok_t hz hc102
              refine WL_s (j := 6) rfl (bt hc102 rfl) rfl ?_
              refine WL_s (j := 6) rfl (bt hc102 rfl) rfl ?_
              refine WL_su (j := 8) rfl rfl ?_
              refine WL_su (j := 8) rfl rfl ?_
              refine WL_su (j := 8) rfl rfl ?_
              refine WL_su (j := 8) rfl rfl ?_
              refine WL_s (j := 6) rfl (bt hc102 rfl) rfl ?_
              refine WL_y (Y_pick_t (.bool true) (bt hc102 rfl) rfl) ?_
              refine WL_y (Y_move (.bool true) rfl) ?_
              refine WL_s (j := 15) rfl rfl rfl ?_
              refine WL_s (j := 15) rfl rfl rfl ?_
              refine WL_s (j := 15) rfl rfl rfl ?_
              refine WL_su (j := 18) rfl rfl ?_
              refine WL_su (j := 18) rfl rfl ?_
              refine WL_su (j := 18) rfl rfl ?_
              refine WL_su (j := 18) rfl rfl ?_
              refine WL_s (j := 15) rfl rfl rfl ?_
              refine WL_y (Y_pick_t (.bool true) rfl rfl) ?_
              refine WL_y (Y_move (.bool true) rfl) ?_
              refine WL_s (j := 25) rfl rfl rfl ?_
              refine WL_s (j := 25) rfl rfl rfl ?_
              refine WL_s (j := 25) rfl rfl rfl ?_
              refine WL_s (j := 25) rfl rfl rfl ?_
              refine WL_y (Y_pick_t (.bool true) rfl rfl) ?_
              refine WL_y (Y_move (.bool true) rfl) ?_
              refine WL_s (j := 31) rfl rfl rfl ?_
              refine WL_s (j := 31) rfl rfl rfl ?_
              refine WL_s (j := 31) rfl rfl rfl ?_
              refine WL_s (j := 31) rfl rfl rfl ?_
              refine WL_s (j := 31) rfl rfl rfl ?_
              refine WL_y (Y_pick_t (.bool true) rfl rfl) ?_
              refine WL_nil (nm_then ?_)
              exact ⟨M14, true, hF99, hS, hT15_1, rfl, hz⟩
            · replace hz := bif_ok_f hz hc102
              refine WL_gy rfl (bf hc102 rfl) (Y_move (.bool c11) hT15_3) ?_
              refine WL_gy rfl (bf hc102 rfl) (Y_move (.bool c11) rfl) ?_
              rcases Bool.eq_false_or_eq_true c11 with hc103 | hc103
              · replace hz := bif_ok_t hz hc103
                refine WL_gy rfl (bt hc103 rfl) (Y_fa fa38_3 hT15_1) ?_
                obtain ⟨v104, ev104, hv104⟩ := (GFrame.p3 (rep_root (k := 7) rfl hcx1))
                refine WL_gy rfl (bt hc103 rfl) (Y_ld1 v104 ts22 rfl (hS.bvB 0 rfl) ev104) ?_
                obtain ⟨r107, hr106, hz⟩ := bind_ok hz
                replace hr106 := Option.some.inj hr106
                refine WL_g rfl (bt hc103 rfl) (O_val (vs := [v104]) (v := .bool r107) cb38 (args1 rfl) hS (hr106 ▸ (c_goodOps hS.agree hv104)) ?_)
                intro w105 hS
                refine WL_gy rfl (bt hc103 rfl) (Y_not rfl) ?_
                refine WL_gy rfl (bf hc102 rfl) (Y_pick_t (.bool (!r107)) (bt hc103 rfl) rfl) ?_
                refine WL_y (Y_pick_f (.bool (!r107)) (bf hc102 rfl) rfl) ?_
                refine WL_y (Y_move (.bool (!r107)) rfl) ?_
                rcases Bool.eq_false_or_eq_true (!r107) with hc108 | hc108
                · replace hz := bif_ok_t hz hc108
                  refine WL_s (j := 15) rfl (bt hc108 rfl) rfl ?_
                  refine WL_s (j := 15) rfl (bt hc108 rfl) rfl ?_
                  refine WL_s (j := 15) rfl (bt hc108 rfl) rfl ?_
                  refine WL_su (j := 18) rfl rfl ?_
                  refine WL_su (j := 18) rfl rfl ?_
                  refine WL_su (j := 18) rfl rfl ?_
                  refine WL_su (j := 18) rfl rfl ?_
                  refine WL_s (j := 15) rfl (bt hc108 rfl) rfl ?_
                  refine WL_y (Y_pick_t (.bool true) (bt hc108 rfl) rfl) ?_
                  refine WL_y (Y_move (.bool true) rfl) ?_
                  refine WL_s (j := 25) rfl rfl rfl ?_
                  refine WL_s (j := 25) rfl rfl rfl ?_
                  refine WL_s (j := 25) rfl rfl rfl ?_
                  refine WL_s (j := 25) rfl rfl rfl ?_
                  refine WL_y (Y_pick_t (.bool true) rfl rfl) ?_
                  refine WL_y (Y_move (.bool true) rfl) ?_
                  refine WL_s (j := 31) rfl rfl rfl ?_
                  refine WL_s (j := 31) rfl rfl rfl ?_
                  refine WL_s (j := 31) rfl rfl rfl ?_
                  refine WL_s (j := 31) rfl rfl rfl ?_
                  refine WL_s (j := 31) rfl rfl rfl ?_
                  refine WL_y (Y_pick_t (.bool true) rfl rfl) ?_
                  refine WL_nil (nm_then ?_)
                  exact ⟨M14, true, hF99, hS, hT15_1, rfl, hz⟩
                · replace hz := bif_ok_f hz hc108
                  refine WL_gy rfl (bf hc108 rfl) (Y_move (.bool c16) hT15_4) ?_
                  refine WL_gy rfl (bf hc108 rfl) (Y_not rfl) ?_
                  refine WL_gy rfl (bf hc108 rfl) (Y_move (.bool (!c16)) rfl) ?_
                  rcases Bool.eq_false_or_eq_true (!c16) with hc109 | hc109
                  · replace hz := bif_ok_t hz hc109
                    refine WL_gy rfl (bt hc109 rfl) (Y_fa fa38_4 hT15_1) ?_
                    obtain ⟨v110, ev110, hv110⟩ := (GFrame.p4 (rep_root (k := 7) rfl hcx1))
                    refine WL_gy rfl (bt hc109 rfl) (Y_ld1 v110 ts27 rfl (hS.bvB 0 rfl) ev110) ?_
                    obtain ⟨a111, c111, hv111, _⟩ := repL_shape hv110
                    refine WL_gy rfl (bt hc109 rfl) (Y_lenL Try.underlying27 (tr2 hv111 rfl)) ?_
                    refine WL_gy rfl (bt hc109 rfl) (Y_gtr rfl rfl) ?_
                    refine WL_gy rfl (bf hc108 rfl) (Y_pick_t (.bool (decide ((x1.deps.length : Int) > 0))) (bt hc109 rfl) rfl) ?_
                    refine WL_y (Y_pick_f (.bool (decide ((x1.deps.length : Int) > 0))) (bf hc108 rfl) rfl) ?_
                    refine WL_y (Y_move (.bool (decide ((x1.deps.length : Int) > 0))) rfl) ?_
                    rcases Bool.eq_false_or_eq_true (decide ((x1.deps.length : Int) > 0)) with hc112 | hc112
                    · replace hz := bif_ok_t hz hc112
                      refine WL_s (j := 25) rfl (bt hc112 rfl) rfl ?_
                      refine WL_s (j := 25) rfl (bt hc112 rfl) rfl ?_
                      refine WL_s (j := 25) rfl (bt hc112 rfl) rfl ?_
                      refine WL_s (j := 25) rfl (bt hc112 rfl) rfl ?_
                      refine WL_y (Y_pick_t (.bool true) (bt hc112 rfl) rfl) ?_
                      refine WL_y (Y_move (.bool true) rfl) ?_
                      refine WL_s (j := 31) rfl rfl rfl ?_
                      refine WL_s (j := 31) rfl rfl rfl ?_
                      refine WL_s (j := 31) rfl rfl rfl ?_
                      refine WL_s (j := 31) rfl rfl rfl ?_
                      refine WL_s (j := 31) rfl rfl rfl ?_
                      refine WL_y (Y_pick_t (.bool true) rfl rfl) ?_
                      refine WL_nil (nm_then ?_)
                      exact ⟨M14, true, hF99, hS, hT15_1, rfl, hz⟩
                    · replace hz := bif_ok_f hz hc112
                      refine WL_gy rfl (bf hc112 rfl) (Y_fa fa38_4 hT15_1) ?_
                      obtain ⟨v113, ev113, hv113⟩ := (GFrame.p4 (rep_root (k := 7) rfl hcx1))
                      refine WL_gy rfl (bf hc112 rfl) (Y_ld1 v113 ts27 rfl (hS.bvB 0 rfl) ev113) ?_
                      obtain ⟨r116, hr115, hz⟩ := bind_ok hz
                      replace hr115 := Option.some.inj hr115
                      refine WL_g rfl (bf hc112 rfl) (O_val (vs := [v113]) (v := .bool r116) cb62 (args1 rfl) hS (hr115 ▸ (c_rising hS.agree hv113)) ?_)
                      intro w114 hS
                      refine WL_gy rfl (bf hc112 rfl) (Y_not rfl) ?_
                      refine WL_y (Y_pick_f (.bool (!r116)) (bf hc112 rfl) rfl) ?_
                      refine WL_y (Y_move (.bool (!r116)) rfl) ?_
                      rcases Bool.eq_false_or_eq_true (!r116) with hc117 | hc117
                      · replace hz := bif_ok_t hz hc117
                        refine WL_s (j := 31) rfl (bt hc117 rfl) rfl ?_
                        refine WL_s (j := 31) rfl (bt hc117 rfl) rfl ?_
                        refine WL_s (j := 31) rfl (bt hc117 rfl) rfl ?_
                        refine WL_s (j := 31) rfl (bt hc117 rfl) rfl ?_
                        refine WL_s (j := 31) rfl (bt hc117 rfl) rfl ?_
                        refine WL_y (Y_pick_t (.bool true) (bt hc117 rfl) rfl) ?_
                        refine WL_nil (nm_then ?_)
                        exact ⟨M14, true, hF99, hS, hT15_1, rfl, hz⟩
                      · replace hz := bif_ok_f hz hc117
                        refine WL_gy rfl (bf hc117 rfl) (Y_fa fa38_4 hT15_1) ?_
                        obtain ⟨v118, ev118, hv118⟩ := (GFrame.p4 (rep_root (k := 7) rfl hcx1))
                        refine WL_gy rfl (bf hc117 rfl) (Y_ld1 v118 ts27 rfl (hS.bvB 0 rfl) ev118) ?_
                        refine WL_gy rfl (bf hc117 rfl) (Y_fa fa38_2 hT15_1) ?_
                        refine WL_gy rfl (bf hc117 rfl) (Y_ld1 (.int .i64 x1.id) ts3 rfl (hS.bvB 0 rfl) (GFrame.p2 (rep_root (k := 7) rfl hcx1))) ?_
                        obtain ⟨r121, hr120, hz⟩ := bind_ok hz
                        replace hr120 := Option.some.inj hr120
                        refine WL_g rfl (bf hc117 rfl) (O_val (vs := [v118, .int .i64 x1.id]) (v := .bool r121) cb42 (args2 rfl rfl) hS (hr120 ▸ (c_contains hS.agree hv118)) ?_)
                        intro w119 hS
                        refine WL_y (Y_pick_f (.bool r121) (bf hc117 rfl) rfl) ?_
                        refine WL_nil (nm_then ?_)
                        exact ⟨M14, r121, hF99, hS, hT15_1, rfl, hz⟩
                  · replace hz := bif_ok_f hz hc109
                    refine WL_s (j := 18) rfl (bf hc109 rfl) rfl ?_
                    refine WL_s (j := 18) rfl (bf hc109 rfl) rfl ?_
                    refine WL_s (j := 18) rfl (bf hc109 rfl) rfl ?_
                    refine WL_s (j := 18) rfl (bf hc109 rfl) rfl ?_
                    refine WL_gy rfl (bf hc108 rfl) (Y_pick_f (.bool false) (bf hc109 rfl) rfl) ?_
                    refine WL_y (Y_pick_f (.bool false) (bf hc108 rfl) rfl) ?_
                    refine WL_y (Y_move (.bool false) rfl) ?_
                    refine WL_gy rfl rfl (Y_fa fa38_4 hT15_1) ?_
                    obtain ⟨v122, ev122, hv122⟩ := (GFrame.p4 (rep_root (k := 7) rfl hcx1))
                    refine WL_gy rfl rfl (Y_ld1 v122 ts27 rfl (hS.bvB 0 rfl) ev122) ?_
                    obtain ⟨r125, hr124, hz⟩ := bind_ok hz
                    replace hr124 := Option.some.inj hr124
                    refine WL_g rfl rfl (O_val (vs := [v122]) (v := .bool r125) cb62 (args1 rfl) hS (hr124 ▸ (c_rising hS.agree hv122)) ?_)
                    intro w123 hS
                    refine WL_gy rfl rfl (Y_not rfl) ?_
                    refine WL_y (Y_pick_f (.bool (!r125)) rfl rfl) ?_
                    refine WL_y (Y_move (.bool (!r125)) rfl) ?_
                    rcases Bool.eq_false_or_eq_true (!r125) with hc126 | hc126
                    · replace hz := bif_ok_t hz hc126
                      refine WL_s (j := 31) rfl (bt hc126 rfl) rfl ?_
                      refine WL_s (j := 31) rfl (bt hc126 rfl) rfl ?_
                      refine WL_s (j := 31) rfl (bt hc126 rfl) rfl ?_
                      refine WL_s (j := 31) rfl (bt hc126 rfl) rfl ?_
                      refine WL_s (j := 31) rfl (bt hc126 rfl) rfl ?_
                      refine WL_y (Y_pick_t (.bool true) (bt hc126 rfl) rfl) ?_
                      refine WL_nil (nm_then ?_)
                      exact ⟨M14, true, hF99, hS, hT15_1, rfl, hz⟩
                    · replace hz := bif_ok_f hz hc126
                      refine WL_gy rfl (bf hc126 rfl) (Y_fa fa38_4 hT15_1) ?_
                      obtain ⟨v127, ev127, hv127⟩ := (GFrame.p4 (rep_root (k := 7) rfl hcx1))
                      refine WL_gy rfl (bf hc126 rfl) (Y_ld1 v127 ts27 rfl (hS.bvB 0 rfl) ev127) ?_
                      refine WL_gy rfl (bf hc126 rfl) (Y_fa fa38_2 hT15_1) ?_
                      refine WL_gy rfl (bf hc126 rfl) (Y_ld1 (.int .i64 x1.id) ts3 rfl (hS.bvB 0 rfl) (GFrame.p2 (rep_root (k := 7) rfl hcx1))) ?_
                      obtain ⟨r130, hr129, hz⟩ := bind_ok hz
                      replace hr129 := Option.some.inj hr129
                      refine WL_g rfl (bf hc126 rfl) (O_val (vs := [v127, .int .i64 x1.id]) (v := .bool r130) cb42 (args2 rfl rfl) hS (hr129 ▸ (c_contains hS.agree hv127)) ?_)
                      intro w128 hS
                      refine WL_y (Y_pick_f (.bool r130) (bf hc126 rfl) rfl) ?_
                      refine WL_nil (nm_then ?_)
                      exact ⟨M14, r130, hF99, hS, hT15_1, rfl, hz⟩
              · replace hz := bif_ok_f hz hc103
                refine WL_s (j := 8) rfl (bf hc103 rfl) rfl ?_
                refine WL_s (j := 8) rfl (bf hc103 rfl) rfl ?_
                refine WL_s (j := 8) rfl (bf hc103 rfl) rfl ?_
                refine WL_s (j := 8) rfl (bf hc103 rfl) rfl ?_
                refine WL_gy rfl (bf hc102 rfl) (Y_pick_f (.bool false) (bf hc103 rfl) rfl) ?_
                refine WL_y (Y_pick_f (.bool false) (bf hc102 rfl) rfl) ?_
                refine WL_y (Y_move (.bool false) rfl) ?_
                refine WL_gy rfl rfl (Y_move (.bool c16) hT15_4) ?_
                refine WL_gy rfl rfl (Y_not rfl) ?_
                refine WL_gy rfl rfl (Y_move (.bool (!c16)) rfl) ?_
                rcases Bool.eq_false_or_eq_true (!c16) with hc131 | hc131
                · replace hz := bif_ok_t hz hc131
                  refine WL_gy rfl (bt hc131 rfl) (Y_fa fa38_4 hT15_1) ?_
                  obtain ⟨v132, ev132, hv132⟩ := (GFrame.p4 (rep_root (k := 7) rfl hcx1))
                  refine WL_gy rfl (bt hc131 rfl) (Y_ld1 v132 ts27 rfl (hS.bvB 0 rfl) ev132) ?_
                  obtain ⟨a133, c133, hv133, _⟩ := repL_shape hv132
                  refine WL_gy rfl (bt hc131 rfl) (Y_lenL Try.underlying27 (tr2 hv133 rfl)) ?_
                  refine WL_gy rfl (bt hc131 rfl) (Y_gtr rfl rfl) ?_
                  refine WL_gy rfl rfl (Y_pick_t (.bool (decide ((x1.deps.length : Int) > 0))) (bt hc131 rfl) rfl) ?_
                  refine WL_y (Y_pick_f (.bool (decide ((x1.deps.length : Int) > 0))) rfl rfl) ?_
                  refine WL_y (Y_move (.bool (decide ((x1.deps.length : Int) > 0))) rfl) ?_
                  rcases Bool.eq_false_or_eq_true (decide ((x1.deps.length : Int) > 0)) with hc134 | hc134
                  · replace hz := bif_ok_t hz hc134
                    refine WL_s (j := 25) rfl (bt hc134 rfl) rfl ?_
                    refine WL_s (j := 25) rfl (bt hc134 rfl) rfl ?_
                    refine WL_s (j := 25) rfl (bt hc134 rfl) rfl ?_
                    refine WL_s (j := 25) rfl (bt hc134 rfl) rfl ?_
                    refine WL_y (Y_pick_t (.bool true) (bt hc134 rfl) rfl) ?_
                    refine WL_y (Y_move (.bool true) rfl) ?_
                    refine WL_s (j := 31) rfl rfl rfl ?_
                    refine WL_s (j := 31) rfl rfl rfl ?_
                    refine WL_s (j := 31) rfl rfl rfl ?_
                    refine WL_s (j := 31) rfl rfl rfl ?_
                    refine WL_s (j := 31) rfl rfl rfl ?_
                    refine WL_y (Y_pick_t (.bool true) rfl rfl) ?_
                    refine WL_nil (nm_then ?_)
                    exact ⟨M14, true, hF99, hS, hT15_1, rfl, hz⟩
                  · replace hz := bif_ok_f hz hc134
                    refine WL_gy rfl (bf hc134 rfl) (Y_fa fa38_4 hT15_1) ?_
                    obtain ⟨v135, ev135, hv135⟩ := (GFrame.p4 (rep_root (k := 7) rfl hcx1))
                    refine WL_gy rfl (bf hc134 rfl) (Y_ld1 v135 ts27 rfl (hS.bvB 0 rfl) ev135) ?_
                    obtain ⟨r138, hr137, hz⟩ := bind_ok hz
                    replace hr137 := Option.some.inj hr137
                    refine WL_g rfl (bf hc134 rfl) (O_val (vs := [v135]) (v := .bool r138) cb62 (args1 rfl) hS (hr137 ▸ (c_rising hS.agree hv135)) ?_)
                    intro w136 hS
                    refine WL_gy rfl (bf hc134 rfl) (Y_not rfl) ?_
                    refine WL_y (Y_pick_f (.bool (!r138)) (bf hc134 rfl) rfl) ?_
                    refine WL_y (Y_move (.bool (!r138)) rfl) ?_
                    rcases Bool.eq_false_or_eq_true (!r138) with hc139 | hc139
                    · replace hz := bif_ok_t hz hc139
                      refine WL_s (j := 31) rfl (bt hc139 rfl) rfl ?_
                      refine WL_s (j := 31) rfl (bt hc139 rfl) rfl ?_
                      refine WL_s (j := 31) rfl (bt hc139 rfl) rfl ?_
                      refine WL_s (j := 31) rfl (bt hc139 rfl) rfl ?_
                      refine WL_s (j := 31) rfl (bt hc139 rfl) rfl ?_
                      refine WL_y (Y_pick_t (.bool true) (bt hc139 rfl) rfl) ?_
                      refine WL_nil (nm_then ?_)
                      exact ⟨M14, true, hF99, hS, hT15_1, rfl, hz⟩
                    · replace hz := bif_ok_f hz hc139
                      refine WL_gy rfl (bf hc139 rfl) (Y_fa fa38_4 hT15_1) ?_
                      obtain ⟨v140, ev140, hv140⟩ := (GFrame.p4 (rep_root (k := 7) rfl hcx1))
                      refine WL_gy rfl (bf hc139 rfl) (Y_ld1 v140 ts27 rfl (hS.bvB 0 rfl) ev140) ?_
                      refine WL_gy rfl (bf hc139 rfl) (Y_fa fa38_2 hT15_1) ?_
                      refine WL_gy rfl (bf hc139 rfl) (Y_ld1 (.int .i64 x1.id) ts3 rfl (hS.bvB 0 rfl) (GFrame.p2 (rep_root (k := 7) rfl hcx1))) ?_
                      obtain ⟨r143, hr142, hz⟩ := bind_ok hz
                      replace hr142 := Option.some.inj hr142
                      refine WL_g rfl (bf hc139 rfl) (O_val (vs := [v140, .int .i64 x1.id]) (v := .bool r143) cb42 (args2 rfl rfl) hS (hr142 ▸ (c_contains hS.agree hv140)) ?_)
                      intro w141 hS
                      refine WL_y (Y_pick_f (.bool r143) (bf hc139 rfl) rfl) ?_
                      refine WL_nil (nm_then ?_)
                      exact ⟨M14, r143, hF99, hS, hT15_1, rfl, hz⟩
                · replace hz := bif_ok_f hz hc131
                  refine WL_s (j := 18) rfl (bf hc131 rfl) rfl ?_
                  refine WL_s (j := 18) rfl (bf hc131 rfl) rfl ?_
                  refine WL_s (j := 18) rfl (bf hc131 rfl) rfl ?_
                  refine WL_s (j := 18) rfl (bf hc131 rfl) rfl ?_
                  refine WL_gy rfl rfl (Y_pick_f (.bool false) (bf hc131 rfl) rfl) ?_
                  refine WL_y (Y_pick_f (.bool false) rfl rfl) ?_
                  refine WL_y (Y_move (.bool false) rfl) ?_
                  refine WL_gy rfl rfl (Y_fa fa38_4 hT15_1) ?_
                  obtain ⟨v144, ev144, hv144⟩ := (GFrame.p4 (rep_root (k := 7) rfl hcx1))
                  refine WL_gy rfl rfl (Y_ld1 v144 ts27 rfl (hS.bvB 0 rfl) ev144) ?_
                  obtain ⟨r147, hr146, hz⟩ := bind_ok hz
                  replace hr146 := Option.some.inj hr146
                  refine WL_g rfl rfl (O_val (vs := [v144]) (v := .bool r147) cb62 (args1 rfl) hS (hr146 ▸ (c_rising hS.agree hv144)) ?_)
                  intro w145 hS
                  refine WL_gy rfl rfl (Y_not rfl) ?_
                  refine WL_y (Y_pick_f (.bool (!r147)) rfl rfl) ?_
                  refine WL_y (Y_move (.bool (!r147)) rfl) ?_
                  rcases Bool.eq_false_or_eq_true (!r147) with hc148 | hc148
                  · replace hz := bif_ok_t hz hc148
                    refine WL_s (j := 31) rfl (bt hc148 rfl) rfl ?_
                    refine WL_s (j := 31) rfl (bt hc148 rfl) rfl ?_
                    refine WL_s (j := 31) rfl (bt hc148 rfl) rfl ?_
                    refine WL_s (j := 31) rfl (bt hc148 rfl) rfl ?_
                    refine WL_s (j := 31) rfl (bt hc148 rfl) rfl ?_
                    refine WL_y (Y_pick_t (.bool true) (bt hc148 rfl) rfl) ?_
                    refine WL_nil (nm_then ?_)
                    exact ⟨M14, true, hF99, hS, hT15_1, rfl, hz⟩
                  · replace hz := bif_ok_f hz hc148
                    refine WL_gy rfl (bf hc148 rfl) (Y_fa fa38_4 hT15_1) ?_
                    obtain ⟨v149, ev149, hv149⟩ := (GFrame.p4 (rep_root (k := 7) rfl hcx1))
                    refine WL_gy rfl (bf hc148 rfl) (Y_ld1 v149 ts27 rfl (hS.bvB 0 rfl) ev149) ?_
                    refine WL_gy rfl (bf hc148 rfl) (Y_fa fa38_2 hT15_1) ?_
                    refine WL_gy rfl (bf hc148 rfl) (Y_ld1 (.int .i64 x1.id) ts3 rfl (hS.bvB 0 rfl) (GFrame.p2 (rep_root (k := 7) rfl hcx1))) ?_
                    obtain ⟨r152, hr151, hz⟩ := bind_ok hz
                    replace hr151 := Option.some.inj hr151
                    refine WL_g rfl (bf hc148 rfl) (O_val (vs := [v149, .int .i64 x1.id]) (v := .bool r152) cb42 (args2 rfl rfl) hS (hr151 ▸ (c_contains hS.agree hv149)) ?_)
                    intro w150 hS
                    refine WL_y (Y_pick_f (.bool r152) (bf hc148 rfl) rfl) ?_
                    refine WL_nil (nm_then ?_)
                    exact ⟨M14, r152, hF99, hS, hT15_1, rfl, hz⟩
          · rintro T95 w93 ⟨M94, c96, hx97, hS, hT95_1, hT95_88, hz⟩
            replace hcx1 := Rep.mono hx97.1 hcx1
            replace hE := Mm.ext.trans hE hx97
            replace hF92 := Mm.ext.trans hF92 hx97
            rw [wireGood_j9] at hz
            refine W_cond hT95_88 (fun hc98 => ?_) (fun hc98 => ?_)
            · replace hz := bif_ok_t hz hc98
              refine W_seq ?_
              refine W_reg ?_
              refine WL_y (Y_assign (.int .i64 1) rfl) ?_
              refine WL_nil (nm_then ?_)
              cases hz
              exact W_ret (rt_then (R_t1 rfl rfl ⟨rfl, (St.dropB hS hb3).kept⟩))
            · replace hz := bif_ok_f hz hc98
              refine W_skip (nm_then ?_)
              exact ⟨M94, hF92, hS, hT95_1, hz⟩
        · rintro T20 w18 ⟨M19, hx21, hS, hT20_1, hz⟩
          replace hcx1 := Rep.mono hx21.1 hcx1
          replace hE := Mm.ext.trans hE hx21
          rw [wireGood_j4] at hz
          refine W_seqJ (fun T' w' => ∃ M23, Mm.ext w.heap.size noX M19 M23 ∧ St w noX M23 [.box b3 cx1 38] w' ∧ T' 1 = .pointer (some ⟨b3, 0, none⟩) ∧ wireGood_j5 fu x1 = some r) ?_ ?_
          · have hF72 := Mm.ext.refl w.heap.size noX M19
            refine W_seqJ (fun T' w' => ∃ M74 c76, Mm.ext w.heap.size noX M19 M74 ∧ St w noX M74 [.box b3 cx1 38] w' ∧ T' 1 = .pointer (some ⟨b3, 0, none⟩) ∧ T' 106 = .bool c76 ∧ wireGood_j8 fu x1 c76 = some r) ?_ ?_
            · have hF79 := Mm.ext.refl w.heap.size noX M19
              refine W_reg ?_
              refine WL_y (Y_fa fa38_0 hT20_1) ?_
              refine WL_y (Y_ld1 (.int .i64 x1.kind) ts3 rfl (hS.bvB 0 rfl) (GFrame.p0 (rep_root (k := 7) rfl hcx1))) ?_
              refine WL_y (Y_neq rfl rfl) ?_
              refine WL_y (Y_move (.bool (x1.kind != 5)) rfl) ?_
              rcases Bool.eq_false_or_eq_true (x1.kind != 5) with hc80 | hc80
              · replace hz := bif_ok_t hz hc80
                refine WL_gy rfl (bt hc80 rfl) (Y_fa fa38_5 hT20_1) ?_
                obtain ⟨v81, ev81, hv81⟩ := (GFrame.p5 (rep_root (k := 7) rfl hcx1))
                refine WL_gy rfl (bt hc80 rfl) (Y_ld1 v81 ts27 rfl (hS.bvB 0 rfl) ev81) ?_
                obtain ⟨a82, c82, hv82, _⟩ := repL_shape hv81
                refine WL_gy rfl (bt hc80 rfl) (Y_lenL Try.underlying27 (tr2 hv82 rfl)) ?_
                refine WL_gy rfl (bt hc80 rfl) (Y_gtr rfl rfl) ?_
                refine WL_y (Y_pick_t (.bool (decide ((x1.at_.length : Int) > 0))) (bt hc80 rfl) rfl) ?_
                refine WL_y (Y_move (.bool (decide ((x1.at_.length : Int) > 0))) rfl) ?_
                rcases Bool.eq_false_or_eq_true (decide ((x1.at_.length : Int) > 0)) with hc83 | hc83
                · replace hz := bif_ok_t hz hc83
                  refine WL_s (j := 9) rfl (bt hc83 rfl) rfl ?_
                  refine WL_s (j := 9) rfl (bt hc83 rfl) rfl ?_
                  refine WL_s (j := 9) rfl (bt hc83 rfl) rfl ?_
                  refine WL_s (j := 9) rfl (bt hc83 rfl) rfl ?_
                  refine WL_s (j := 9) rfl (bt hc83 rfl) rfl ?_
                  refine WL_s (j := 9) rfl (bt hc83 rfl) rfl ?_
                  refine WL_s (j := 9) rfl (bt hc83 rfl) rfl ?_
                  refine WL_y (Y_pick_t (.bool true) (bt hc83 rfl) rfl) ?_
                  refine WL_nil (nm_then ?_)
                  exact ⟨M19, true, hF79, hS, hT20_1, rfl, hz⟩
                · replace hz := bif_ok_f hz hc83
                  refine WL_gy rfl (bf hc83 rfl) (Y_fa fa38_5 hT20_1) ?_
                  obtain ⟨v84, ev84, hv84⟩ := (GFrame.p5 (rep_root (k := 7) rfl hcx1))
                  refine WL_gy rfl (bf hc83 rfl) (Y_ld1 v84 ts27 rfl (hS.bvB 0 rfl) ev84) ?_
                  obtain ⟨a85, c85, hv85, _⟩ := repL_shape hv84
                  refine WL_gy rfl (bf hc83 rfl) (Y_lenL Try.underlying27 (tr2 hv85 rfl)) ?_
                  refine WL_gy rfl (bf hc83 rfl) (Y_fa fa38_6 hT20_1) ?_
                  obtain ⟨v86, ev86, hv86⟩ := (GFrame.p6 (rep_root (k := 7) rfl hcx1))
                  refine WL_gy rfl (bf hc83 rfl) (Y_ld1 v86 ts27 rfl (hS.bvB 0 rfl) ev86) ?_
                  obtain ⟨a87, c87, hv87, _⟩ := repL_shape hv86
                  refine WL_gy rfl (bf hc83 rfl) (Y_lenL Try.underlying27 (tr2 hv87 rfl)) ?_
                  refine WL_gy rfl (bf hc83 rfl) (Y_neq rfl rfl) ?_
                  refine WL_y (Y_pick_f (.bool ((x1.at_.length : Int) != (x1.vals.length : Int))) (bf hc83 rfl) rfl) ?_
                  refine WL_nil (nm_then ?_)
                  exact ⟨M19, ((x1.at_.length : Int) != (x1.vals.length : Int)), hF79, hS, hT20_1, rfl, hz⟩
              · replace hz := bif_ok_f hz hc80
                refine WL_s (j := 3) rfl (bf hc80 rfl) rfl ?_
                refine WL_s (j := 3) rfl (bf hc80 rfl) rfl ?_
                refine WL_s (j := 3) rfl (bf hc80 rfl) rfl ?_
                refine WL_s (j := 3) rfl (bf hc80 rfl) rfl ?_
                refine WL_y (Y_pick_f (.bool false) (bf hc80 rfl) rfl) ?_
                refine WL_y (Y_move (.bool false) rfl) ?_
                refine WL_gy rfl rfl (Y_fa fa38_5 hT20_1) ?_
                obtain ⟨v88, ev88, hv88⟩ := (GFrame.p5 (rep_root (k := 7) rfl hcx1))
                refine WL_gy rfl rfl (Y_ld1 v88 ts27 rfl (hS.bvB 0 rfl) ev88) ?_
                obtain ⟨a89, c89, hv89, _⟩ := repL_shape hv88
                refine WL_gy rfl rfl (Y_lenL Try.underlying27 (tr2 hv89 rfl)) ?_
                refine WL_gy rfl rfl (Y_fa fa38_6 hT20_1) ?_
                obtain ⟨v90, ev90, hv90⟩ := (GFrame.p6 (rep_root (k := 7) rfl hcx1))
                refine WL_gy rfl rfl (Y_ld1 v90 ts27 rfl (hS.bvB 0 rfl) ev90) ?_
                obtain ⟨a91, c91, hv91, _⟩ := repL_shape hv90
                refine WL_gy rfl rfl (Y_lenL Try.underlying27 (tr2 hv91 rfl)) ?_
                refine WL_gy rfl rfl (Y_neq rfl rfl) ?_
                refine WL_y (Y_pick_f (.bool ((x1.at_.length : Int) != (x1.vals.length : Int))) rfl rfl) ?_
                refine WL_nil (nm_then ?_)
                exact ⟨M19, ((x1.at_.length : Int) != (x1.vals.length : Int)), hF79, hS, hT20_1, rfl, hz⟩
            · rintro T75 w73 ⟨M74, c76, hx77, hS, hT75_1, hT75_106, hz⟩
              replace hcx1 := Rep.mono hx77.1 hcx1
              replace hE := Mm.ext.trans hE hx77
              replace hF72 := Mm.ext.trans hF72 hx77
              rw [wireGood_j8] at hz
              refine W_cond hT75_106 (fun hc78 => ?_) (fun hc78 => ?_)
              · replace hz := bif_ok_t hz hc78
                refine W_seq ?_
                refine W_reg ?_
                refine WL_y (Y_assign (.int .i64 1) rfl) ?_
                refine WL_nil (nm_then ?_)
                cases hz
                exact W_ret (rt_then (R_t1 rfl rfl ⟨rfl, (St.dropB hS hb3).kept⟩))
              · replace hz := bif_ok_f hz hc78
                refine W_skip (nm_then ?_)
                exact ⟨M74, hF72, hS, hT75_1, hz⟩
          · rintro T24 w22 ⟨M23, hx25, hS, hT24_1, hz⟩
            replace hcx1 := Rep.mono hx25.1 hcx1
            replace hE := Mm.ext.trans hE hx25
            rw [wireGood_j5] at hz
            refine W_seq ?_
            refine W_seq ?_
            refine W_reg ?_
            refine WL_y (Y_fa fa38_5 hT24_1) ?_
            obtain ⟨v26, ev26, hv26⟩ := (GFrame.p5 (rep_root (k := 7) rfl hcx1))
            refine WL_y (Y_ld1 v26 ts27 rfl (hS.bvB 0 rfl) ev26) ?_
            obtain ⟨a27, c27, hv27, _⟩ := repL_shape hv26
            refine WL_y (Y_lenL Try.underlying27 (tr2 hv27 rfl)) ?_
            refine WL_y (Y_move (.int .i64 0) rfl) ?_
            refine WL_nil (nm_then ?_)
            refine W_block ?_
            refine W_loop (fun k33 T' w' => ∃ M29 y31, Mm.ext w.heap.size noX M23 M29 ∧ St w noX M29 [.box b3 cx1 38] w' ∧ T' 1 = .pointer (some ⟨b3, 0, none⟩) ∧ T' 108 = v26 ∧ T' 109 = .int .i64 (x1.at_.length : Int) ∧ T' 110 = .int .i64 y31 ∧ wireGood_l1 x1 k33 y31 = some r) fu ?_ ?_ ?_
            · exact ⟨M23, (0 : Int), (Mm.ext.refl _ _ _), hS, hT24_1, rfl, rfl, rfl, hz⟩
            · rintro T' w' ⟨_, _, _, _, _, _, _, _, hz⟩
              rw [wireGood_l1] at hz
              cases hz
            · intro k33
              rintro T30 w28 ⟨M29, y31, hx35, hS, hT30_1, hT30_108, hT30_109, hT30_110, hz⟩
              replace hcx1 := Rep.mono hx35.1 hcx1
              replace hv26 := repL.mono hx35.1 hv26
              replace hE := Mm.ext.trans hE hx35
              have hF34 := hx35
              rw [wireGood_l1] at hz
              obtain ⟨rec32, hrec32⟩ : ∃ f, f = wireGood_l1 x1 k33 := ⟨_, rfl⟩
              rw [← hrec32] at hz
              refine W_seq ?_
              refine W_reg ?_
              refine WL_y (Y_lss hT30_110 hT30_109) ?_
              refine WL_nil (nm_then ?_)
              refine W_seq ?_
              refine W_cond rfl (fun hc36 => ?_) (fun hc36 => ?_)
              · replace hz := bif_ok_t hz hc36
                refine W_skip (nm_then ?_)
                refine W_seqJ (fun T' w' => ∃ M38, Mm.ext w.heap.size noX M29 M38 ∧ St w noX M38 [.box b3 cx1 38] w' ∧ T' 1 = .pointer (some ⟨b3, 0, none⟩) ∧ T' 108 = v26 ∧ T' 109 = .int .i64 (x1.at_.length : Int) ∧ T' 110 = .int .i64 y31 ∧ wireGood_j6 y31 rec32 = some r) ?_ ?_
                · have hF41 := Mm.ext.refl w.heap.size noX M29
                  refine W_block ?_
                  refine W_seq ?_
                  refine W_reg ?_
                  refine WL_y (Y_move (.int .i64 y31) hT30_110) ?_
                  obtain ⟨x43, hx42, hz⟩ := bind_ok hz
                  obtain ⟨b42, o42, c42, p42, hv42, hi42, hj42, hM42, hr42⟩ := repL_at hv26 hx42
                  replace hr42 : rep _ (sl p42 (o42 + Int.toNat y31 * 1) 1) x43 := hr42
                  refine WL_y (Y_ixL il27 hT30_108 hv42 hT30_110 hi42 hj42) ?_
                  refine WL_y (Y_ld1 (.int .i64 x43) ts3 rfl (hS.bvM hM42) hr42) ?_
                  refine WL_y (Y_assign (.int .i64 y31) rfl) ?_
                  refine WL_y (Y_assign (.int .i64 x43) rfl) ?_
                  refine WL_nil (nm_then ?_)
                  refine W_seqJ (fun T' w' => ∃ M45 c47, Mm.ext w.heap.size noX M29 M45 ∧ St w noX M45 [.box b3 cx1 38] w' ∧ T' 1 = .pointer (some ⟨b3, 0, none⟩) ∧ T' 108 = v26 ∧ T' 109 = .int .i64 (x1.at_.length : Int) ∧ T' 110 = .int .i64 y31 ∧ T' 150 = .bool c47 ∧ wireGood_j7 y31 rec32 c47 = some r) ?_ ?_
                  · have hF50 := Mm.ext.refl w.heap.size noX M29
                    refine W_reg ?_
                    refine WL_y (Y_move (.int .i64 x43) rfl) ?_
                    refine WL_y (Y_lss rfl rfl) ?_
                    refine WL_y (Y_move (.bool (decide (x43 < 0))) rfl) ?_
                    rcases Bool.eq_false_or_eq_true (decide (x43 < 0)) with hc51 | hc51
                    · replace hz := bif_ok_t hz hc51
                      refine WL_s (j := 2) rfl (bt hc51 rfl) rfl ?_
                      refine WL_s (j := 2) rfl (bt hc51 rfl) rfl ?_
                      refine WL_y (Y_pick_t (.bool true) (bt hc51 rfl) rfl) ?_
                      refine WL_y (Y_move (.bool true) rfl) ?_
                      refine WL_s (j := 6) rfl rfl rfl ?_
                      refine WL_s (j := 6) rfl rfl rfl ?_
                      refine WL_s (j := 6) rfl rfl rfl ?_
                      refine WL_su (j := 9) rfl rfl ?_
                      refine WL_su (j := 9) rfl rfl ?_
                      refine WL_su (j := 9) rfl rfl ?_
                      refine WL_su (j := 9) rfl rfl ?_
                      refine WL_su (j := 9) rfl rfl ?_
                      refine WL_su (j := 9) rfl rfl ?_
                      refine WL_su (j := 9) rfl rfl ?_
                      refine WL_su (j := 9) rfl rfl ?_
                      refine WL_s (j := 6) rfl rfl rfl ?_
                      refine WL_y (Y_pick_t (.bool true) rfl rfl) ?_
                      refine WL_y (Y_move (.bool true) rfl) ?_
                      refine WL_s (j := 20) rfl rfl rfl ?_
                      refine WL_s (j := 20) rfl rfl rfl ?_
                      refine WL_s (j := 20) rfl rfl rfl ?_
                      refine WL_s (j := 20) rfl rfl rfl ?_
                      refine WL_s (j := 20) rfl rfl rfl ?_
                      refine WL_s (j := 20) rfl rfl rfl ?_
                      refine WL_y (Y_pick_t (.bool true) rfl rfl) ?_
                      refine WL_y (Y_move (.bool true) rfl) ?_
                      refine WL_s (j := 28) rfl rfl rfl ?_
                      refine WL_s (j := 28) rfl rfl rfl ?_
                      refine WL_s (j := 28) rfl rfl rfl ?_
                      refine WL_s (j := 28) rfl rfl rfl ?_
                      refine WL_s (j := 28) rfl rfl rfl ?_
                      refine WL_s (j := 28) rfl rfl rfl ?_
                      refine WL_y (Y_pick_t (.bool true) rfl rfl) ?_
                      refine WL_nil (nm_then ?_)
                      exact ⟨M29, true, hF50, hS, hT30_1, hT30_108, hT30_109, hT30_110, rfl, hz⟩
                    · replace hz := bif_ok_f hz hc51
                      refine WL_gy rfl (bf hc51 rfl) (Y_move (.int .i64 x43) rfl) ?_
                      refine WL_gy rfl (bf hc51 rfl) (Y_geq rfl rfl) ?_
                      refine WL_y (Y_pick_f (.bool (decide (x43 ≥ 4))) (bf hc51 rfl) rfl) ?_
                      refine WL_y (Y_move (.bool (decide (x43 ≥ 4))) rfl) ?_
                      rcases Bool.eq_false_or_eq_true (decide (x43 ≥ 4)) with hc52 | hc52
                      · replace hz := bif_ok_t hz hc52
                        refine WL_s (j := 6) rfl (bt hc52 rfl) rfl ?_
                        refine WL_s (j := 6) rfl (bt hc52 rfl) rfl ?_
                        refine WL_s (j := 6) rfl (bt hc52 rfl) rfl ?_
                        refine WL_su (j := 9) rfl rfl ?_
                        refine WL_su (j := 9) rfl rfl ?_
                        refine WL_su (j := 9) rfl rfl ?_
                        refine WL_su (j := 9) rfl rfl ?_
                        refine WL_su (j := 9) rfl rfl ?_
                        refine WL_su (j := 9) rfl rfl ?_
                        refine WL_su (j := 9) rfl rfl ?_
                        refine WL_su (j := 9) rfl rfl ?_
                        refine WL_s (j := 6) rfl (bt hc52 rfl) rfl ?_
                        refine WL_y (Y_pick_t (.bool true) (bt hc52 rfl) rfl) ?_
                        refine WL_y (Y_move (.bool true) rfl) ?_
                        refine WL_s (j := 20) rfl rfl rfl ?_
                        refine WL_s (j := 20) rfl rfl rfl ?_
                        refine WL_s (j := 20) rfl rfl rfl ?_
                        refine WL_s (j := 20) rfl rfl rfl ?_
                        refine WL_s (j := 20) rfl rfl rfl ?_
                        refine WL_s (j := 20) rfl rfl rfl ?_
                        refine WL_y (Y_pick_t (.bool true) rfl rfl) ?_
                        refine WL_y (Y_move (.bool true) rfl) ?_
                        refine WL_s (j := 28) rfl rfl rfl ?_
                        refine WL_s (j := 28) rfl rfl rfl ?_
                        refine WL_s (j := 28) rfl rfl rfl ?_
                        refine WL_s (j := 28) rfl rfl rfl ?_
                        refine WL_s (j := 28) rfl rfl rfl ?_
                        refine WL_s (j := 28) rfl rfl rfl ?_
                        refine WL_y (Y_pick_t (.bool true) rfl rfl) ?_
                        refine WL_nil (nm_then ?_)
                        exact ⟨M29, true, hF50, hS, hT30_1, hT30_108, hT30_109, hT30_110, rfl, hz⟩
                      · replace hz := bif_ok_f hz hc52
                        refine WL_gy rfl (bf hc52 rfl) (Y_move (.int .i64 y31) rfl) ?_
                        refine WL_gy rfl (bf hc52 rfl) (Y_gtr rfl rfl) ?_
                        refine WL_gy rfl (bf hc52 rfl) (Y_move (.bool (decide (y31 > 0))) rfl) ?_
                        rcases Bool.eq_false_or_eq_true (decide (y31 > 0)) with hc53 | hc53
                        · replace hz := bif_ok_t hz hc53
                          refine WL_gy rfl (bt hc53 rfl) (Y_fa fa38_5 hT30_1) ?_
                          obtain ⟨v54, ev54, hv54⟩ := (GFrame.p5 (rep_root (k := 7) rfl hcx1))
                          refine WL_gy rfl (bt hc53 rfl) (Y_ld1 v54 ts27 rfl (hS.bvB 0 rfl) ev54) ?_
                          refine WL_gy rfl (bt hc53 rfl) (Y_move (.int .i64 y31) rfl) ?_
                          refine WL_gy rfl (bt hc53 rfl) (Y_sub rfl rfl) ?_
                          obtain ⟨x56, hx55, hz⟩ := bind_ok hz
                          obtain ⟨b55, o55, c55, p55, hv55, hi55, hj55, hM55, hr55⟩ := repL_at hv54 hx55
                          replace hr55 : rep _ (sl p55 (o55 + Int.toNat (IntKind.wrap .i64 (y31 - 1)) * 1) 1) x56 := hr55
                          refine WL_gy rfl (bt hc53 rfl) (Y_ixL il27 rfl hv55 rfl hi55 hj55) ?_
                          refine WL_gy rfl (bt hc53 rfl) (Y_ld1 (.int .i64 x56) ts3 rfl (hS.bvM hM55) hr55) ?_
                          refine WL_gy rfl (bt hc53 rfl) (Y_move (.int .i64 x43) rfl) ?_
                          refine WL_gy rfl (bt hc53 rfl) (Y_geq rfl rfl) ?_
                          refine WL_gy rfl (bf hc52 rfl) (Y_pick_t (.bool (decide (x56 ≥ x43))) (bt hc53 rfl) rfl) ?_
                          refine WL_y (Y_pick_f (.bool (decide (x56 ≥ x43))) (bf hc52 rfl) rfl) ?_
                          refine WL_y (Y_move (.bool (decide (x56 ≥ x43))) rfl) ?_
                          rcases Bool.eq_false_or_eq_true (decide (x56 ≥ x43)) with hc57 | hc57
                          · replace hz := bif_ok_t hz hc57
                            refine WL_s (j := 20) rfl (bt hc57 rfl) rfl ?_
                            refine WL_s (j := 20) rfl (bt hc57 rfl) rfl ?_
                            refine WL_s (j := 20) rfl (bt hc57 rfl) rfl ?_
                            refine WL_s (j := 20) rfl (bt hc57 rfl) rfl ?_
                            refine WL_s (j := 20) rfl (bt hc57 rfl) rfl ?_
                            refine WL_s (j := 20) rfl (bt hc57 rfl) rfl ?_
                            refine WL_y (Y_pick_t (.bool true) (bt hc57 rfl) rfl) ?_
                            refine WL_y (Y_move (.bool true) rfl) ?_
                            refine WL_s (j := 28) rfl rfl rfl ?_
                            refine WL_s (j := 28) rfl rfl rfl ?_
                            refine WL_s (j := 28) rfl rfl rfl ?_
                            refine WL_s (j := 28) rfl rfl rfl ?_
                            refine WL_s (j := 28) rfl rfl rfl ?_
                            refine WL_s (j := 28) rfl rfl rfl ?_
                            refine WL_y (Y_pick_t (.bool true) rfl rfl) ?_
                            refine WL_nil (nm_then ?_)
                            exact ⟨M29, true, hF50, hS, hT30_1, hT30_108, hT30_109, hT30_110, rfl, hz⟩
                          · replace hz := bif_ok_f hz hc57
                            refine WL_gy rfl (bf hc57 rfl) (Y_fa fa38_6 hT30_1) ?_
                            obtain ⟨v58, ev58, hv58⟩ := (GFrame.p6 (rep_root (k := 7) rfl hcx1))
                            refine WL_gy rfl (bf hc57 rfl) (Y_ld1 v58 ts27 rfl (hS.bvB 0 rfl) ev58) ?_
                            refine WL_gy rfl (bf hc57 rfl) (Y_move (.int .i64 y31) rfl) ?_
                            obtain ⟨x60, hx59, hz⟩ := bind_ok hz
                            obtain ⟨b59, o59, c59, p59, hv59, hi59, hj59, hM59, hr59⟩ := repL_at hv58 hx59
                            replace hr59 : rep _ (sl p59 (o59 + Int.toNat y31 * 1) 1) x60 := hr59
                            refine WL_gy rfl (bf hc57 rfl) (Y_ixL il27 rfl hv59 rfl hi59 hj59) ?_
                            refine WL_gy rfl (bf hc57 rfl) (Y_ld1 (.int .i64 x60) ts3 rfl (hS.bvM hM59) hr59) ?_
                            refine WL_gy rfl (bf hc57 rfl) (Y_lss rfl rfl) ?_
                            refine WL_y (Y_pick_f (.bool (decide (x60 < (-1099511627776)))) (bf hc57 rfl) rfl) ?_
                            refine WL_y (Y_move (.bool (decide (x60 < (-1099511627776)))) rfl) ?_
                            rcases Bool.eq_false_or_eq_true (decide (x60 < (-1099511627776))) with hc61 | hc61
                            · replace hz := bif_ok_t hz hc61
                              refine WL_s (j := 28) rfl (bt hc61 rfl) rfl ?_
                              refine WL_s (j := 28) rfl (bt hc61 rfl) rfl ?_
                              refine WL_s (j := 28) rfl (bt hc61 rfl) rfl ?_
                              refine WL_s (j := 28) rfl (bt hc61 rfl) rfl ?_
                              refine WL_s (j := 28) rfl (bt hc61 rfl) rfl ?_
                              refine WL_s (j := 28) rfl (bt hc61 rfl) rfl ?_
                              refine WL_y (Y_pick_t (.bool true) (bt hc61 rfl) rfl) ?_
                              refine WL_nil (nm_then ?_)
                              exact ⟨M29, true, hF50, hS, hT30_1, hT30_108, hT30_109, hT30_110, rfl, hz⟩
                            · replace hz := bif_ok_f hz hc61
                              refine WL_gy rfl (bf hc61 rfl) (Y_fa fa38_6 hT30_1) ?_
                              obtain ⟨v62, ev62, hv62⟩ := (GFrame.p6 (rep_root (k := 7) rfl hcx1))
                              refine WL_gy rfl (bf hc61 rfl) (Y_ld1 v62 ts27 rfl (hS.bvB 0 rfl) ev62) ?_
                              refine WL_gy rfl (bf hc61 rfl) (Y_move (.int .i64 y31) rfl) ?_
                              obtain ⟨x64, hx63, hz⟩ := bind_ok hz
                              obtain ⟨b63, o63, c63, p63, hv63, hi63, hj63, hM63, hr63⟩ := repL_at hv62 hx63
                              replace hr63 : rep _ (sl p63 (o63 + Int.toNat y31 * 1) 1) x64 := hr63
                              refine WL_gy rfl (bf hc61 rfl) (Y_ixL il27 rfl hv63 rfl hi63 hj63) ?_
                              refine WL_gy rfl (bf hc61 rfl) (Y_ld1 (.int .i64 x64) ts3 rfl (hS.bvM hM63) hr63) ?_
                              refine WL_gy rfl (bf hc61 rfl) (Y_gtr rfl rfl) ?_
                              refine WL_y (Y_pick_f (.bool (decide (x64 > 1099511627776))) (bf hc61 rfl) rfl) ?_
                              refine WL_nil (nm_then ?_)
                              exact ⟨M29, (decide (x64 > 1099511627776)), hF50, hS, hT30_1, hT30_108, hT30_109, hT30_110, rfl, hz⟩
                        · replace hz := bif_ok_f hz hc53
                          refine WL_s (j := 9) rfl (bf hc53 rfl) rfl ?_
                          refine WL_s (j := 9) rfl (bf hc53 rfl) rfl ?_
                          refine WL_s (j := 9) rfl (bf hc53 rfl) rfl ?_
                          refine WL_s (j := 9) rfl (bf hc53 rfl) rfl ?_
                          refine WL_s (j := 9) rfl (bf hc53 rfl) rfl ?_
                          refine WL_s (j := 9) rfl (bf hc53 rfl) rfl ?_
                          refine WL_s (j := 9) rfl (bf hc53 rfl) rfl ?_
                          refine WL_s (j := 9) rfl (bf hc53 rfl) rfl ?_
                          refine WL_gy rfl (bf hc52 rfl) (Y_pick_f (.bool false) (bf hc53 rfl) rfl) ?_
                          refine WL_y (Y_pick_f (.bool false) (bf hc52 rfl) rfl) ?_
                          refine WL_y (Y_move (.bool false) rfl) ?_
                          refine WL_gy rfl rfl (Y_fa fa38_6 hT30_1) ?_
                          obtain ⟨v65, ev65, hv65⟩ := (GFrame.p6 (rep_root (k := 7) rfl hcx1))
                          refine WL_gy rfl rfl (Y_ld1 v65 ts27 rfl (hS.bvB 0 rfl) ev65) ?_
                          refine WL_gy rfl rfl (Y_move (.int .i64 y31) rfl) ?_
                          obtain ⟨x67, hx66, hz⟩ := bind_ok hz
                          obtain ⟨b66, o66, c66, p66, hv66, hi66, hj66, hM66, hr66⟩ := repL_at hv65 hx66
                          replace hr66 : rep _ (sl p66 (o66 + Int.toNat y31 * 1) 1) x67 := hr66
                          refine WL_gy rfl rfl (Y_ixL il27 rfl hv66 rfl hi66 hj66) ?_
                          refine WL_gy rfl rfl (Y_ld1 (.int .i64 x67) ts3 rfl (hS.bvM hM66) hr66) ?_
                          refine WL_gy rfl rfl (Y_lss rfl rfl) ?_
                          refine WL_y (Y_pick_f (.bool (decide (x67 < (-1099511627776)))) rfl rfl) ?_
                          refine WL_y (Y_move (.bool (decide (x67 < (-1099511627776)))) rfl) ?_
                          rcases Bool.eq_false_or_eq_true (decide (x67 < (-1099511627776))) with hc68 | hc68
                          · replace hz := bif_ok_t hz hc68
                            refine WL_s (j := 28) rfl (bt hc68 rfl) rfl ?_
                            refine WL_s (j := 28) rfl (bt hc68 rfl) rfl ?_
                            refine WL_s (j := 28) rfl (bt hc68 rfl) rfl ?_
                            refine WL_s (j := 28) rfl (bt hc68 rfl) rfl ?_
                            refine WL_s (j := 28) rfl (bt hc68 rfl) rfl ?_
                            refine WL_s (j := 28) rfl (bt hc68 rfl) rfl ?_
                            refine WL_y (Y_pick_t (.bool true) (bt hc68 rfl) rfl) ?_
                            refine WL_nil (nm_then ?_)
                            exact ⟨M29, true, hF50, hS, hT30_1, hT30_108, hT30_109, hT30_110, rfl, hz⟩
                          · replace hz := bif_ok_f hz hc68
                            refine WL_gy rfl (bf hc68 rfl) (Y_fa fa38_6 hT30_1) ?_
                            obtain ⟨v69, ev69, hv69⟩ := (GFrame.p6 (rep_root (k := 7) rfl hcx1))
                            refine WL_gy rfl (bf hc68 rfl) (Y_ld1 v69 ts27 rfl (hS.bvB 0 rfl) ev69) ?_
                            refine WL_gy rfl (bf hc68 rfl) (Y_move (.int .i64 y31) rfl) ?_
                            obtain ⟨x71, hx70, hz⟩ := bind_ok hz
                            obtain ⟨b70, o70, c70, p70, hv70, hi70, hj70, hM70, hr70⟩ := repL_at hv69 hx70
                            replace hr70 : rep _ (sl p70 (o70 + Int.toNat y31 * 1) 1) x71 := hr70
                            refine WL_gy rfl (bf hc68 rfl) (Y_ixL il27 rfl hv70 rfl hi70 hj70) ?_
                            refine WL_gy rfl (bf hc68 rfl) (Y_ld1 (.int .i64 x71) ts3 rfl (hS.bvM hM70) hr70) ?_
                            refine WL_gy rfl (bf hc68 rfl) (Y_gtr rfl rfl) ?_
                            refine WL_y (Y_pick_f (.bool (decide (x71 > 1099511627776))) (bf hc68 rfl) rfl) ?_
                            refine WL_nil (nm_then ?_)
                            exact ⟨M29, (decide (x71 > 1099511627776)), hF50, hS, hT30_1, hT30_108, hT30_109, hT30_110, rfl, hz⟩
                  · rintro T46 w44 ⟨M45, c47, hx48, hS, hT46_1, hT46_108, hT46_109, hT46_110, hT46_150, hz⟩
                    replace hcx1 := Rep.mono hx48.1 hcx1
                    replace hv26 := repL.mono hx48.1 hv26
                    replace hE := Mm.ext.trans hE hx48
                    replace hF34 := Mm.ext.trans hF34 hx48
                    replace hF41 := Mm.ext.trans hF41 hx48
                    rw [wireGood_j7] at hz
                    refine W_cond hT46_150 (fun hc49 => ?_) (fun hc49 => ?_)
                    · replace hz := bif_ok_t hz hc49
                      refine W_seq ?_
                      refine W_reg ?_
                      refine WL_y (Y_assign (.int .i64 1) rfl) ?_
                      refine WL_nil (nm_then ?_)
                      cases hz
                      exact W_ret (rt_blk (rt_then (rt_then (rt_blk (rt_then (R_t1 rfl rfl ⟨rfl, (St.dropB hS hb3).kept⟩))))))
                    · replace hz := bif_ok_f hz hc49
                      refine W_skip (nm_blk ?_)
                      refine (nm_then ?_)
                      exact ⟨M45, hF41, hS, hT46_1, hT46_108, hT46_109, hT46_110, hz⟩
                · rintro T39 w37 ⟨M38, hx40, hS, hT39_1, hT39_108, hT39_109, hT39_110, hz⟩
                  replace hcx1 := Rep.mono hx40.1 hcx1
                  replace hv26 := repL.mono hx40.1 hv26
                  replace hE := Mm.ext.trans hE hx40
                  replace hF34 := Mm.ext.trans hF34 hx40
                  rw [wireGood_j6] at hz
                  refine W_reg ?_
                  refine WL_y (Y_add hT39_110 rfl) ?_
                  refine WL_y (Y_move (.int .i64 (IntKind.wrap .i64 (y31 + 1))) rfl) ?_
                  refine WL_nil (nm_then ?_)
                  exact ⟨M38, (IntKind.wrap .i64 (y31 + 1)), hF34, hS, hT39_1, hT39_108, hT39_109, rfl, (by rw [← hrec32]; exact hz)⟩
              · replace hz := bif_ok_f hz hc36
                refine W_exit ?_
                refine ex_then ?_
                refine ex_then ?_
                refine ex_hit ?_
                refine (nm_then ?_)
                refine W_seq ?_
                refine W_reg ?_
                refine WL_y (Y_assign (.int .i64 0) rfl) ?_
                refine WL_nil (nm_then ?_)
                cases hz
                exact W_ret (R_t1 rfl rfl ⟨rfl, (St.dropB hS hb3).kept⟩)

def refIsFrame_j6 (y34 : Int) (rec35 : Bool → Int → Int → Option Int) (c43 : Bool) (y44 : Int) : Option Int :=
    rec35 c43 y44 (IntKind.wrap .i64 (y34 + 1))

def refIsFrame_j7 (y34 : Int) (rec35 : Bool → Int → Int → Option Int) (x48 : Int) (c52 : Bool) : Option Int :=
    refIsFrame_j6 y34 rec35 c52 x48

def refIsFrame_j8 (y63 : Int) (rec64 : Bool → Int → Option Int) (c72 : Bool) : Option Int :=
    rec64 c72 (IntKind.wrap .i64 (y63 + 1))

def refIsFrame_j9 : Option Int :=
    some 0

def refIsFrame_j10 (c89 : Bool) : Option Int :=
    (bif c89 then
    some 1
    else
    refIsFrame_j9)

def refIsFrame_l2 (x1 : GFrame) : Nat → Bool → Int → Option Int
  | 0, _, _ => none
  | n + 1, c62, y63 =>
    (bif decide (y63 < (x1.vals.length : Int)) then
    (idx x1.vals y63).bind fun x76 =>
    (bif c62 then
    (some (clampZ x76)).bind fun r80 =>
    refIsFrame_j8 y63 (refIsFrame_l2 x1 n) (r80 == x76)
    else
    refIsFrame_j8 y63 (refIsFrame_l2 x1 n) false)
    else
    (bif !c62 then
    refIsFrame_j10 true
    else
    refIsFrame_j10 ((x1.at_.length : Int) != (x1.vals.length : Int))))

def refIsFrame_l1 (fu : Nat) (x1 : GFrame) : Nat → Bool → Int → Int → Option Int
  | 0, _, _, _ => none
  | n + 1, c32, y33, y34 =>
    (bif decide (y34 < (x1.at_.length : Int)) then
    (idx x1.at_ y34).bind fun x48 =>
    (bif c32 then
    (bif decide (x48 > y33) then
    refIsFrame_j7 y34 (refIsFrame_l1 fu x1 n) x48 (decide (x48 < 4))
    else
    refIsFrame_j7 y34 (refIsFrame_l1 fu x1 n) x48 false)
    else
    refIsFrame_j7 y34 (refIsFrame_l1 fu x1 n) x48 false)
    else
    refIsFrame_l2 x1 fu c32 0)

def refIsFrame_j5 (fu : Nat) (x1 : GFrame) (c25 : Bool) : Option Int :=
    refIsFrame_l1 fu x1 fu c25 (-1) 0

def refIsFrame_j4 (fu : Nat) (x1 : GFrame) (c20 : Bool) : Option Int :=
    (bif x1.kind != 5 then
    (bif c20 then
    refIsFrame_j5 fu x1 ((x1.at_.length : Int) == 0)
    else
    refIsFrame_j5 fu x1 false)
    else
    refIsFrame_j5 fu x1 c20)

def refIsFrame_j11 (fu : Nat) (x1 : GFrame) (c15 : Bool) (c107 : Bool) : Option Int :=
    (bif c107 then
    (bif c15 then
    (some (risingZ x1.deps)).bind fun r114 =>
    (bif r114 then
    (some (hasZ x1.deps x1.id)).bind fun r119 =>
    refIsFrame_j4 fu x1 (!r119)
    else
    refIsFrame_j4 fu x1 false)
    else
    refIsFrame_j4 fu x1 false)
    else
    (bif c15 then
    refIsFrame_j4 fu x1 ((x1.deps.length : Int) == 0)
    else
    refIsFrame_j4 fu x1 false))

def refIsFrame_j3 (fu : Nat) (x1 : GFrame) (c15 : Bool) : Option Int :=
    (bif x1.kind == 2 then
    refIsFrame_j11 fu x1 c15 true
    else
    refIsFrame_j11 fu x1 c15 (x1.kind == 3))

def refIsFrame_j12 (fu : Nat) (x1 : GFrame) (c129 : Bool) : Option Int :=
    (bif c129 then
    (some (goodOpsZ x1.ops)).bind fun r135 =>
    refIsFrame_j3 fu x1 r135
    else
    refIsFrame_j3 fu x1 ((x1.ops.length : Int) == 0))

def refIsFrame_j2 (fu : Nat) (x1 : GFrame) : Option Int :=
    (bif x1.kind == 1 then
    refIsFrame_j12 fu x1 true
    else
    refIsFrame_j12 fu x1 (x1.kind == 3))

def refIsFrame_j13 (fu : Nat) (x1 : GFrame) (c144 : Bool) : Option Int :=
    (bif c144 then
    some 2
    else
    refIsFrame_j2 fu x1)

def refIsFrame_j1 (fu : Nat) (x1 : GFrame) : Option Int :=
    (bif decide (x1.node < 0) then
    refIsFrame_j13 fu x1 true
    else
    (bif decide (x1.node > 5) then
    refIsFrame_j13 fu x1 true
    else
    (some (decide (0 ≤ x1.id ∧ x1.id < 32))).bind fun r152 =>
    refIsFrame_j13 fu x1 (!r152)))

def refIsFrame_j14 (fu : Nat) (x1 : GFrame) (c157 : Bool) : Option Int :=
    (bif c157 then
    some 3
    else
    refIsFrame_j1 fu x1)

def refIsFrameD (fu : Nat) (x1 : GFrame) : Option Int :=
    (bif decide (x1.kind < 1) then
    refIsFrame_j14 fu x1 true
    else
    refIsFrame_j14 fu x1 (decide (x1.kind > 5)))

set_option maxRecDepth 100000 in
set_option maxHeartbeats 4000000 in
theorem refIsFrame_ok {M : Mm} {w : World} {cx1 : List Value} {x1 : GFrame} {fu : Nat} {r : Int} (hA : Agree M w) (hcx1 : rep M cx1 x1) (hz : refIsFrameD fu x1 = some r) :
    Calls Try.prog 54 #[.agg cx1.toArray] w (GivesV w (.int .i64 r)) := by
  refine calls_W Try.func54 rfl 130 rfl rfl (by kernel_rfl) fun T hT => ?_
  have hT_0 : T 0 = .agg cx1.toArray := hT 0
  clear hT
  have hE := Mm.ext.refl w.heap.size noX M
  have hS : St w noX M [] w := St.start hA
  rw [refIsFrameD] at hz
  refine W_seq ?_
  refine W_reg ?_
  refine WL_c (O_box (v := .agg cx1.toArray) (cs := cx1) hT_0 rfl hS ?_)
  intro b3 w2 hb3 hS
  replace hS : St w noX M [.box b3 cx1 38] w2 := hS
  refine WL_y (Y_assign (.int .i64 0) rfl) ?_
  refine WL_nil (nm_then ?_)
  refine W_seqJ (fun T' w' => ∃ M5, Mm.ext w.heap.size noX M M5 ∧ St w noX M5 [.box b3 cx1 38] w' ∧ T' 1 = .pointer (some ⟨b3, 0, none⟩) ∧ refIsFrame_j1 fu x1 = some r) ?_ ?_
  · have hF153 := Mm.ext.refl w.heap.size noX M
    refine W_seqJ (fun T' w' => ∃ M155 c157, Mm.ext w.heap.size noX M M155 ∧ St w noX M155 [.box b3 cx1 38] w' ∧ T' 1 = .pointer (some ⟨b3, 0, none⟩) ∧ T' 16 = .bool c157 ∧ refIsFrame_j14 fu x1 c157 = some r) ?_ ?_
    · have hF160 := Mm.ext.refl w.heap.size noX M
      refine W_reg ?_
      refine WL_y (Y_fa fa38_0 rfl) ?_
      refine WL_y (Y_ld1 (.int .i64 x1.kind) ts3 rfl (hS.bvB 0 rfl) (GFrame.p0 (rep_root (k := 7) rfl hcx1))) ?_
      refine WL_y (Y_lss rfl rfl) ?_
      refine WL_y (Y_move (.bool (decide (x1.kind < 1))) rfl) ?_
      rcases Bool.eq_false_or_eq_true (decide (x1.kind < 1)) with hc161 | hc161
      · replace hz := bif_ok_t hz hc161
        refine WL_s (j := 3) rfl (bt hc161 rfl) rfl ?_
        refine WL_s (j := 3) rfl (bt hc161 rfl) rfl ?_
        refine WL_s (j := 3) rfl (bt hc161 rfl) rfl ?_
        refine WL_y (Y_pick_t (.bool true) (bt hc161 rfl) rfl) ?_
        refine WL_nil (nm_then ?_)
        exact ⟨M, true, hF160, hS, rfl, rfl, hz⟩
      · replace hz := bif_ok_f hz hc161
        refine WL_gy rfl (bf hc161 rfl) (Y_fa fa38_0 rfl) ?_
        refine WL_gy rfl (bf hc161 rfl) (Y_ld1 (.int .i64 x1.kind) ts3 rfl (hS.bvB 0 rfl) (GFrame.p0 (rep_root (k := 7) rfl hcx1))) ?_
        refine WL_gy rfl (bf hc161 rfl) (Y_gtr rfl rfl) ?_
        refine WL_y (Y_pick_f (.bool (decide (x1.kind > 5))) (bf hc161 rfl) rfl) ?_
        refine WL_nil (nm_then ?_)
        exact ⟨M, (decide (x1.kind > 5)), hF160, hS, rfl, rfl, hz⟩
    · rintro T156 w154 ⟨M155, c157, hx158, hS, hT156_1, hT156_16, hz⟩
      replace hcx1 := Rep.mono hx158.1 hcx1
      replace hE := Mm.ext.trans hE hx158
      replace hF153 := Mm.ext.trans hF153 hx158
      rw [refIsFrame_j14] at hz
      refine W_cond hT156_16 (fun hc159 => ?_) (fun hc159 => ?_)
      · replace hz := bif_ok_t hz hc159
        refine W_seq ?_
        refine W_reg ?_
        refine WL_y (Y_assign (.int .i64 3) rfl) ?_
        refine WL_nil (nm_then ?_)
        cases hz
        exact W_ret (rt_then (R_t1 rfl rfl ⟨rfl, (St.dropB hS hb3).kept⟩))
      · replace hz := bif_ok_f hz hc159
        refine W_skip (nm_then ?_)
        exact ⟨M155, hF153, hS, hT156_1, hz⟩
  · rintro T6 w4 ⟨M5, hx7, hS, hT6_1, hz⟩
    replace hcx1 := Rep.mono hx7.1 hcx1
    replace hE := Mm.ext.trans hE hx7
    rw [refIsFrame_j1] at hz
    refine W_seqJ (fun T' w' => ∃ M9, Mm.ext w.heap.size noX M5 M9 ∧ St w noX M9 [.box b3 cx1 38] w' ∧ T' 1 = .pointer (some ⟨b3, 0, none⟩) ∧ refIsFrame_j2 fu x1 = some r) ?_ ?_
    · have hF140 := Mm.ext.refl w.heap.size noX M5
      refine W_seqJ (fun T' w' => ∃ M142 c144, Mm.ext w.heap.size noX M5 M142 ∧ St w noX M142 [.box b3 cx1 38] w' ∧ T' 1 = .pointer (some ⟨b3, 0, none⟩) ∧ T' 30 = .bool c144 ∧ refIsFrame_j13 fu x1 c144 = some r) ?_ ?_
      · have hF147 := Mm.ext.refl w.heap.size noX M5
        refine W_reg ?_
        refine WL_y (Y_fa fa38_1 hT6_1) ?_
        refine WL_y (Y_ld1 (.int .i64 x1.node) ts3 rfl (hS.bvB 0 rfl) (GFrame.p1 (rep_root (k := 7) rfl hcx1))) ?_
        refine WL_y (Y_lss rfl rfl) ?_
        refine WL_y (Y_move (.bool (decide (x1.node < 0))) rfl) ?_
        rcases Bool.eq_false_or_eq_true (decide (x1.node < 0)) with hc148 | hc148
        · replace hz := bif_ok_t hz hc148
          refine WL_s (j := 3) rfl (bt hc148 rfl) rfl ?_
          refine WL_s (j := 3) rfl (bt hc148 rfl) rfl ?_
          refine WL_s (j := 3) rfl (bt hc148 rfl) rfl ?_
          refine WL_y (Y_pick_t (.bool true) (bt hc148 rfl) rfl) ?_
          refine WL_y (Y_move (.bool true) rfl) ?_
          refine WL_s (j := 8) rfl rfl rfl ?_
          refine WL_s (j := 8) rfl rfl rfl ?_
          refine WL_s (j := 8) rfl rfl rfl ?_
          refine WL_s (j := 8) rfl rfl rfl ?_
          refine WL_y (Y_pick_t (.bool true) rfl rfl) ?_
          refine WL_nil (nm_then ?_)
          exact ⟨M5, true, hF147, hS, hT6_1, rfl, hz⟩
        · replace hz := bif_ok_f hz hc148
          refine WL_gy rfl (bf hc148 rfl) (Y_fa fa38_1 hT6_1) ?_
          refine WL_gy rfl (bf hc148 rfl) (Y_ld1 (.int .i64 x1.node) ts3 rfl (hS.bvB 0 rfl) (GFrame.p1 (rep_root (k := 7) rfl hcx1))) ?_
          refine WL_gy rfl (bf hc148 rfl) (Y_gtr rfl rfl) ?_
          refine WL_y (Y_pick_f (.bool (decide (x1.node > 5))) (bf hc148 rfl) rfl) ?_
          refine WL_y (Y_move (.bool (decide (x1.node > 5))) rfl) ?_
          rcases Bool.eq_false_or_eq_true (decide (x1.node > 5)) with hc149 | hc149
          · replace hz := bif_ok_t hz hc149
            refine WL_s (j := 8) rfl (bt hc149 rfl) rfl ?_
            refine WL_s (j := 8) rfl (bt hc149 rfl) rfl ?_
            refine WL_s (j := 8) rfl (bt hc149 rfl) rfl ?_
            refine WL_s (j := 8) rfl (bt hc149 rfl) rfl ?_
            refine WL_y (Y_pick_t (.bool true) (bt hc149 rfl) rfl) ?_
            refine WL_nil (nm_then ?_)
            exact ⟨M5, true, hF147, hS, hT6_1, rfl, hz⟩
          · replace hz := bif_ok_f hz hc149
            refine WL_gy rfl (bf hc149 rfl) (Y_fa fa38_2 hT6_1) ?_
            refine WL_gy rfl (bf hc149 rfl) (Y_ld1 (.int .i64 x1.id) ts3 rfl (hS.bvB 0 rfl) (GFrame.p2 (rep_root (k := 7) rfl hcx1))) ?_
            obtain ⟨r152, hr151, hz⟩ := bind_ok hz
            replace hr151 := Option.some.inj hr151
            refine WL_g rfl (bf hc149 rfl) (O_val (vs := [.int .i64 x1.id]) (v := .bool r152) cb66 (args1 rfl) hS (hr151 ▸ (c_isTxn)) ?_)
            intro w150 hS
            refine WL_gy rfl (bf hc149 rfl) (Y_not rfl) ?_
            refine WL_y (Y_pick_f (.bool (!r152)) (bf hc149 rfl) rfl) ?_
            refine WL_nil (nm_then ?_)
            exact ⟨M5, (!r152), hF147, hS, hT6_1, rfl, hz⟩
      · rintro T143 w141 ⟨M142, c144, hx145, hS, hT143_1, hT143_30, hz⟩
        replace hcx1 := Rep.mono hx145.1 hcx1
        replace hE := Mm.ext.trans hE hx145
        replace hF140 := Mm.ext.trans hF140 hx145
        rw [refIsFrame_j13] at hz
        refine W_cond hT143_30 (fun hc146 => ?_) (fun hc146 => ?_)
        · replace hz := bif_ok_t hz hc146
          refine W_seq ?_
          refine W_reg ?_
          refine WL_y (Y_assign (.int .i64 2) rfl) ?_
          refine WL_nil (nm_then ?_)
          cases hz
          exact W_ret (rt_then (R_t1 rfl rfl ⟨rfl, (St.dropB hS hb3).kept⟩))
        · replace hz := bif_ok_f hz hc146
          refine W_skip (nm_then ?_)
          exact ⟨M142, hF140, hS, hT143_1, hz⟩
    · rintro T10 w8 ⟨M9, hx11, hS, hT10_1, hz⟩
      replace hcx1 := Rep.mono hx11.1 hcx1
      replace hE := Mm.ext.trans hE hx11
      rw [refIsFrame_j2] at hz
      refine W_seq ?_
      refine W_reg ?_
      refine WL_y (Y_assign (.bool true) rfl) ?_
      refine WL_nil (nm_then ?_)
      refine W_seqJ (fun T' w' => ∃ M13 c15, Mm.ext w.heap.size noX M9 M13 ∧ St w noX M13 [.box b3 cx1 38] w' ∧ T' 1 = .pointer (some ⟨b3, 0, none⟩) ∧ T' 3 = .bool c15 ∧ refIsFrame_j3 fu x1 c15 = some r) ?_ ?_
      · have hF125 := Mm.ext.refl w.heap.size noX M9
        refine W_seqJ (fun T' w' => ∃ M127 c129, Mm.ext w.heap.size noX M9 M127 ∧ St w noX M127 [.box b3 cx1 38] w' ∧ T' 1 = .pointer (some ⟨b3, 0, none⟩) ∧ T' 38 = .bool c129 ∧ refIsFrame_j12 fu x1 c129 = some r) ?_ ?_
        · have hF138 := Mm.ext.refl w.heap.size noX M9
          refine W_reg ?_
          refine WL_y (Y_fa fa38_0 hT10_1) ?_
          refine WL_y (Y_ld1 (.int .i64 x1.kind) ts3 rfl (hS.bvB 0 rfl) (GFrame.p0 (rep_root (k := 7) rfl hcx1))) ?_
          refine WL_y (Y_eql rfl rfl) ?_
          refine WL_y (Y_move (.bool (x1.kind == 1)) rfl) ?_
          rcases Bool.eq_false_or_eq_true (x1.kind == 1) with hc139 | hc139
          · replace hz := bif_ok_t hz hc139
            refine WL_s (j := 3) rfl (bt hc139 rfl) rfl ?_
            refine WL_s (j := 3) rfl (bt hc139 rfl) rfl ?_
            refine WL_s (j := 3) rfl (bt hc139 rfl) rfl ?_
            refine WL_y (Y_pick_t (.bool true) (bt hc139 rfl) rfl) ?_
            refine WL_nil (nm_then ?_)
            exact ⟨M9, true, hF138, hS, hT10_1, rfl, hz⟩
          · replace hz := bif_ok_f hz hc139
            refine WL_gy rfl (bf hc139 rfl) (Y_fa fa38_0 hT10_1) ?_
            refine WL_gy rfl (bf hc139 rfl) (Y_ld1 (.int .i64 x1.kind) ts3 rfl (hS.bvB 0 rfl) (GFrame.p0 (rep_root (k := 7) rfl hcx1))) ?_
            refine WL_gy rfl (bf hc139 rfl) (Y_eql rfl rfl) ?_
            refine WL_y (Y_pick_f (.bool (x1.kind == 3)) (bf hc139 rfl) rfl) ?_
            refine WL_nil (nm_then ?_)
            exact ⟨M9, (x1.kind == 3), hF138, hS, hT10_1, rfl, hz⟩
        · rintro T128 w126 ⟨M127, c129, hx130, hS, hT128_1, hT128_38, hz⟩
          replace hcx1 := Rep.mono hx130.1 hcx1
          replace hE := Mm.ext.trans hE hx130
          replace hF125 := Mm.ext.trans hF125 hx130
          rw [refIsFrame_j12] at hz
          refine W_cond hT128_38 (fun hc131 => ?_) (fun hc131 => ?_)
          · replace hz := bif_ok_t hz hc131
            refine W_reg ?_
            refine WL_y (Y_fa fa38_3 hT128_1) ?_
            obtain ⟨v132, ev132, hv132⟩ := (GFrame.p3 (rep_root (k := 7) rfl hcx1))
            refine WL_y (Y_ld1 v132 ts22 rfl (hS.bvB 0 rfl) ev132) ?_
            obtain ⟨r135, hr134, hz⟩ := bind_ok hz
            replace hr134 := Option.some.inj hr134
            refine WL_c (O_val (vs := [v132]) (v := .bool r135) cb63 (args1 rfl) hS (hr134 ▸ (c_isOps hS.agree hv132)) ?_)
            intro w133 hS
            refine WL_y (Y_assign (.bool r135) rfl) ?_
            refine WL_nil (nm_then ?_)
            exact ⟨M127, r135, hF125, hS, hT128_1, rfl, hz⟩
          · replace hz := bif_ok_f hz hc131
            refine W_reg ?_
            refine WL_y (Y_fa fa38_3 hT128_1) ?_
            obtain ⟨v136, ev136, hv136⟩ := (GFrame.p3 (rep_root (k := 7) rfl hcx1))
            refine WL_y (Y_ld1 v136 ts22 rfl (hS.bvB 0 rfl) ev136) ?_
            obtain ⟨a137, c137, hv137, _⟩ := repL_shape hv136
            refine WL_y (Y_lenL Try.underlying22 (tr2 hv137 rfl)) ?_
            refine WL_y (Y_eql rfl rfl) ?_
            refine WL_y (Y_assign (.bool ((x1.ops.length : Int) == 0)) rfl) ?_
            refine WL_nil (nm_then ?_)
            exact ⟨M127, ((x1.ops.length : Int) == 0), hF125, hS, hT128_1, rfl, hz⟩
      · rintro T14 w12 ⟨M13, c15, hx16, hS, hT14_1, hT14_3, hz⟩
        replace hcx1 := Rep.mono hx16.1 hcx1
        replace hE := Mm.ext.trans hE hx16
        rw [refIsFrame_j3] at hz
        refine W_seqJ (fun T' w' => ∃ M18 c20, Mm.ext w.heap.size noX M13 M18 ∧ St w noX M18 [.box b3 cx1 38] w' ∧ T' 1 = .pointer (some ⟨b3, 0, none⟩) ∧ T' 3 = .bool c20 ∧ refIsFrame_j4 fu x1 c20 = some r) ?_ ?_
        · have hF103 := Mm.ext.refl w.heap.size noX M13
          refine W_seqJ (fun T' w' => ∃ M105 c107, Mm.ext w.heap.size noX M13 M105 ∧ St w noX M105 [.box b3 cx1 38] w' ∧ T' 1 = .pointer (some ⟨b3, 0, none⟩) ∧ T' 3 = .bool c15 ∧ T' 53 = .bool c107 ∧ refIsFrame_j11 fu x1 c15 c107 = some r) ?_ ?_
          · have hF123 := Mm.ext.refl w.heap.size noX M13
            refine W_reg ?_
            refine WL_y (Y_fa fa38_0 hT14_1) ?_
            refine WL_y (Y_ld1 (.int .i64 x1.kind) ts3 rfl (hS.bvB 0 rfl) (GFrame.p0 (rep_root (k := 7) rfl hcx1))) ?_
            refine WL_y (Y_eql rfl rfl) ?_
            refine WL_y (Y_move (.bool (x1.kind == 2)) rfl) ?_
            rcases Bool.eq_false_or_eq_true (x1.kind == 2) with hc124 | hc124
            · replace hz := bif_ok_t hz hc124
              refine WL_s (j := 3) rfl (bt hc124 rfl) rfl ?_
              refine WL_s (j := 3) rfl (bt hc124 rfl) rfl ?_
              refine WL_s (j := 3) rfl (bt hc124 rfl) rfl ?_
              refine WL_y (Y_pick_t (.bool true) (bt hc124 rfl) rfl) ?_
              refine WL_nil (nm_then ?_)
              exact ⟨M13, true, hF123, hS, hT14_1, hT14_3, rfl, hz⟩
            · replace hz := bif_ok_f hz hc124
              refine WL_gy rfl (bf hc124 rfl) (Y_fa fa38_0 hT14_1) ?_
              refine WL_gy rfl (bf hc124 rfl) (Y_ld1 (.int .i64 x1.kind) ts3 rfl (hS.bvB 0 rfl) (GFrame.p0 (rep_root (k := 7) rfl hcx1))) ?_
              refine WL_gy rfl (bf hc124 rfl) (Y_eql rfl rfl) ?_
              refine WL_y (Y_pick_f (.bool (x1.kind == 3)) (bf hc124 rfl) rfl) ?_
              refine WL_nil (nm_then ?_)
              exact ⟨M13, (x1.kind == 3), hF123, hS, hT14_1, hT14_3, rfl, hz⟩
          · rintro T106 w104 ⟨M105, c107, hx108, hS, hT106_1, hT106_3, hT106_53, hz⟩
            replace hcx1 := Rep.mono hx108.1 hcx1
            replace hE := Mm.ext.trans hE hx108
            replace hF103 := Mm.ext.trans hF103 hx108
            rw [refIsFrame_j11] at hz
            refine W_cond hT106_53 (fun hc109 => ?_) (fun hc109 => ?_)
            · replace hz := bif_ok_t hz hc109
              refine W_reg ?_
              refine WL_y (Y_move (.bool c15) hT106_3) ?_
              refine WL_y (Y_move (.bool c15) rfl) ?_
              rcases Bool.eq_false_or_eq_true c15 with hc110 | hc110
              · replace hz := bif_ok_t hz hc110
                refine WL_gy rfl (bt hc110 rfl) (Y_fa fa38_4 hT106_1) ?_
                obtain ⟨v111, ev111, hv111⟩ := (GFrame.p4 (rep_root (k := 7) rfl hcx1))
                refine WL_gy rfl (bt hc110 rfl) (Y_ld1 v111 ts27 rfl (hS.bvB 0 rfl) ev111) ?_
                obtain ⟨r114, hr113, hz⟩ := bind_ok hz
                replace hr113 := Option.some.inj hr113
                refine WL_g rfl (bt hc110 rfl) (O_val (vs := [v111]) (v := .bool r114) cb64 (args1 rfl) hS (hr113 ▸ (c_isRising hS.agree hv111)) ?_)
                intro w112 hS
                refine WL_y (Y_pick_t (.bool r114) (bt hc110 rfl) rfl) ?_
                refine WL_y (Y_move (.bool r114) rfl) ?_
                rcases Bool.eq_false_or_eq_true r114 with hc115 | hc115
                · replace hz := bif_ok_t hz hc115
                  refine WL_gy rfl (bt hc115 rfl) (Y_fa fa38_4 hT106_1) ?_
                  obtain ⟨v116, ev116, hv116⟩ := (GFrame.p4 (rep_root (k := 7) rfl hcx1))
                  refine WL_gy rfl (bt hc115 rfl) (Y_ld1 v116 ts27 rfl (hS.bvB 0 rfl) ev116) ?_
                  refine WL_gy rfl (bt hc115 rfl) (Y_fa fa38_2 hT106_1) ?_
                  refine WL_gy rfl (bt hc115 rfl) (Y_ld1 (.int .i64 x1.id) ts3 rfl (hS.bvB 0 rfl) (GFrame.p2 (rep_root (k := 7) rfl hcx1))) ?_
                  obtain ⟨r119, hr118, hz⟩ := bind_ok hz
                  replace hr118 := Option.some.inj hr118
                  refine WL_g rfl (bt hc115 rfl) (O_val (vs := [v116, .int .i64 x1.id]) (v := .bool r119) cb65 (args2 rfl rfl) hS (hr118 ▸ (c_refHas hS.agree hv116)) ?_)
                  intro w117 hS
                  refine WL_gy rfl (bt hc115 rfl) (Y_not rfl) ?_
                  refine WL_y (Y_pick_t (.bool (!r119)) (bt hc115 rfl) rfl) ?_
                  refine WL_y (Y_assign (.bool (!r119)) rfl) ?_
                  refine WL_nil (nm_then ?_)
                  exact ⟨M105, (!r119), hF103, hS, hT106_1, rfl, hz⟩
                · replace hz := bif_ok_f hz hc115
                  refine WL_s (j := 6) rfl (bf hc115 rfl) rfl ?_
                  refine WL_s (j := 6) rfl (bf hc115 rfl) rfl ?_
                  refine WL_s (j := 6) rfl (bf hc115 rfl) rfl ?_
                  refine WL_s (j := 6) rfl (bf hc115 rfl) rfl ?_
                  refine WL_s (j := 6) rfl (bf hc115 rfl) rfl ?_
                  refine WL_s (j := 6) rfl (bf hc115 rfl) rfl ?_
                  refine WL_y (Y_pick_f (.bool false) (bf hc115 rfl) rfl) ?_
                  refine WL_y (Y_assign (.bool false) rfl) ?_
                  refine WL_nil (nm_then ?_)
                  exact ⟨M105, false, hF103, hS, hT106_1, rfl, hz⟩
              · replace hz := bif_ok_f hz hc110
                refine WL_s (j := 1) rfl (bf hc110 rfl) rfl ?_
                refine WL_s (j := 1) rfl (bf hc110 rfl) rfl ?_
                refine WL_s (j := 1) rfl (bf hc110 rfl) rfl ?_
                refine WL_y (Y_pick_f (.bool false) (bf hc110 rfl) rfl) ?_
                refine WL_y (Y_move (.bool false) rfl) ?_
                refine WL_s (j := 6) rfl rfl rfl ?_
                refine WL_s (j := 6) rfl rfl rfl ?_
                refine WL_s (j := 6) rfl rfl rfl ?_
                refine WL_s (j := 6) rfl rfl rfl ?_
                refine WL_s (j := 6) rfl rfl rfl ?_
                refine WL_s (j := 6) rfl rfl rfl ?_
                refine WL_y (Y_pick_f (.bool false) rfl rfl) ?_
                refine WL_y (Y_assign (.bool false) rfl) ?_
                refine WL_nil (nm_then ?_)
                exact ⟨M105, false, hF103, hS, hT106_1, rfl, hz⟩
            · replace hz := bif_ok_f hz hc109
              refine W_reg ?_
              refine WL_y (Y_move (.bool c15) hT106_3) ?_
              refine WL_y (Y_move (.bool c15) rfl) ?_
              rcases Bool.eq_false_or_eq_true c15 with hc120 | hc120
              · replace hz := bif_ok_t hz hc120
                refine WL_gy rfl (bt hc120 rfl) (Y_fa fa38_4 hT106_1) ?_
                obtain ⟨v121, ev121, hv121⟩ := (GFrame.p4 (rep_root (k := 7) rfl hcx1))
                refine WL_gy rfl (bt hc120 rfl) (Y_ld1 v121 ts27 rfl (hS.bvB 0 rfl) ev121) ?_
                obtain ⟨a122, c122, hv122, _⟩ := repL_shape hv121
                refine WL_gy rfl (bt hc120 rfl) (Y_lenL Try.underlying27 (tr2 hv122 rfl)) ?_
                refine WL_gy rfl (bt hc120 rfl) (Y_eql rfl rfl) ?_
                refine WL_y (Y_pick_t (.bool ((x1.deps.length : Int) == 0)) (bt hc120 rfl) rfl) ?_
                refine WL_y (Y_assign (.bool ((x1.deps.length : Int) == 0)) rfl) ?_
                refine WL_nil (nm_then ?_)
                exact ⟨M105, ((x1.deps.length : Int) == 0), hF103, hS, hT106_1, rfl, hz⟩
              · replace hz := bif_ok_f hz hc120
                refine WL_s (j := 1) rfl (bf hc120 rfl) rfl ?_
                refine WL_s (j := 1) rfl (bf hc120 rfl) rfl ?_
                refine WL_s (j := 1) rfl (bf hc120 rfl) rfl ?_
                refine WL_s (j := 1) rfl (bf hc120 rfl) rfl ?_
                refine WL_y (Y_pick_f (.bool false) (bf hc120 rfl) rfl) ?_
                refine WL_y (Y_assign (.bool false) rfl) ?_
                refine WL_nil (nm_then ?_)
                exact ⟨M105, false, hF103, hS, hT106_1, rfl, hz⟩
        · rintro T19 w17 ⟨M18, c20, hx21, hS, hT19_1, hT19_3, hz⟩
          replace hcx1 := Rep.mono hx21.1 hcx1
          replace hE := Mm.ext.trans hE hx21
          rw [refIsFrame_j4] at hz
          refine W_seqJ (fun T' w' => ∃ M23 c25, Mm.ext w.heap.size noX M18 M23 ∧ St w noX M23 [.box b3 cx1 38] w' ∧ T' 1 = .pointer (some ⟨b3, 0, none⟩) ∧ T' 3 = .bool c25 ∧ refIsFrame_j5 fu x1 c25 = some r) ?_ ?_
          · have hF98 := Mm.ext.refl w.heap.size noX M18
            refine W_seq ?_
            refine W_reg ?_
            refine WL_y (Y_fa fa38_0 hT19_1) ?_
            refine WL_y (Y_ld1 (.int .i64 x1.kind) ts3 rfl (hS.bvB 0 rfl) (GFrame.p0 (rep_root (k := 7) rfl hcx1))) ?_
            refine WL_y (Y_neq rfl rfl) ?_
            refine WL_nil (nm_then ?_)
            refine W_cond rfl (fun hc99 => ?_) (fun hc99 => ?_)
            · replace hz := bif_ok_t hz hc99
              refine W_reg ?_
              refine WL_y (Y_move (.bool c20) hT19_3) ?_
              refine WL_y (Y_move (.bool c20) rfl) ?_
              rcases Bool.eq_false_or_eq_true c20 with hc100 | hc100
              · replace hz := bif_ok_t hz hc100
                refine WL_gy rfl (bt hc100 rfl) (Y_fa fa38_5 hT19_1) ?_
                obtain ⟨v101, ev101, hv101⟩ := (GFrame.p5 (rep_root (k := 7) rfl hcx1))
                refine WL_gy rfl (bt hc100 rfl) (Y_ld1 v101 ts27 rfl (hS.bvB 0 rfl) ev101) ?_
                obtain ⟨a102, c102, hv102, _⟩ := repL_shape hv101
                refine WL_gy rfl (bt hc100 rfl) (Y_lenL Try.underlying27 (tr2 hv102 rfl)) ?_
                refine WL_gy rfl (bt hc100 rfl) (Y_eql rfl rfl) ?_
                refine WL_y (Y_pick_t (.bool ((x1.at_.length : Int) == 0)) (bt hc100 rfl) rfl) ?_
                refine WL_y (Y_assign (.bool ((x1.at_.length : Int) == 0)) rfl) ?_
                refine WL_nil (nm_then ?_)
                exact ⟨M18, ((x1.at_.length : Int) == 0), hF98, hS, hT19_1, rfl, hz⟩
              · replace hz := bif_ok_f hz hc100
                refine WL_s (j := 1) rfl (bf hc100 rfl) rfl ?_
                refine WL_s (j := 1) rfl (bf hc100 rfl) rfl ?_
                refine WL_s (j := 1) rfl (bf hc100 rfl) rfl ?_
                refine WL_s (j := 1) rfl (bf hc100 rfl) rfl ?_
                refine WL_y (Y_pick_f (.bool false) (bf hc100 rfl) rfl) ?_
                refine WL_y (Y_assign (.bool false) rfl) ?_
                refine WL_nil (nm_then ?_)
                exact ⟨M18, false, hF98, hS, hT19_1, rfl, hz⟩
            · replace hz := bif_ok_f hz hc99
              refine W_skip (nm_then ?_)
              exact ⟨M18, c20, hF98, hS, hT19_1, hT19_3, hz⟩
          · rintro T24 w22 ⟨M23, c25, hx26, hS, hT24_1, hT24_3, hz⟩
            replace hcx1 := Rep.mono hx26.1 hcx1
            replace hE := Mm.ext.trans hE hx26
            rw [refIsFrame_j5] at hz
            refine W_seq ?_
            refine W_reg ?_
            refine WL_y (Y_assign (.int .i64 (-1)) rfl) ?_
            refine WL_nil (nm_then ?_)
            refine W_seq ?_
            refine W_seq ?_
            refine W_reg ?_
            refine WL_y (Y_fa fa38_5 hT24_1) ?_
            obtain ⟨v27, ev27, hv27⟩ := (GFrame.p5 (rep_root (k := 7) rfl hcx1))
            refine WL_y (Y_ld1 v27 ts27 rfl (hS.bvB 0 rfl) ev27) ?_
            obtain ⟨a28, c28, hv28, _⟩ := repL_shape hv27
            refine WL_y (Y_lenL Try.underlying27 (tr2 hv28 rfl)) ?_
            refine WL_y (Y_move (.int .i64 0) rfl) ?_
            refine WL_nil (nm_then ?_)
            refine W_block ?_
            refine W_loop (fun k36 T' w' => ∃ M30 c32 y33 y34, Mm.ext w.heap.size noX M23 M30 ∧ St w noX M30 [.box b3 cx1 38] w' ∧ T' 1 = .pointer (some ⟨b3, 0, none⟩) ∧ T' 3 = .bool c32 ∧ T' 4 = .int .i64 y33 ∧ T' 86 = v27 ∧ T' 87 = .int .i64 (x1.at_.length : Int) ∧ T' 88 = .int .i64 y34 ∧ refIsFrame_l1 fu x1 k36 c32 y33 y34 = some r) fu ?_ ?_ ?_
            · exact ⟨M23, c25, ((-1) : Int), (0 : Int), (Mm.ext.refl _ _ _), hS, hT24_1, hT24_3, rfl, rfl, rfl, rfl, hz⟩
            · rintro T' w' ⟨_, _, _, _, _, _, _, _, _, _, _, _, hz⟩
              rw [refIsFrame_l1] at hz
              cases hz
            · intro k36
              rintro T31 w29 ⟨M30, c32, y33, y34, hx38, hS, hT31_1, hT31_3, hT31_4, hT31_86, hT31_87, hT31_88, hz⟩
              replace hcx1 := Rep.mono hx38.1 hcx1
              replace hv27 := repL.mono hx38.1 hv27
              replace hE := Mm.ext.trans hE hx38
              have hF37 := hx38
              rw [refIsFrame_l1] at hz
              obtain ⟨rec35, hrec35⟩ : ∃ f, f = refIsFrame_l1 fu x1 k36 := ⟨_, rfl⟩
              rw [← hrec35] at hz
              refine W_seq ?_
              refine W_reg ?_
              refine WL_y (Y_lss hT31_88 hT31_87) ?_
              refine WL_nil (nm_then ?_)
              refine W_seq ?_
              refine W_cond rfl (fun hc39 => ?_) (fun hc39 => ?_)
              · replace hz := bif_ok_t hz hc39
                refine W_skip (nm_then ?_)
                refine W_seqJ (fun T' w' => ∃ M41 c43 y44, Mm.ext w.heap.size noX M30 M41 ∧ St w noX M41 [.box b3 cx1 38] w' ∧ T' 1 = .pointer (some ⟨b3, 0, none⟩) ∧ T' 3 = .bool c43 ∧ T' 4 = .int .i64 y44 ∧ T' 86 = v27 ∧ T' 87 = .int .i64 (x1.at_.length : Int) ∧ T' 88 = .int .i64 y34 ∧ refIsFrame_j6 y34 rec35 c43 y44 = some r) ?_ ?_
                · have hF46 := Mm.ext.refl w.heap.size noX M30
                  refine W_block ?_
                  refine W_seq ?_
                  refine W_reg ?_
                  obtain ⟨x48, hx47, hz⟩ := bind_ok hz
                  obtain ⟨b47, o47, c47, p47, hv47, hi47, hj47, hM47, hr47⟩ := repL_at hv27 hx47
                  replace hr47 : rep _ (sl p47 (o47 + Int.toNat y34 * 1) 1) x48 := hr47
                  refine WL_y (Y_ixL il27 hT31_86 hv47 hT31_88 hi47 hj47) ?_
                  refine WL_y (Y_ld1 (.int .i64 x48) ts3 rfl (hS.bvM hM47) hr47) ?_
                  refine WL_y (Y_assign (.int .i64 x48) rfl) ?_
                  refine WL_nil (nm_then ?_)
                  refine W_seqJ (fun T' w' => ∃ M50 c52, Mm.ext w.heap.size noX M30 M50 ∧ St w noX M50 [.box b3 cx1 38] w' ∧ T' 1 = .pointer (some ⟨b3, 0, none⟩) ∧ T' 3 = .bool c52 ∧ T' 6 = .int .i64 x48 ∧ T' 86 = v27 ∧ T' 87 = .int .i64 (x1.at_.length : Int) ∧ T' 88 = .int .i64 y34 ∧ refIsFrame_j7 y34 rec35 x48 c52 = some r) ?_ ?_
                  · have hF54 := Mm.ext.refl w.heap.size noX M30
                    refine W_reg ?_
                    refine WL_y (Y_move (.bool c32) hT31_3) ?_
                    refine WL_y (Y_move (.bool c32) rfl) ?_
                    rcases Bool.eq_false_or_eq_true c32 with hc55 | hc55
                    · replace hz := bif_ok_t hz hc55
                      refine WL_gy rfl (bt hc55 rfl) (Y_move (.int .i64 x48) rfl) ?_
                      refine WL_gy rfl (bt hc55 rfl) (Y_move (.int .i64 y33) hT31_4) ?_
                      refine WL_gy rfl (bt hc55 rfl) (Y_gtr rfl rfl) ?_
                      refine WL_y (Y_pick_t (.bool (decide (x48 > y33))) (bt hc55 rfl) rfl) ?_
                      refine WL_y (Y_move (.bool (decide (x48 > y33))) rfl) ?_
                      rcases Bool.eq_false_or_eq_true (decide (x48 > y33)) with hc56 | hc56
                      · replace hz := bif_ok_t hz hc56
                        refine WL_gy rfl (bt hc56 rfl) (Y_move (.int .i64 x48) rfl) ?_
                        refine WL_gy rfl (bt hc56 rfl) (Y_lss rfl rfl) ?_
                        refine WL_y (Y_pick_t (.bool (decide (x48 < 4))) (bt hc56 rfl) rfl) ?_
                        refine WL_y (Y_assign (.bool (decide (x48 < 4))) rfl) ?_
                        refine WL_nil (nm_then ?_)
                        exact ⟨M30, (decide (x48 < 4)), hF54, hS, hT31_1, rfl, rfl, hT31_86, hT31_87, hT31_88, hz⟩
                      · replace hz := bif_ok_f hz hc56
                        refine WL_s (j := 6) rfl (bf hc56 rfl) rfl ?_
                        refine WL_s (j := 6) rfl (bf hc56 rfl) rfl ?_
                        refine WL_y (Y_pick_f (.bool false) (bf hc56 rfl) rfl) ?_
                        refine WL_y (Y_assign (.bool false) rfl) ?_
                        refine WL_nil (nm_then ?_)
                        exact ⟨M30, false, hF54, hS, hT31_1, rfl, rfl, hT31_86, hT31_87, hT31_88, hz⟩
                    · replace hz := bif_ok_f hz hc55
                      refine WL_s (j := 1) rfl (bf hc55 rfl) rfl ?_
                      refine WL_s (j := 1) rfl (bf hc55 rfl) rfl ?_
                      refine WL_s (j := 1) rfl (bf hc55 rfl) rfl ?_
                      refine WL_y (Y_pick_f (.bool false) (bf hc55 rfl) rfl) ?_
                      refine WL_y (Y_move (.bool false) rfl) ?_
                      refine WL_s (j := 6) rfl rfl rfl ?_
                      refine WL_s (j := 6) rfl rfl rfl ?_
                      refine WL_y (Y_pick_f (.bool false) rfl rfl) ?_
                      refine WL_y (Y_assign (.bool false) rfl) ?_
                      refine WL_nil (nm_then ?_)
                      exact ⟨M30, false, hF54, hS, hT31_1, rfl, rfl, hT31_86, hT31_87, hT31_88, hz⟩
                  · rintro T51 w49 ⟨M50, c52, hx53, hS, hT51_1, hT51_3, hT51_6, hT51_86, hT51_87, hT51_88, hz⟩
                    replace hcx1 := Rep.mono hx53.1 hcx1
                    replace hv27 := repL.mono hx53.1 hv27
                    replace hE := Mm.ext.trans hE hx53
                    replace hF37 := Mm.ext.trans hF37 hx53
                    replace hF46 := Mm.ext.trans hF46 hx53
                    rw [refIsFrame_j7] at hz
                    refine W_reg ?_
                    refine WL_y (Y_move (.int .i64 x48) hT51_6) ?_
                    refine WL_y (Y_assign (.int .i64 x48) rfl) ?_
                    refine WL_nil (nm_blk ?_)
                    refine (nm_then ?_)
                    exact ⟨M50, c52, x48, hF46, hS, hT51_1, hT51_3, rfl, hT51_86, hT51_87, hT51_88, hz⟩
                · rintro T42 w40 ⟨M41, c43, y44, hx45, hS, hT42_1, hT42_3, hT42_4, hT42_86, hT42_87, hT42_88, hz⟩
                  replace hcx1 := Rep.mono hx45.1 hcx1
                  replace hv27 := repL.mono hx45.1 hv27
                  replace hE := Mm.ext.trans hE hx45
                  replace hF37 := Mm.ext.trans hF37 hx45
                  rw [refIsFrame_j6] at hz
                  refine W_reg ?_
                  refine WL_y (Y_add hT42_88 rfl) ?_
                  refine WL_y (Y_move (.int .i64 (IntKind.wrap .i64 (y34 + 1))) rfl) ?_
                  refine WL_nil (nm_then ?_)
                  exact ⟨M41, c43, y44, (IntKind.wrap .i64 (y34 + 1)), hF37, hS, hT42_1, hT42_3, hT42_4, hT42_86, hT42_87, rfl, (by rw [← hrec35]; exact hz)⟩
              · replace hz := bif_ok_f hz hc39
                refine W_exit ?_
                refine ex_then ?_
                refine ex_then ?_
                refine ex_hit ?_
                refine (nm_then ?_)
                refine W_seq ?_
                refine W_seq ?_
                refine W_reg ?_
                refine WL_y (Y_fa fa38_6 hT31_1) ?_
                obtain ⟨v57, ev57, hv57⟩ := (GFrame.p6 (rep_root (k := 7) rfl hcx1))
                refine WL_y (Y_ld1 v57 ts27 rfl (hS.bvB 0 rfl) ev57) ?_
                obtain ⟨a58, c58, hv58, _⟩ := repL_shape hv57
                refine WL_y (Y_lenL Try.underlying27 (tr2 hv58 rfl)) ?_
                refine WL_y (Y_move (.int .i64 0) rfl) ?_
                refine WL_nil (nm_then ?_)
                refine W_block ?_
                refine W_loop (fun k65 T' w' => ∃ M60 c62 y63, Mm.ext w.heap.size noX M30 M60 ∧ St w noX M60 [.box b3 cx1 38] w' ∧ T' 1 = .pointer (some ⟨b3, 0, none⟩) ∧ T' 3 = .bool c62 ∧ T' 105 = v57 ∧ T' 106 = .int .i64 (x1.vals.length : Int) ∧ T' 107 = .int .i64 y63 ∧ refIsFrame_l2 x1 k65 c62 y63 = some r) fu ?_ ?_ ?_
                · exact ⟨M30, c32, (0 : Int), (Mm.ext.refl _ _ _), hS, hT31_1, hT31_3, rfl, rfl, rfl, hz⟩
                · rintro T' w' ⟨_, _, _, _, _, _, _, _, _, _, hz⟩
                  rw [refIsFrame_l2] at hz
                  cases hz
                · intro k65
                  rintro T61 w59 ⟨M60, c62, y63, hx67, hS, hT61_1, hT61_3, hT61_105, hT61_106, hT61_107, hz⟩
                  replace hcx1 := Rep.mono hx67.1 hcx1
                  replace hv57 := repL.mono hx67.1 hv57
                  replace hE := Mm.ext.trans hE hx67
                  replace hF37 := Mm.ext.trans hF37 hx67
                  have hF66 := hx67
                  rw [refIsFrame_l2] at hz
                  obtain ⟨rec64, hrec64⟩ : ∃ f, f = refIsFrame_l2 x1 k65 := ⟨_, rfl⟩
                  rw [← hrec64] at hz
                  refine W_seq ?_
                  refine W_reg ?_
                  refine WL_y (Y_lss hT61_107 hT61_106) ?_
                  refine WL_nil (nm_then ?_)
                  refine W_seq ?_
                  refine W_cond rfl (fun hc68 => ?_) (fun hc68 => ?_)
                  · replace hz := bif_ok_t hz hc68
                    refine W_skip (nm_then ?_)
                    refine W_seqJ (fun T' w' => ∃ M70 c72, Mm.ext w.heap.size noX M60 M70 ∧ St w noX M70 [.box b3 cx1 38] w' ∧ T' 1 = .pointer (some ⟨b3, 0, none⟩) ∧ T' 3 = .bool c72 ∧ T' 105 = v57 ∧ T' 106 = .int .i64 (x1.vals.length : Int) ∧ T' 107 = .int .i64 y63 ∧ refIsFrame_j8 y63 rec64 c72 = some r) ?_ ?_
                    · have hF74 := Mm.ext.refl w.heap.size noX M60
                      refine W_block ?_
                      refine W_seq ?_
                      refine W_reg ?_
                      obtain ⟨x76, hx75, hz⟩ := bind_ok hz
                      obtain ⟨b75, o75, c75, p75, hv75, hi75, hj75, hM75, hr75⟩ := repL_at hv57 hx75
                      replace hr75 : rep _ (sl p75 (o75 + Int.toNat y63 * 1) 1) x76 := hr75
                      refine WL_y (Y_ixL il27 hT61_105 hv75 hT61_107 hi75 hj75) ?_
                      refine WL_y (Y_ld1 (.int .i64 x76) ts3 rfl (hS.bvM hM75) hr75) ?_
                      refine WL_y (Y_assign (.int .i64 x76) rfl) ?_
                      refine WL_nil (nm_then ?_)
                      refine W_reg ?_
                      refine WL_y (Y_move (.bool c62) hT61_3) ?_
                      refine WL_y (Y_move (.bool c62) rfl) ?_
                      rcases Bool.eq_false_or_eq_true c62 with hc77 | hc77
                      · replace hz := bif_ok_t hz hc77
                        refine WL_gy rfl (bt hc77 rfl) (Y_move (.int .i64 x76) rfl) ?_
                        obtain ⟨r80, hr79, hz⟩ := bind_ok hz
                        replace hr79 := Option.some.inj hr79
                        refine WL_g rfl (bt hc77 rfl) (O_val (vs := [.int .i64 x76]) (v := .int .i64 r80) cb75 (args1 rfl) hS (hr79 ▸ (c_bound)) ?_)
                        intro w78 hS
                        refine WL_gy rfl (bt hc77 rfl) (Y_move (.int .i64 x76) rfl) ?_
                        refine WL_gy rfl (bt hc77 rfl) (Y_eql rfl rfl) ?_
                        refine WL_y (Y_pick_t (.bool (r80 == x76)) (bt hc77 rfl) rfl) ?_
                        refine WL_y (Y_assign (.bool (r80 == x76)) rfl) ?_
                        refine WL_nil (nm_blk ?_)
                        refine (nm_then ?_)
                        exact ⟨M60, (r80 == x76), hF74, hS, hT61_1, rfl, hT61_105, hT61_106, hT61_107, hz⟩
                      · replace hz := bif_ok_f hz hc77
                        refine WL_s (j := 1) rfl (bf hc77 rfl) rfl ?_
                        refine WL_s (j := 1) rfl (bf hc77 rfl) rfl ?_
                        refine WL_s (j := 1) rfl (bf hc77 rfl) rfl ?_
                        refine WL_s (j := 1) rfl (bf hc77 rfl) rfl ?_
                        refine WL_y (Y_pick_f (.bool false) (bf hc77 rfl) rfl) ?_
                        refine WL_y (Y_assign (.bool false) rfl) ?_
                        refine WL_nil (nm_blk ?_)
                        refine (nm_then ?_)
                        exact ⟨M60, false, hF74, hS, hT61_1, rfl, hT61_105, hT61_106, hT61_107, hz⟩
                    · rintro T71 w69 ⟨M70, c72, hx73, hS, hT71_1, hT71_3, hT71_105, hT71_106, hT71_107, hz⟩
                      replace hcx1 := Rep.mono hx73.1 hcx1
                      replace hv57 := repL.mono hx73.1 hv57
                      replace hE := Mm.ext.trans hE hx73
                      replace hF37 := Mm.ext.trans hF37 hx73
                      replace hF66 := Mm.ext.trans hF66 hx73
                      rw [refIsFrame_j8] at hz
                      refine W_reg ?_
                      refine WL_y (Y_add hT71_107 rfl) ?_
                      refine WL_y (Y_move (.int .i64 (IntKind.wrap .i64 (y63 + 1))) rfl) ?_
                      refine WL_nil (nm_then ?_)
                      exact ⟨M70, c72, (IntKind.wrap .i64 (y63 + 1)), hF66, hS, hT71_1, hT71_3, hT71_105, hT71_106, rfl, (by rw [← hrec64]; exact hz)⟩
                  · replace hz := bif_ok_f hz hc68
                    refine W_exit ?_
                    refine ex_then ?_
                    refine ex_then ?_
                    refine ex_hit ?_
                    refine (nm_then ?_)
                    refine W_seqJ (fun T' w' => ∃ M82, Mm.ext w.heap.size noX M60 M82 ∧ St w noX M82 [.box b3 cx1 38] w' ∧ refIsFrame_j9 = some r) ?_ ?_
                    · have hF85 := Mm.ext.refl w.heap.size noX M60
                      refine W_seqJ (fun T' w' => ∃ M87 c89, Mm.ext w.heap.size noX M60 M87 ∧ St w noX M87 [.box b3 cx1 38] w' ∧ T' 129 = .bool c89 ∧ refIsFrame_j10 c89 = some r) ?_ ?_
                      · have hF92 := Mm.ext.refl w.heap.size noX M60
                        refine W_reg ?_
                        refine WL_y (Y_move (.bool c62) hT61_3) ?_
                        refine WL_y (Y_not rfl) ?_
                        refine WL_y (Y_move (.bool (!c62)) rfl) ?_
                        rcases Bool.eq_false_or_eq_true (!c62) with hc93 | hc93
                        · replace hz := bif_ok_t hz hc93
                          refine WL_s (j := 2) rfl (bt hc93 rfl) rfl ?_
                          refine WL_s (j := 2) rfl (bt hc93 rfl) rfl ?_
                          refine WL_s (j := 2) rfl (bt hc93 rfl) rfl ?_
                          refine WL_s (j := 2) rfl (bt hc93 rfl) rfl ?_
                          refine WL_s (j := 2) rfl (bt hc93 rfl) rfl ?_
                          refine WL_s (j := 2) rfl (bt hc93 rfl) rfl ?_
                          refine WL_s (j := 2) rfl (bt hc93 rfl) rfl ?_
                          refine WL_y (Y_pick_t (.bool true) (bt hc93 rfl) rfl) ?_
                          refine WL_nil (nm_then ?_)
                          exact ⟨M60, true, hF92, hS, rfl, hz⟩
                        · replace hz := bif_ok_f hz hc93
                          refine WL_gy rfl (bf hc93 rfl) (Y_fa fa38_5 hT61_1) ?_
                          obtain ⟨v94, ev94, hv94⟩ := (GFrame.p5 (rep_root (k := 7) rfl hcx1))
                          refine WL_gy rfl (bf hc93 rfl) (Y_ld1 v94 ts27 rfl (hS.bvB 0 rfl) ev94) ?_
                          obtain ⟨a95, c95, hv95, _⟩ := repL_shape hv94
                          refine WL_gy rfl (bf hc93 rfl) (Y_lenL Try.underlying27 (tr2 hv95 rfl)) ?_
                          refine WL_gy rfl (bf hc93 rfl) (Y_fa fa38_6 hT61_1) ?_
                          obtain ⟨v96, ev96, hv96⟩ := (GFrame.p6 (rep_root (k := 7) rfl hcx1))
                          refine WL_gy rfl (bf hc93 rfl) (Y_ld1 v96 ts27 rfl (hS.bvB 0 rfl) ev96) ?_
                          obtain ⟨a97, c97, hv97, _⟩ := repL_shape hv96
                          refine WL_gy rfl (bf hc93 rfl) (Y_lenL Try.underlying27 (tr2 hv97 rfl)) ?_
                          refine WL_gy rfl (bf hc93 rfl) (Y_neq rfl rfl) ?_
                          refine WL_y (Y_pick_f (.bool ((x1.at_.length : Int) != (x1.vals.length : Int))) (bf hc93 rfl) rfl) ?_
                          refine WL_nil (nm_then ?_)
                          exact ⟨M60, ((x1.at_.length : Int) != (x1.vals.length : Int)), hF92, hS, rfl, hz⟩
                      · rintro T88 w86 ⟨M87, c89, hx90, hS, hT88_129, hz⟩
                        replace hcx1 := Rep.mono hx90.1 hcx1
                        replace hE := Mm.ext.trans hE hx90
                        replace hF37 := Mm.ext.trans hF37 hx90
                        replace hF66 := Mm.ext.trans hF66 hx90
                        replace hF85 := Mm.ext.trans hF85 hx90
                        rw [refIsFrame_j10] at hz
                        refine W_cond hT88_129 (fun hc91 => ?_) (fun hc91 => ?_)
                        · replace hz := bif_ok_t hz hc91
                          refine W_seq ?_
                          refine W_reg ?_
                          refine WL_y (Y_assign (.int .i64 1) rfl) ?_
                          refine WL_nil (nm_then ?_)
                          cases hz
                          exact W_ret (rt_then (R_t1 rfl rfl ⟨rfl, (St.dropB hS hb3).kept⟩))
                        · replace hz := bif_ok_f hz hc91
                          refine W_skip (nm_then ?_)
                          exact ⟨M87, hF85, hS, hz⟩
                    · rintro T83 w81 ⟨M82, hx84, hS, hz⟩
                      replace hcx1 := Rep.mono hx84.1 hcx1
                      replace hE := Mm.ext.trans hE hx84
                      replace hF37 := Mm.ext.trans hF37 hx84
                      replace hF66 := Mm.ext.trans hF66 hx84
                      rw [refIsFrame_j9] at hz
                      refine W_seq ?_
                      refine W_reg ?_
                      refine WL_y (Y_assign (.int .i64 0) rfl) ?_
                      refine WL_nil (nm_then ?_)
                      cases hz
                      exact W_ret (R_t1 rfl rfl ⟨rfl, (St.dropB hS hb3).kept⟩)

end Go.Proofs.Ytopgdemmdcipcaa
