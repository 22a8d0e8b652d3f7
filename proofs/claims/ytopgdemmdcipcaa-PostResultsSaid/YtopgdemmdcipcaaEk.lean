/- What functions compute, and that they do. (Written by dc.py.) -/
import Derived.Test.YtopgdemmdcipcaaEa
namespace Go.Proofs.Ytopgdemmdcipcaa
open Go.RowKit
open Rep (rep)
set_option linter.unusedVariables false

def keepSameOps_l1 (x1 : List GOp) (x2 : List GOp) : Nat → Int → Option Bool
  | 0, _ => none
  | n + 1, y10 =>
    (bif decide (y10 < (x1.length : Int)) then
    (idx x1 y10).bind fun x17 =>
    (idx x2 y10).bind fun x20 =>
    (bif !decide (x17 = x20) then
    some false
    else
    (keepSameOps_l1 x1 x2 n) (IntKind.wrap .i64 (y10 + 1)))
    else
    some true)

def keepSameOpsD (fu : Nat) (x1 : List GOp) (x2 : List GOp) : Option Bool :=
    (bif (x1.length : Int) != (x2.length : Int) then
    some false
    else
    keepSameOps_l1 x1 x2 fu 0)

set_option maxRecDepth 100000 in
set_option maxHeartbeats 4000000 in
theorem keepSameOps_ok {M : Mm} {w : World} {vx1 : Value} {vx2 : Value} {x1 : List GOp} {x2 : List GOp} {fu : Nat} {r : Bool} (hA : Agree M w) (hvx1 : repL M vx1 x1) (hvx2 : repL M vx2 x2) (hz : keepSameOpsD fu x1 x2 = some r) :
    Calls Try.prog 28 #[vx1, vx2] w (GivesV w (.bool r)) := by
  refine calls_W Try.func28 rfl 26 rfl rfl (by kernel_rfl) fun T hT => ?_
  have hT_0 : T 0 = vx1 := hT 0
  have hT_1 : T 1 = vx2 := hT 1
  clear hT
  have hE := Mm.ext.refl w.heap.size noX M
  have hS : St w noX M [] w := St.start hA
  rw [keepSameOpsD] at hz
  refine W_seq ?_
  refine W_reg ?_
  refine WL_y (Y_assign (.bool false) rfl) ?_
  refine WL_nil (nm_then ?_)
  refine W_seq ?_
  refine W_seq ?_
  refine W_reg ?_
  refine WL_y (Y_move (vx1) hT_0) ?_
  obtain ⟨a3, c3, hv3, _⟩ := repL_shape hvx1
  refine WL_y (Y_lenL Try.underlying22 (tr2 hv3 rfl)) ?_
  refine WL_y (Y_move (vx2) hT_1) ?_
  obtain ⟨a4, c4, hv4, _⟩ := repL_shape hvx2
  refine WL_y (Y_lenL Try.underlying22 (tr2 hv4 rfl)) ?_
  refine WL_y (Y_neq rfl rfl) ?_
  refine WL_nil (nm_then ?_)
  refine W_cond rfl (fun hc5 => ?_) (fun hc5 => ?_)
  · replace hz := bif_ok_t hz hc5
    refine W_seq ?_
    refine W_reg ?_
    refine WL_y (Y_assign (.bool false) rfl) ?_
    refine WL_nil (nm_then ?_)
    cases hz
    exact W_ret (rt_then (R_t1 rfl rfl ⟨rfl, hS.kept⟩))
  · replace hz := bif_ok_f hz hc5
    refine W_skip (nm_then ?_)
    refine W_seq ?_
    refine W_seq ?_
    refine W_reg ?_
    refine WL_y (Y_move (vx1) hT_0) ?_
    obtain ⟨a6, c6, hv6, _⟩ := repL_shape hvx1
    refine WL_y (Y_lenL Try.underlying22 (tr2 hv6 rfl)) ?_
    refine WL_y (Y_move (.int .i64 0) rfl) ?_
    refine WL_nil (nm_then ?_)
    refine W_block ?_
    refine W_loop (fun k12 T' w' => ∃ M8 y10, Mm.ext w.heap.size noX M M8 ∧ St w noX M8 [] w' ∧ T' 0 = vx1 ∧ T' 1 = vx2 ∧ T' 12 = .int .i64 (x1.length : Int) ∧ T' 13 = .int .i64 y10 ∧ keepSameOps_l1 x1 x2 k12 y10 = some r) fu ?_ ?_ ?_
    · exact ⟨M, (0 : Int), (Mm.ext.refl _ _ _), hS, hT_0, hT_1, rfl, rfl, hz⟩
    · rintro T' w' ⟨_, _, _, _, _, _, _, _, hz⟩
      rw [keepSameOps_l1] at hz
      cases hz
    · intro k12
      rintro T9 w7 ⟨M8, y10, hx14, hS, hT9_0, hT9_1, hT9_12, hT9_13, hz⟩
      replace hvx1 := repL.mono hx14.1 hvx1
      replace hvx2 := repL.mono hx14.1 hvx2
      replace hE := Mm.ext.trans hE hx14
      have hF13 := hx14
      rw [keepSameOps_l1] at hz
      obtain ⟨rec11, hrec11⟩ : ∃ f, f = keepSameOps_l1 x1 x2 k12 := ⟨_, rfl⟩
      rw [← hrec11] at hz
      refine W_seq ?_
      refine W_reg ?_
      refine WL_y (Y_lss hT9_13 hT9_12) ?_
      refine WL_nil (nm_then ?_)
      refine W_seq ?_
      refine W_cond rfl (fun hc15 => ?_) (fun hc15 => ?_)
      · replace hz := bif_ok_t hz hc15
        refine W_skip (nm_then ?_)
        refine W_seq ?_
        refine W_block ?_
        refine W_seq ?_
        refine W_reg ?_
        refine WL_y (Y_move (.int .i64 y10) hT9_13) ?_
        refine WL_y (Y_assign (.int .i64 y10) rfl) ?_
        refine WL_nil (nm_then ?_)
        refine W_seq ?_
        refine W_drawq mixed (by kernel_rfl) hS ?_
        refine WQ_y (Y_move (vx1) hT9_0) ?_
        refine WQ_y (Y_move (.int .i64 y10) rfl) ?_
        obtain ⟨x17, hx16, hz⟩ := bind_ok hz
        obtain ⟨b16, o16, c16, p16, hv16, hi16, hj16, hM16, hr16⟩ := repL_at hvx1 hx16
        replace hr16 : rep _ (sl p16 (o16 + Int.toNat y10 * 3) 3) x17 := hr16
        refine WQ_y (Y_ixL il22 rfl hv16 rfl hi16 hj16) ?_
        have ha18 := hr16
        refine WQ_y (Y_ldn ta78 rfl (bvMS hM16) (Rep.len ha18)) ?_
        refine WQ_y (Y_move (vx2) hT9_1) ?_
        refine WQ_y (Y_move (.int .i64 y10) rfl) ?_
        obtain ⟨x20, hx19, hz⟩ := bind_ok hz
        obtain ⟨b19, o19, c19, p19, hv19, hi19, hj19, hM19, hr19⟩ := repL_at hvx2 hx19
        replace hr19 : rep _ (sl p19 (o19 + Int.toNat y10 * 3) 3) x20 := hr19
        refine WQ_y (Y_ixL il22 rfl hv19 rfl hi19 hj19) ?_
        have ha21 := hr19
        refine WQ_y (Y_ldn ta78 rfl (bvMS hM19) (Rep.len ha21)) ?_
        refine WQ_y (Y_neA rfl rfl eg78 ha18 ha21) ?_
        refine WQ_nil ?_
        intro w22 hS
        refine (nm_then ?_)
        refine W_cond rfl (fun hc23 => ?_) (fun hc23 => ?_)
        · replace hz := bif_ok_t hz hc23
          refine W_seq ?_
          refine W_reg ?_
          refine WL_y (Y_assign (.bool false) rfl) ?_
          refine WL_nil (nm_then ?_)
          cases hz
          exact W_ret (rt_blk (rt_then (rt_then (rt_blk (rt_then (R_t1 rfl rfl ⟨rfl, hS.kept⟩))))))
        · replace hz := bif_ok_f hz hc23
          refine W_skip (nm_blk ?_)
          refine (nm_then ?_)
          refine W_reg ?_
          refine WL_y (Y_add hT9_13 rfl) ?_
          refine WL_y (Y_move (.int .i64 (IntKind.wrap .i64 (y10 + 1))) rfl) ?_
          refine WL_nil (nm_then ?_)
          exact ⟨M8, (IntKind.wrap .i64 (y10 + 1)), hF13, hS, hT9_0, hT9_1, hT9_12, rfl, (by rw [← hrec11]; exact hz)⟩
      · replace hz := bif_ok_f hz hc15
        refine W_exit ?_
        refine ex_then ?_
        refine ex_then ?_
        refine ex_hit ?_
        refine (nm_then ?_)
        refine W_seq ?_
        refine W_reg ?_
        refine WL_y (Y_assign (.bool true) rfl) ?_
        refine WL_nil (nm_then ?_)
        cases hz
        exact W_ret (R_t1 rfl rfl ⟨rfl, hS.kept⟩)

def keepSameNumbers_l1 (x1 : List Int) (x2 : List Int) : Nat → Int → Option Bool
  | 0, _ => none
  | n + 1, y10 =>
    (bif decide (y10 < (x1.length : Int)) then
    (idx x1 y10).bind fun x17 =>
    (idx x2 y10).bind fun x19 =>
    (bif x17 != x19 then
    some false
    else
    (keepSameNumbers_l1 x1 x2 n) (IntKind.wrap .i64 (y10 + 1)))
    else
    some true)

def keepSameNumbersD (fu : Nat) (x1 : List Int) (x2 : List Int) : Option Bool :=
    (bif (x1.length : Int) != (x2.length : Int) then
    some false
    else
    keepSameNumbers_l1 x1 x2 fu 0)

set_option maxRecDepth 100000 in
set_option maxHeartbeats 4000000 in
theorem keepSameNumbers_ok {M : Mm} {w : World} {vx1 : Value} {vx2 : Value} {x1 : List Int} {x2 : List Int} {fu : Nat} {r : Bool} (hA : Agree M w) (hvx1 : repL M vx1 x1) (hvx2 : repL M vx2 x2) (hz : keepSameNumbersD fu x1 x2 = some r) :
    Calls Try.prog 14 #[vx1, vx2] w (GivesV w (.bool r)) := by
  refine calls_W Try.func14 rfl 26 rfl rfl (by kernel_rfl) fun T hT => ?_
  have hT_0 : T 0 = vx1 := hT 0
  have hT_1 : T 1 = vx2 := hT 1
  clear hT
  have hE := Mm.ext.refl w.heap.size noX M
  have hS : St w noX M [] w := St.start hA
  rw [keepSameNumbersD] at hz
  refine W_seq ?_
  refine W_reg ?_
  refine WL_y (Y_assign (.bool false) rfl) ?_
  refine WL_nil (nm_then ?_)
  refine W_seq ?_
  refine W_seq ?_
  refine W_reg ?_
  refine WL_y (Y_move (vx1) hT_0) ?_
  obtain ⟨a3, c3, hv3, _⟩ := repL_shape hvx1
  refine WL_y (Y_lenL Try.underlying27 (tr2 hv3 rfl)) ?_
  refine WL_y (Y_move (vx2) hT_1) ?_
  obtain ⟨a4, c4, hv4, _⟩ := repL_shape hvx2
  refine WL_y (Y_lenL Try.underlying27 (tr2 hv4 rfl)) ?_
  refine WL_y (Y_neq rfl rfl) ?_
  refine WL_nil (nm_then ?_)
  refine W_cond rfl (fun hc5 => ?_) (fun hc5 => ?_)
  · replace hz := bif_ok_t hz hc5
    refine W_seq ?_
    refine W_reg ?_
    refine WL_y (Y_assign (.bool false) rfl) ?_
    refine WL_nil (nm_then ?_)
    cases hz
    exact W_ret (rt_then (R_t1 rfl rfl ⟨rfl, hS.kept⟩))
  · replace hz := bif_ok_f hz hc5
    refine W_skip (nm_then ?_)
    refine W_seq ?_
    refine W_seq ?_
    refine W_reg ?_
    refine WL_y (Y_move (vx1) hT_0) ?_
    obtain ⟨a6, c6, hv6, _⟩ := repL_shape hvx1
    refine WL_y (Y_lenL Try.underlying27 (tr2 hv6 rfl)) ?_
    refine WL_y (Y_move (.int .i64 0) rfl) ?_
    refine WL_nil (nm_then ?_)
    refine W_block ?_
    refine W_loop (fun k12 T' w' => ∃ M8 y10, Mm.ext w.heap.size noX M M8 ∧ St w noX M8 [] w' ∧ T' 0 = vx1 ∧ T' 1 = vx2 ∧ T' 12 = .int .i64 (x1.length : Int) ∧ T' 13 = .int .i64 y10 ∧ keepSameNumbers_l1 x1 x2 k12 y10 = some r) fu ?_ ?_ ?_
    · exact ⟨M, (0 : Int), (Mm.ext.refl _ _ _), hS, hT_0, hT_1, rfl, rfl, hz⟩
    · rintro T' w' ⟨_, _, _, _, _, _, _, _, hz⟩
      rw [keepSameNumbers_l1] at hz
      cases hz
    · intro k12
      rintro T9 w7 ⟨M8, y10, hx14, hS, hT9_0, hT9_1, hT9_12, hT9_13, hz⟩
      replace hvx1 := repL.mono hx14.1 hvx1
      replace hvx2 := repL.mono hx14.1 hvx2
      replace hE := Mm.ext.trans hE hx14
      have hF13 := hx14
      rw [keepSameNumbers_l1] at hz
      obtain ⟨rec11, hrec11⟩ : ∃ f, f = keepSameNumbers_l1 x1 x2 k12 := ⟨_, rfl⟩
      rw [← hrec11] at hz
      refine W_seq ?_
      refine W_reg ?_
      refine WL_y (Y_lss hT9_13 hT9_12) ?_
      refine WL_nil (nm_then ?_)
      refine W_seq ?_
      refine W_cond rfl (fun hc15 => ?_) (fun hc15 => ?_)
      · replace hz := bif_ok_t hz hc15
        refine W_skip (nm_then ?_)
        refine W_seq ?_
        refine W_block ?_
        refine W_seq ?_
        refine W_reg ?_
        refine WL_y (Y_move (.int .i64 y10) hT9_13) ?_
        refine WL_y (Y_assign (.int .i64 y10) rfl) ?_
        refine WL_nil (nm_then ?_)
        refine W_seq ?_
        refine W_drawq mixed (by kernel_rfl) hS ?_
        refine WQ_y (Y_move (vx1) hT9_0) ?_
        refine WQ_y (Y_move (.int .i64 y10) rfl) ?_
        obtain ⟨x17, hx16, hz⟩ := bind_ok hz
        obtain ⟨b16, o16, c16, p16, hv16, hi16, hj16, hM16, hr16⟩ := repL_at hvx1 hx16
        replace hr16 : rep _ (sl p16 (o16 + Int.toNat y10 * 1) 1) x17 := hr16
        refine WQ_y (Y_ixL il27 rfl hv16 rfl hi16 hj16) ?_
        refine WQ_y (Y_ld1 (.int .i64 x17) ts3 rfl (bvMS hM16) hr16) ?_
        refine WQ_y (Y_move (vx2) hT9_1) ?_
        refine WQ_y (Y_move (.int .i64 y10) rfl) ?_
        obtain ⟨x19, hx18, hz⟩ := bind_ok hz
        obtain ⟨b18, o18, c18, p18, hv18, hi18, hj18, hM18, hr18⟩ := repL_at hvx2 hx18
        replace hr18 : rep _ (sl p18 (o18 + Int.toNat y10 * 1) 1) x19 := hr18
        refine WQ_y (Y_ixL il27 rfl hv18 rfl hi18 hj18) ?_
        refine WQ_y (Y_ld1 (.int .i64 x19) ts3 rfl (bvMS hM18) hr18) ?_
        refine WQ_y (Y_neq rfl rfl) ?_
        refine WQ_nil ?_
        intro w20 hS
        refine (nm_then ?_)
        refine W_cond rfl (fun hc21 => ?_) (fun hc21 => ?_)
        · replace hz := bif_ok_t hz hc21
          refine W_seq ?_
          refine W_reg ?_
          refine WL_y (Y_assign (.bool false) rfl) ?_
          refine WL_nil (nm_then ?_)
          cases hz
          exact W_ret (rt_blk (rt_then (rt_then (rt_blk (rt_then (R_t1 rfl rfl ⟨rfl, hS.kept⟩))))))
        · replace hz := bif_ok_f hz hc21
          refine W_skip (nm_blk ?_)
          refine (nm_then ?_)
          refine W_reg ?_
          refine WL_y (Y_add hT9_13 rfl) ?_
          refine WL_y (Y_move (.int .i64 (IntKind.wrap .i64 (y10 + 1))) rfl) ?_
          refine WL_nil (nm_then ?_)
          exact ⟨M8, (IntKind.wrap .i64 (y10 + 1)), hF13, hS, hT9_0, hT9_1, hT9_12, rfl, (by rw [← hrec11]; exact hz)⟩
      · replace hz := bif_ok_f hz hc15
        refine W_exit ?_
        refine ex_then ?_
        refine ex_then ?_
        refine ex_hit ?_
        refine (nm_then ?_)
        refine W_seq ?_
        refine W_reg ?_
        refine WL_y (Y_assign (.bool true) rfl) ?_
        refine WL_nil (nm_then ?_)
        cases hz
        exact W_ret (R_t1 rfl rfl ⟨rfl, hS.kept⟩)

def keepPick_j1 (y7 : Int) : Option Int :=
    some y7

def keepPickD (fu : Nat) (x1 : Int) (x2 : Int) : Option Int :=
    (nonz x2).bind fun _ =>
    (bif decide ((Int.tmod x1 x2) < 0) then
    keepPick_j1 (IntKind.wrap .i64 ((Int.tmod x1 x2) + x2))
    else
    keepPick_j1 (Int.tmod x1 x2))

set_option maxRecDepth 100000 in
set_option maxHeartbeats 4000000 in
theorem keepPick_ok {M : Mm} {w : World} {x1 : Int} {x2 : Int} {fu : Nat} {r : Int} (hA : Agree M w)  (hz : keepPickD fu x1 x2 = some r) :
    Calls Try.prog 30 #[.int .i64 x1, .int .i64 x2] w (GivesV w (.int .i64 r)) := by
  refine calls_W Try.func30 rfl 14 rfl rfl (by kernel_rfl) fun T hT => ?_
  have hT_0 : T 0 = .int .i64 x1 := hT 0
  have hT_1 : T 1 = .int .i64 x2 := hT 1
  clear hT
  have hE := Mm.ext.refl w.heap.size noX M
  have hS : St w noX M [] w := St.start hA
  rw [keepPickD] at hz
  refine W_seq ?_
  refine W_reg ?_
  refine WL_y (Y_assign (.int .i64 0) rfl) ?_
  refine WL_nil (nm_then ?_)
  refine W_seq ?_
  refine W_reg ?_
  refine WL_y (Y_move (.int .i64 x1) hT_0) ?_
  refine WL_y (Y_move (.int .i64 x2) hT_1) ?_
  obtain ⟨_, hx3, hz⟩ := bind_ok hz
  have hx3 := nonz_some hx3
  refine WL_y (Y_rem rfl rfl hx3) ?_
  refine WL_y (Y_assign (.int .i64 (Int.tmod x1 x2)) rfl) ?_
  refine WL_nil (nm_then ?_)
  refine W_seqJ (fun T' w' => ∃ M5 y7, Mm.ext w.heap.size noX M M5 ∧ St w noX M5 [] w' ∧ T' 0 = .int .i64 y7 ∧ keepPick_j1 y7 = some r) ?_ ?_
  · have hF9 := Mm.ext.refl w.heap.size noX M
    refine W_seq ?_
    refine W_reg ?_
    refine WL_y (Y_move (.int .i64 (Int.tmod x1 x2)) rfl) ?_
    refine WL_y (Y_lss rfl rfl) ?_
    refine WL_nil (nm_then ?_)
    refine W_cond rfl (fun hc10 => ?_) (fun hc10 => ?_)
    · replace hz := bif_ok_t hz hc10
      refine W_reg ?_
      refine WL_y (Y_move (.int .i64 (Int.tmod x1 x2)) rfl) ?_
      refine WL_y (Y_move (.int .i64 x2) hT_1) ?_
      refine WL_y (Y_add rfl rfl) ?_
      refine WL_y (Y_assign (.int .i64 (IntKind.wrap .i64 ((Int.tmod x1 x2) + x2))) rfl) ?_
      refine WL_nil (nm_then ?_)
      exact ⟨M, (IntKind.wrap .i64 ((Int.tmod x1 x2) + x2)), hF9, hS, rfl, hz⟩
    · replace hz := bif_ok_f hz hc10
      refine W_skip (nm_then ?_)
      exact ⟨M, (Int.tmod x1 x2), hF9, hS, rfl, hz⟩
  · rintro T6 w4 ⟨M5, y7, hx8, hS, hT6_0, hz⟩
    replace hE := Mm.ext.trans hE hx8
    rw [keepPick_j1] at hz
    refine W_seq ?_
    refine W_reg ?_
    refine WL_y (Y_move (.int .i64 y7) hT6_0) ?_
    refine WL_y (Y_assign (.int .i64 y7) rfl) ?_
    refine WL_nil (nm_then ?_)
    cases hz
    exact W_ret (R_t1 rfl rfl ⟨rfl, hS.kept⟩)

end Go.Proofs.Ytopgdemmdcipcaa
