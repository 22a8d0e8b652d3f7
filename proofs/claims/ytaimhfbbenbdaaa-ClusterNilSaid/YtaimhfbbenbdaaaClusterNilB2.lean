/- What the proof of ClusterNil rests on, part 2: rules of walks, what functions compute, and plain laws of it. -/
import Derived.Test.YtaimhfbbenbdaaaClusterNilB1
import Derived.ProofKit
import Derived.OpenShut
import Derived.ShutString
import Derived.ChangeOld
import Derived.SizedLaws
import Derived.Deep.Slices
namespace Go.Proofs.Ytaimhfbbenbdaaa
open Go.RowKit
open Rep (rep)
set_option linter.unusedVariables false
def clNoD (fu : Nat) (x1 : Int) : Option GReply :=
    (some ({ code := x1, n := Zr.zd, values := Zr.zd } : GReply)).bind fun d5 =>
    (some d5).bind fun d8 =>
    some d8
set_option maxRecDepth 100000 in
set_option maxHeartbeats 4000000 in
theorem clNo_ok {M : Mm} {w : World} {x1 : Int} {fu : Nat} {r : GReply} (hA : Agree M w)  (hz : clNoD fu x1 = some r) :
    Calls Try.prog 15 #[.int .i64 x1] w (Gives M w (fun M' u => ∃ cs, u = .agg cs.toArray ∧ rep M' cs r)) := by
  refine calls_W Try.func15 rfl 5 rfl rfl (by kernel_rfl) fun T hT => ?_
  have hT_0 : T 0 = .int .i64 x1 := hT 0
  clear hT
  have hE := Mm.ext.refl w.heap.size noX M
  have hS : St w noX M [] w := St.start hA
  rw [clNoD] at hz
  refine W_seq ?_
  refine W_reg ?_
  refine WL_c (O_alloc tz38 hS ?_)
  intro b3 w2 hb3 hS
  have zb3 : rep M (Zr.zc GReply) (Zr.zd : GReply) := Zr.zr
  refine WL_nil (nm_then ?_)
  refine W_seq ?_
  refine W_reg ?_
  refine WL_y (Y_move (.int .i64 x1) hT_0) ?_
  have k4_0 := GReply.w0 (Zr.zr : rep M (Zr.zc GReply) (Zr.zd : GReply)) (ri x1 : rep M _ _)
  obtain ⟨d5, hd4, hz⟩ := bind_ok hz
  obtain ⟨cs4, hf4, ha4⟩ : ∃ cs, fillZ (([(0, 1), (1, 1), (2, 1)] : List (Nat × Nat))[·]?) (Zr.zc GReply) [(0, .int .i64 x1)] = some cs ∧ rep M cs d5 := ⟨_, (fz_cons (Zr.zr : rep M (Zr.zc GReply) (Zr.zd : GReply)) rfl rfl (Rep.len (ri x1 : rep M _ _)) (by decide) fz_nil), rep_eq (x := ({ code := x1, n := Zr.zd, values := Zr.zd } : GReply)) k4_0 hd4⟩
  refine WL_y (Y_build [(0, .int .i64 x1)] tb38 (bpc rfl bp0) hf4) ?_
  obtain ⟨d8, hd7, hz⟩ := bind_ok hz
  refine WL_c (O_sx 0 3 hS rfl zb3 rfl rfl ha4 rfl rfl (Lf (rr zb3) ha4) hd7 ?_)
  intro cs7 w6 hb7 ha7 hs7 hS
  refine WL_nil (nm_then ?_)
  cases hz
  exact W_ret (R_c (j := 0) rfl rfl (by rw [Rep.len hb7]; exact ta38) hS rfl (Gives.mk (St.drop hS) hE ⟨_, rfl, hb7⟩))
def sameReply_j1 (c10 : Bool) : Option Bool :=
    some c10
def sameReplyD (fu : Nat) (x1 : GReply) (x2 : GReply) : Option Bool :=
    (bif x1.code == x2.code then
    (bif x1.n == x2.n then
    (some (sameZ x1.values x2.values)).bind fun r19 =>
    sameReply_j1 r19
    else
    sameReply_j1 false)
    else
    sameReply_j1 false)
set_option maxRecDepth 100000 in
set_option maxHeartbeats 4000000 in
theorem sameReply_ok {M : Mm} {w : World} {cx1 : List Value} {cx2 : List Value} {x1 : GReply} {x2 : GReply} {fu : Nat} {r : Bool} (hA : Agree M w) (hcx1 : rep M cx1 x1) (hcx2 : rep M cx2 x2) (hz : sameReplyD fu x1 x2 = some r) :
    Calls Try.prog 5 #[.agg cx1.toArray, .agg cx2.toArray] w (GivesV w (.bool r)) := by
  refine calls_W Try.func5 rfl 24 rfl rfl (by kernel_rfl) fun T hT => ?_
  have hT_0 : T 0 = .agg cx1.toArray := hT 0
  have hT_1 : T 1 = .agg cx2.toArray := hT 1
  clear hT
  have hE := Mm.ext.refl w.heap.size noX M
  have hS : St w noX M [] w := St.start hA
  rw [sameReplyD] at hz
  refine W_seq ?_
  refine W_reg ?_
  refine WL_c (O_box (v := .agg cx1.toArray) (cs := cx1) hT_0 rfl hS ?_)
  intro b4 w3 hb4 hS
  refine WL_c (O_box (v := .agg cx2.toArray) (cs := cx2) hT_1 rfl hS ?_)
  intro b6 w5 hb6 hS
  refine WL_y (Y_assign (.bool false) rfl) ?_
  refine WL_nil (nm_then ?_)
  refine W_seqJ (fun T' w' => ∃ M8 c10, Mm.ext w.heap.size noX M M8 ∧ St w noX M8 [.box b6 cx2 38, .box b4 cx1 38] w' ∧ T' 4 = .bool c10 ∧ sameReply_j1 c10 = some r) ?_ ?_
  · have hF12 := Mm.ext.refl w.heap.size noX M
    refine W_reg ?_
    refine WL_y (Y_fa fa38_0 rfl) ?_
    refine WL_y (Y_ld1 (.int .i64 x1.code) ts36 rfl (hS.bvB 1 rfl) (GReply.p0 (rr hcx1))) ?_
    refine WL_y (Y_fa fa38_0 rfl) ?_
    refine WL_y (Y_ld1 (.int .i64 x2.code) ts36 rfl (hS.bvB 0 rfl) (GReply.p0 (rr hcx2))) ?_
    refine WL_y (Y_eql rfl rfl) ?_
    refine WL_y (Y_move (.bool (x1.code == x2.code)) rfl) ?_
    rcases Bool.eq_false_or_eq_true (x1.code == x2.code) with hc13 | hc13
    · replace hz := bif_ok_t hz hc13
      refine WL_gy rfl (bt hc13 rfl) (Y_fa fa38_1 rfl) ?_
      refine WL_gy rfl (bt hc13 rfl) (Y_ld1 (.int .i64 x1.n) ts3 rfl (hS.bvB 1 rfl) (GReply.p1 (rr hcx1))) ?_
      refine WL_gy rfl (bt hc13 rfl) (Y_fa fa38_1 rfl) ?_
      refine WL_gy rfl (bt hc13 rfl) (Y_ld1 (.int .i64 x2.n) ts3 rfl (hS.bvB 0 rfl) (GReply.p1 (rr hcx2))) ?_
      refine WL_gy rfl (bt hc13 rfl) (Y_eql rfl rfl) ?_
      refine WL_y (Y_pick_t (.bool (x1.n == x2.n)) (bt hc13 rfl) rfl) ?_
      refine WL_y (Y_move (.bool (x1.n == x2.n)) rfl) ?_
      rcases Bool.eq_false_or_eq_true (x1.n == x2.n) with hc14 | hc14
      · replace hz := bif_ok_t hz hc14
        refine WL_gy rfl (bt hc14 rfl) (Y_fa fa38_2 rfl) ?_
        obtain ⟨v15, ev15, hv15⟩ := (GReply.p2 (rr hcx1))
        refine WL_gy rfl (bt hc14 rfl) (Y_ld1 v15 ts26 rfl (hS.bvB 1 rfl) ev15) ?_
        refine WL_gy rfl (bt hc14 rfl) (Y_fa fa38_2 rfl) ?_
        obtain ⟨v16, ev16, hv16⟩ := (GReply.p2 (rr hcx2))
        refine WL_gy rfl (bt hc14 rfl) (Y_ld1 v16 ts26 rfl (hS.bvB 0 rfl) ev16) ?_
        obtain ⟨r19, hr18, hz⟩ := bind_ok hz
        replace hr18 := Option.some.inj hr18
        refine WL_g rfl (bt hc14 rfl) (O_val (vs := [v15, v16]) (v := .bool r19) cb14 (args2 rfl rfl) hS (hr18 ▸ (c_sameNumbers hS.agree hv15 hv16)) ?_)
        intro w17 hS
        refine WL_y (Y_pick_t (.bool r19) (bt hc14 rfl) rfl) ?_
        refine WL_y (Y_assign (.bool r19) rfl) ?_
        refine WL_nil (nm_then ?_)
        exact ⟨M, r19, hF12, hS, rfl, hz⟩
      · replace hz := bif_ok_f hz hc14
        refine WL_s (j := 12) rfl (bf hc14 rfl) rfl ?_
        refine WL_s (j := 12) rfl (bf hc14 rfl) rfl ?_
        refine WL_s (j := 12) rfl (bf hc14 rfl) rfl ?_
        refine WL_s (j := 12) rfl (bf hc14 rfl) rfl ?_
        refine WL_s (j := 12) rfl (bf hc14 rfl) rfl ?_
        refine WL_y (Y_pick_f (.bool false) (bf hc14 rfl) rfl) ?_
        refine WL_y (Y_assign (.bool false) rfl) ?_
        refine WL_nil (nm_then ?_)
        exact ⟨M, false, hF12, hS, rfl, hz⟩
    · replace hz := bif_ok_f hz hc13
      refine WL_s (j := 5) rfl (bf hc13 rfl) rfl ?_
      refine WL_s (j := 5) rfl (bf hc13 rfl) rfl ?_
      refine WL_s (j := 5) rfl (bf hc13 rfl) rfl ?_
      refine WL_s (j := 5) rfl (bf hc13 rfl) rfl ?_
      refine WL_s (j := 5) rfl (bf hc13 rfl) rfl ?_
      refine WL_y (Y_pick_f (.bool false) (bf hc13 rfl) rfl) ?_
      refine WL_y (Y_move (.bool false) rfl) ?_
      refine WL_s (j := 12) rfl rfl rfl ?_
      refine WL_s (j := 12) rfl rfl rfl ?_
      refine WL_s (j := 12) rfl rfl rfl ?_
      refine WL_s (j := 12) rfl rfl rfl ?_
      refine WL_s (j := 12) rfl rfl rfl ?_
      refine WL_y (Y_pick_f (.bool false) rfl rfl) ?_
      refine WL_y (Y_assign (.bool false) rfl) ?_
      refine WL_nil (nm_then ?_)
      exact ⟨M, false, hF12, hS, rfl, hz⟩
  · rintro T9 w7 ⟨M8, c10, hx11, hS, hT9_4, hz⟩
    rw [sameReply_j1] at hz
    cases hz
    exact W_ret (R_t1 rfl hT9_4 ⟨rfl, (St.drop (St.drop hS)).kept⟩)
def clNodeND (fu : Nat) (x1 : Int) : Option (GNode × Bool) :=
    (some ({ entries := Zr.zd, order := Zr.zd, values := Zr.zd } : GNode)).bind fun d5 =>
    (some d5).bind fun d8 =>
    some (d8, false)
set_option maxRecDepth 100000 in
set_option maxHeartbeats 4000000 in
theorem clNodeN_ok {M : Mm} {w : World} {x1 : Int} {fu : Nat} {r : GNode × Bool} (hA : Agree M w)  (hz : clNodeND fu x1 = some r) :
    Calls Try.prog 4 #[.pointer none, .int .i64 x1] w (Gives M w (fun M' u => ∃ c0, u = .tuple #[.agg c0.toArray, .bool r.2] ∧ rep M' c0 r.1)) := by
  refine calls_W Try.func4 rfl 48 rfl rfl (by kernel_rfl) fun T hT => ?_
  have hT_0 : T 0 = .pointer none := hT 0
  have hT_1 : T 1 = .int .i64 x1 := hT 1
  clear hT
  have hE := Mm.ext.refl w.heap.size noX M
  have hS : St w noX M [] w := St.start hA
  rw [clNodeND] at hz
  refine W_seq ?_
  refine W_reg ?_
  refine WL_c (O_alloc tz32 hS ?_)
  intro b3 w2 hb3 hS
  have zb3 : rep M (Zr.zc GNode) (Zr.zd : GNode) := Zr.zr
  refine WL_y (Y_assign (.bool false) rfl) ?_
  refine WL_nil (nm_then ?_)
  refine W_seq ?_
  refine W_seq ?_
  refine W_reg ?_
  refine WL_y (Y_move (.pointer none) hT_0) ?_
  refine WL_y (Y_eqNN rfl rfl Try.underlying25) ?_
  refine WL_y (Y_move (.bool true) rfl) ?_
  refine WL_s (j := 2) rfl rfl rfl ?_
  refine WL_s (j := 2) rfl rfl rfl ?_
  refine WL_y (Y_pick_t (.bool true) rfl rfl) ?_
  refine WL_y (Y_move (.bool true) rfl) ?_
  refine WL_s (j := 6) rfl rfl rfl ?_
  refine WL_s (j := 6) rfl rfl rfl ?_
  refine WL_y (Y_pick_t (.bool true) rfl rfl) ?_
  refine WL_nil (nm_then ?_)
  refine W_cond_t rfl ?_
  refine W_seq ?_
  refine W_reg ?_
  obtain ⟨d5, hd4, hz⟩ := bind_ok hz
  obtain ⟨cs4, hf4, ha4⟩ : ∃ cs, fillZ (([(0, 192), (192, 1), (193, 8)] : List (Nat × Nat))[·]?) (Zr.zc GNode) [] = some cs ∧ rep M cs d5 := ⟨_, fz_nil, rep_eq (x := ({ entries := Zr.zd, order := Zr.zd, values := Zr.zd } : GNode)) (Zr.zr : rep M (Zr.zc GNode) (Zr.zd : GNode)) hd4⟩
  refine WL_y (Y_build [] tb32 bp0 hf4) ?_
  obtain ⟨d8, hd7, hz⟩ := bind_ok hz
  refine WL_c (O_sx 0 201 hS rfl zb3 rfl rfl ha4 rfl rfl (Lf (rr zb3) ha4) hd7 ?_)
  intro cs7 w6 hb7 ha7 hs7 hS
  refine WL_y (Y_assign (.bool false) rfl) ?_
  refine WL_nil (nm_then ?_)
  cases hz
  exact W_ret (rt_then (R_ct (j := 0) rfl rfl rfl (by rw [Rep.len hb7]; exact ta32) hS rfl (Gives.mk (St.drop hS) hE ⟨_, rfl, hb7⟩)))
def clLogND (fu : Nat) (x1 : Int) : Option ByteArray :=
    some (⟨#[]⟩ : ByteArray)
set_option maxRecDepth 100000 in
set_option maxHeartbeats 4000000 in
theorem clLogN_ok {M : Mm} {w : World} {x1 : Int} {fu : Nat} {r : ByteArray} (hA : Agree M w)  (hz : clLogND fu x1 = some r) :
    Calls Try.prog 8 #[.pointer none, .int .i64 x1] w (GivesV w (.string r)) := by
  refine calls_W Try.func8 rfl 21 rfl rfl (by kernel_rfl) fun T hT => ?_
  have hT_0 : T 0 = .pointer none := hT 0
  have hT_1 : T 1 = .int .i64 x1 := hT 1
  clear hT
  have hE := Mm.ext.refl w.heap.size noX M
  have hS : St w noX M [] w := St.start hA
  rw [clLogND] at hz
  refine W_seq ?_
  refine W_reg ?_
  refine WL_y (Y_assign (.string (⟨#[]⟩ : ByteArray)) rfl) ?_
  refine WL_nil (nm_then ?_)
  refine W_seq ?_
  refine W_seq ?_
  refine W_reg ?_
  refine WL_y (Y_move (.pointer none) hT_0) ?_
  refine WL_y (Y_eqNN rfl rfl Try.underlying25) ?_
  refine WL_y (Y_move (.bool true) rfl) ?_
  refine WL_s (j := 2) rfl rfl rfl ?_
  refine WL_s (j := 2) rfl rfl rfl ?_
  refine WL_y (Y_pick_t (.bool true) rfl rfl) ?_
  refine WL_y (Y_move (.bool true) rfl) ?_
  refine WL_s (j := 6) rfl rfl rfl ?_
  refine WL_s (j := 6) rfl rfl rfl ?_
  refine WL_y (Y_pick_t (.bool true) rfl rfl) ?_
  refine WL_nil (nm_then ?_)
  refine W_cond_t rfl ?_
  refine W_seq ?_
  refine W_reg ?_
  refine WL_y (Y_assign (.string (⟨#[]⟩ : ByteArray)) rfl) ?_
  refine WL_nil (nm_then ?_)
  cases hz
  exact W_ret (rt_then (R_t1 rfl rfl ⟨rfl, hS.kept⟩))
def clCaseND (fu : Nat) (x1 : Int) : Option GCase :=
    (some ({ begun := Zr.zd, fixed := Zr.zd, ops := Zr.zd, told := Zr.zd, known := Zr.zd, deps := Zr.zd, has := Zr.zd, values := Zr.zd } : GCase)).bind fun d5 =>
    (some d5).bind fun d8 =>
    some d8
set_option maxRecDepth 100000 in
set_option maxHeartbeats 4000000 in
theorem clCaseN_ok {M : Mm} {w : World} {x1 : Int} {fu : Nat} {r : GCase} (hA : Agree M w)  (hz : clCaseND fu x1 = some r) :
    Calls Try.prog 10 #[.pointer none, .int .i64 x1] w (Gives M w (fun M' u => ∃ cs, u = .agg cs.toArray ∧ rep M' cs r)) := by
  refine calls_W Try.func10 rfl 32 rfl rfl (by kernel_rfl) fun T hT => ?_
  have hT_0 : T 0 = .pointer none := hT 0
  have hT_1 : T 1 = .int .i64 x1 := hT 1
  clear hT
  have hE := Mm.ext.refl w.heap.size noX M
  have hS : St w noX M [] w := St.start hA
  rw [clCaseND] at hz
  refine W_seq ?_
  refine W_reg ?_
  refine WL_c (O_alloc tz47 hS ?_)
  intro b3 w2 hb3 hS
  have zb3 : rep M (Zr.zc GCase) (Zr.zd : GCase) := Zr.zr
  refine WL_nil (nm_then ?_)
  refine W_seq ?_
  refine W_seq ?_
  refine W_reg ?_
  refine WL_y (Y_move (.pointer none) hT_0) ?_
  refine WL_y (Y_eqNN rfl rfl Try.underlying25) ?_
  refine WL_y (Y_move (.bool true) rfl) ?_
  refine WL_s (j := 2) rfl rfl rfl ?_
  refine WL_s (j := 2) rfl rfl rfl ?_
  refine WL_y (Y_pick_t (.bool true) rfl rfl) ?_
  refine WL_y (Y_move (.bool true) rfl) ?_
  refine WL_s (j := 6) rfl rfl rfl ?_
  refine WL_s (j := 6) rfl rfl rfl ?_
  refine WL_y (Y_pick_t (.bool true) rfl rfl) ?_
  refine WL_nil (nm_then ?_)
  refine W_cond_t rfl ?_
  refine W_seq ?_
  refine W_reg ?_
  obtain ⟨d5, hd4, hz⟩ := bind_ok hz
  obtain ⟨cs4, hf4, ha4⟩ : ∃ cs, fillZ (([(0, 1), (1, 1), (2, 1), (3, 6), (9, 6), (15, 1), (16, 4), (20, 4)] : List (Nat × Nat))[·]?) (Zr.zc GCase) [] = some cs ∧ rep M cs d5 := ⟨_, fz_nil, rep_eq (x := ({ begun := Zr.zd, fixed := Zr.zd, ops := Zr.zd, told := Zr.zd, known := Zr.zd, deps := Zr.zd, has := Zr.zd, values := Zr.zd } : GCase)) (Zr.zr : rep M (Zr.zc GCase) (Zr.zd : GCase)) hd4⟩
  refine WL_y (Y_build [] tb47 bp0 hf4) ?_
  obtain ⟨d8, hd7, hz⟩ := bind_ok hz
  refine WL_c (O_sx 0 24 hS rfl zb3 rfl rfl ha4 rfl rfl (Lf (rr zb3) ha4) hd7 ?_)
  intro cs7 w6 hb7 ha7 hs7 hS
  refine WL_nil (nm_then ?_)
  cases hz
  exact W_ret (rt_then (R_c (j := 0) rfl rfl (by rw [Rep.len hb7]; exact ta47) hS rfl (Gives.mk (St.drop hS) hE ⟨_, rfl, hb7⟩)))
def clNetND (fu : Nat) : Option (List ByteArray) :=
    some []
set_option maxRecDepth 100000 in
set_option maxHeartbeats 4000000 in
theorem clNetN_ok {M : Mm} {w : World} {fu : Nat} {r : (List ByteArray)} (hA : Agree M w)  (hz : clNetND fu = some r) :
    Calls Try.prog 11 #[.pointer none] w (Gives M w (fun M' u => repL M' u r)) := by
  refine calls_W Try.func11 rfl 10 rfl rfl (by kernel_rfl) fun T hT => ?_
  have hT_0 : T 0 = .pointer none := hT 0
  clear hT
  have hE := Mm.ext.refl w.heap.size noX M
  have hS : St w noX M [] w := St.start hA
  rw [clNetND] at hz
  refine W_seq ?_
  refine W_reg ?_
  refine WL_y (Y_assign ((.slice none 0 0)) rfl) ?_
  refine WL_nil (nm_then ?_)
  refine W_seq ?_
  refine W_seq ?_
  refine W_reg ?_
  refine WL_y (Y_move (.pointer none) hT_0) ?_
  refine WL_y (Y_eqNN rfl rfl Try.underlying25) ?_
  refine WL_nil (nm_then ?_)
  refine W_cond_t rfl ?_
  refine W_seq ?_
  refine W_reg ?_
  refine WL_y (Y_assign ((.slice none 0 0)) rfl) ?_
  refine WL_nil (nm_then ?_)
  cases hz
  exact W_ret (rt_then (R_t1 rfl rfl (Gives.mk hS hE (repL_nil _))))
def clDoND (fu : Nat) (x1 : GAct) : Option GReply :=
    (clNoD fu 4).bind fun r9 =>
    (some r9).bind fun d12 =>
    some d12
set_option maxRecDepth 100000 in
set_option maxHeartbeats 4000000 in
theorem clDoN_ok {M : Mm} {w : World} {cx1 : List Value} {x1 : GAct} {fu : Nat} {r : GReply} (hA : Agree M w) (hcx1 : rep M cx1 x1) (hz : clDoND fu x1 = some r) :
    Calls Try.prog 6 #[.pointer none, .agg cx1.toArray] w (Gives M w (fun M' u => ∃ cs, u = .agg cs.toArray ∧ rep M' cs r)) := by
  refine calls_W Try.func6 rfl 82 rfl rfl (by kernel_rfl) fun T hT => ?_
  have hT_0 : T 0 = .pointer none := hT 0
  have hT_1 : T 1 = .agg cx1.toArray := hT 1
  clear hT
  have hE := Mm.ext.refl w.heap.size noX M
  have hS : St w noX M [] w := St.start hA
  rw [clDoND] at hz
  refine W_seq ?_
  refine W_reg ?_
  refine WL_c (O_box (v := .agg cx1.toArray) (cs := cx1) hT_1 rfl hS ?_)
  intro b3 w2 hb3 hS
  refine WL_c (O_alloc tz38 hS ?_)
  intro b5 w4 hb5 hS
  have zb5 : rep M (Zr.zc GReply) (Zr.zd : GReply) := Zr.zr
  refine WL_nil (nm_then ?_)
  refine W_seq ?_
  refine W_reg ?_
  refine WL_y (Y_assign (evT (fun _ => undef) (.func 15)) rfl) ?_
  refine WL_nil (nm_then ?_)
  refine W_seq ?_
  refine W_block ?_
  refine W_seq ?_
  refine W_reg ?_
  refine WL_y (Y_move (.pointer none) hT_0) ?_
  refine WL_y (Y_eqNN rfl rfl Try.underlying25) ?_
  refine WL_y (Y_assign (.bool true) rfl) ?_
  refine WL_nil (nm_then ?_)
  refine W_cond_t rfl ?_
  refine W_seq ?_
  refine W_reg ?_
  refine WL_y (Y_move (evT (fun _ => undef) (.func 15)) rfl) ?_
  obtain ⟨r9, hr8, hz⟩ := bind_ok hz
  refine WL_c (OW_fn rfl (O_mem (vs := [.int .i64 4]) (rv := (fun M' u => ∃ cs, u = .agg cs.toArray ∧ rep M' cs r9)) cb15 (args1 rfl) hS (clNo_ok hS.agree hr8)) ?_)
  intro u8 M8 w7 hx8 hu8 hS
  obtain ⟨c8, hq8, f8⟩ := hu8
  subst hq8
  replace zb5 := Rep.mono hx8.1 zb5
  replace hE := Mm.ext.trans hE hx8
  obtain ⟨d12, hd11, hz⟩ := bind_ok hz
  refine WL_c (O_sx 0 3 hS rfl zb5 rfl rfl f8 rfl rfl (Lf (rr zb5) f8) hd11 ?_)
  intro cs11 w10 hb11 ha11 hs11 hS
  refine WL_nil (nm_then ?_)
  cases hz
  exact W_ret (rt_blk (rt_then (R_c (j := 0) rfl rfl (by rw [Rep.len hb11]; exact ta38) hS rfl (Gives.mk (St.drop (St.drop hS)) hE ⟨_, rfl, hb11⟩))))
def clusterNil_j1 (c16 : Bool) : Option Bool :=
    some c16
def clusterNilD (fu : Nat) (x1 : GAct) (x2 : Int) : Option Bool :=
    (clNodeND fu x2).bind fun r7 =>
    (some r7.1).bind fun d12 =>
    (clDoND fu x1).bind fun r22 =>
    (some ({ code := 4, n := Zr.zd, values := Zr.zd } : GReply)).bind fun d24 =>
    (sameReplyD fu r22 d24).bind fun r27 =>
    (bif r27 then
    (some ({ entries := Zr.zd, order := Zr.zd, values := Zr.zd } : GNode)).bind fun d31 =>
    (sameNodeD fu d12 d31).bind fun r34 =>
    (bif r34 then
    (bif !r7.2 then
    (clLogND fu x2).bind fun r39 =>
    (bif r39.toList == (⟨#[]⟩ : ByteArray).toList then
    (clCaseND fu x2).bind fun r43 =>
    (some ({ begun := Zr.zd, fixed := Zr.zd, ops := Zr.zd, told := Zr.zd, known := Zr.zd, deps := Zr.zd, has := Zr.zd, values := Zr.zd } : GCase)).bind fun d45 =>
    (sameCaseD fu r43 d45).bind fun r48 =>
    (bif r48 then
    (clNetND fu).bind fun r52 =>
    clusterNil_j1 ((r52.length : Int) == 0)
    else
    clusterNil_j1 false)
    else
    clusterNil_j1 false)
    else
    clusterNil_j1 false)
    else
    clusterNil_j1 false)
    else
    clusterNil_j1 false)
set_option maxRecDepth 100000 in
set_option maxHeartbeats 4000000 in
theorem clusterNil_ok {M : Mm} {w : World} {cx1 : List Value} {x1 : GAct} {x2 : Int} {fu : Nat} {r : Bool} (hA : Agree M w) (hcx1 : rep M cx1 x1) (hz : clusterNilD fu x1 x2 = some r) :
    Calls Try.prog 3 #[.agg cx1.toArray, .int .i64 x2] w (GivesV w (.bool r)) := by
  refine calls_W Try.func3 rfl 47 rfl rfl (by kernel_rfl) fun T hT => ?_
  have hT_0 : T 0 = .agg cx1.toArray := hT 0
  have hT_1 : T 1 = .int .i64 x2 := hT 1
  clear hT
  have hE := Mm.ext.refl w.heap.size noX M
  have hS : St w noX M [] w := St.start hA
  rw [clusterNilD] at hz
  refine W_seq ?_
  refine W_reg ?_
  refine WL_c (O_box (v := .agg cx1.toArray) (cs := cx1) hT_0 rfl hS ?_)
  intro b4 w3 hb4 hS
  refine WL_y (Y_assign (.bool false) rfl) ?_
  refine WL_nil (nm_then ?_)
  refine W_seq ?_
  refine W_reg ?_
  refine WL_y (Y_assign (.pointer none) rfl) ?_
  refine WL_nil (nm_then ?_)
  refine W_seq ?_
  refine W_reg ?_
  refine WL_y (Y_move (.pointer none) rfl) ?_
  refine WL_y (Y_move (.int .i64 x2) hT_1) ?_
  obtain ⟨r7, hr6, hz⟩ := bind_ok hz
  refine WL_c (O_mem (vs := [.pointer none, .int .i64 x2]) (rv := (fun M' u => ∃ c0, u = .tuple #[.agg c0.toArray, .bool r7.2] ∧ rep M' c0 r7.1)) cb4 (args2 rfl rfl) hS (clNodeN_ok hS.agree hr6) ?_)
  intro u6 M6 w5 hx6 hu6 hS
  obtain ⟨c6_0, hq6, f6_0⟩ := hu6
  subst hq6
  replace hcx1 := Rep.mono hx6.1 hcx1
  refine WL_y (Y_move (.tuple #[.agg c6_0.toArray, .bool r7.2]) rfl) ?_
  refine WL_y (Y_extract (v := .agg c6_0.toArray) rfl rfl) ?_
  refine WL_y (Y_extract (v := .bool r7.2) rfl rfl) ?_
  refine WL_c (O_alloc tz32 hS ?_)
  intro b9 w8 hb9 hS
  have zb9 : rep M6 (Zr.zc GNode) (Zr.zd : GNode) := Zr.zr
  obtain ⟨d12, hd11, hz⟩ := bind_ok hz
  refine WL_c (O_sx 0 201 hS rfl zb9 rfl rfl f6_0 rfl rfl (Lf (rr zb9) f6_0) hd11 ?_)
  intro cs11 w10 hb11 ha11 hs11 hS
  refine WL_y (Y_assign (.bool r7.2) rfl) ?_
  refine WL_nil (nm_then ?_)
  refine W_seqJ (fun T' w' => ∃ M14 c16, Mm.ext w.heap.size noX M6 M14 ∧ St w noX M14 [.box b9 cs11 32, .box b4 cx1 24] w' ∧ T' 4 = .bool c16 ∧ clusterNil_j1 c16 = some r) ?_ ?_
  · have hF18 := Mm.ext.refl w.heap.size noX M6
    refine W_reg ?_
    refine WL_y (Y_move (.pointer none) rfl) ?_
    have ha19 := (rr hcx1)
    refine WL_y (Y_ldn ta24 rfl (hS.bvB 1 rfl) (Rep.len ha19)) ?_
    obtain ⟨r22, hr21, hz⟩ := bind_ok hz
    refine WL_c (O_mem (vs := [.pointer none, .agg (sl cx1 (0) 4).toArray]) (rv := (fun M' u => ∃ cs, u = .agg cs.toArray ∧ rep M' cs r22)) cb6 (args2 rfl rfl) hS (clDoN_ok hS.agree ha19 hr21) ?_)
    intro u21 M21 w20 hx21 hu21 hS
    obtain ⟨c21, hq21, f21⟩ := hu21
    subst hq21
    replace hb11 := Rep.mono hx21.1 hb11
    replace hF18 := Mm.ext.trans hF18 hx21
    have k23_0 := GReply.w0 (Zr.zr : rep M21 (Zr.zc GReply) (Zr.zd : GReply)) (ri 4 : rep M21 _ _)
    obtain ⟨d24, hd23, hz⟩ := bind_ok hz
    obtain ⟨cs23, hf23, ha23⟩ : ∃ cs, fillZ (([(0, 1), (1, 1), (2, 1)] : List (Nat × Nat))[·]?) (Zr.zc GReply) [(0, .int .i64 4)] = some cs ∧ rep M21 cs d24 := ⟨_, (fz_cons (Zr.zr : rep M21 (Zr.zc GReply) (Zr.zd : GReply)) rfl rfl (Rep.len (ri 4 : rep M21 _ _)) (by decide) fz_nil), rep_eq (x := ({ code := 4, n := Zr.zd, values := Zr.zd } : GReply)) k23_0 hd23⟩
    refine WL_y (Y_build [(0, .int .i64 4)] tb38 (bpc rfl bp0) hf23) ?_
    obtain ⟨r27, hr26, hz⟩ := bind_ok hz
    refine WL_c (O_val (vs := [.agg c21.toArray, .agg cs23.toArray]) (v := .bool r27) cb5 (args2 rfl rfl) hS (sameReply_ok hS.agree f21 ha23 hr26) ?_)
    intro w25 hS
    refine WL_y (Y_move (.bool r27) rfl) ?_
    rcases Bool.eq_false_or_eq_true r27 with hc28 | hc28
    · replace hz := bif_ok_t hz hc28
      have ha29 := (rr hb11)
      refine WL_gy rfl (bt hc28 rfl) (Y_ldn ta32 rfl (hS.bvB 0 rfl) (Rep.len ha29)) ?_
      obtain ⟨d31, hd30, hz⟩ := bind_ok hz
      obtain ⟨cs30, hf30, ha30⟩ : ∃ cs, fillZ (([(0, 192), (192, 1), (193, 8)] : List (Nat × Nat))[·]?) (Zr.zc GNode) [] = some cs ∧ rep M21 cs d31 := ⟨_, fz_nil, rep_eq (x := ({ entries := Zr.zd, order := Zr.zd, values := Zr.zd } : GNode)) (Zr.zr : rep M21 (Zr.zc GNode) (Zr.zd : GNode)) hd30⟩
      refine WL_gy rfl (bt hc28 rfl) (Y_build [] tb32 bp0 hf30) ?_
      obtain ⟨r34, hr33, hz⟩ := bind_ok hz
      refine WL_g rfl (bt hc28 rfl) (O_val (vs := [.agg (sl cs11 (0) 201).toArray, .agg cs30.toArray]) (v := .bool r34) cb7 (args2 rfl rfl) hS (sameNode_ok hS.agree ha29 ha30 hr33) ?_)
      intro w32 hS
      refine WL_y (Y_pick_t (.bool r34) (bt hc28 rfl) rfl) ?_
      refine WL_y (Y_move (.bool r34) rfl) ?_
      rcases Bool.eq_false_or_eq_true r34 with hc35 | hc35
      · replace hz := bif_ok_t hz hc35
        refine WL_gy rfl (bt hc35 rfl) (Y_move (.bool r7.2) rfl) ?_
        refine WL_gy rfl (bt hc35 rfl) (Y_not rfl) ?_
        refine WL_y (Y_pick_t (.bool (!r7.2)) (bt hc35 rfl) rfl) ?_
        refine WL_y (Y_move (.bool (!r7.2)) rfl) ?_
        rcases Bool.eq_false_or_eq_true (!r7.2) with hc36 | hc36
        · replace hz := bif_ok_t hz hc36
          refine WL_gy rfl (bt hc36 rfl) (Y_move (.pointer none) rfl) ?_
          refine WL_gy rfl (bt hc36 rfl) (Y_move (.int .i64 x2) hT_1) ?_
          obtain ⟨r39, hr38, hz⟩ := bind_ok hz
          refine WL_g rfl (bt hc36 rfl) (O_val (vs := [.pointer none, .int .i64 x2]) (v := .string r39) cb8 (args2 rfl rfl) hS (clLogN_ok hS.agree hr38) ?_)
          intro w37 hS
          refine WL_gy rfl (bt hc36 rfl) (Y_eqS rfl rfl) ?_
          refine WL_y (Y_pick_t (.bool (r39.toList == (⟨#[]⟩ : ByteArray).toList)) (bt hc36 rfl) rfl) ?_
          refine WL_y (Y_move (.bool (r39.toList == (⟨#[]⟩ : ByteArray).toList)) rfl) ?_
          rcases Bool.eq_false_or_eq_true (r39.toList == (⟨#[]⟩ : ByteArray).toList) with hc40 | hc40
          · replace hz := bif_ok_t hz hc40
            refine WL_gy rfl (bt hc40 rfl) (Y_move (.pointer none) rfl) ?_
            refine WL_gy rfl (bt hc40 rfl) (Y_move (.int .i64 x2) hT_1) ?_
            obtain ⟨r43, hr42, hz⟩ := bind_ok hz
            refine WL_g rfl (bt hc40 rfl) (O_mem (vs := [.pointer none, .int .i64 x2]) (rv := (fun M' u => ∃ cs, u = .agg cs.toArray ∧ rep M' cs r43)) cb10 (args2 rfl rfl) hS (clCaseN_ok hS.agree hr42) ?_)
            intro u42 M42 w41 hx42 hu42 hS
            obtain ⟨c42, hq42, f42⟩ := hu42
            subst hq42
            replace hF18 := Mm.ext.trans hF18 hx42
            obtain ⟨d45, hd44, hz⟩ := bind_ok hz
            obtain ⟨cs44, hf44, ha44⟩ : ∃ cs, fillZ (([(0, 1), (1, 1), (2, 1), (3, 6), (9, 6), (15, 1), (16, 4), (20, 4)] : List (Nat × Nat))[·]?) (Zr.zc GCase) [] = some cs ∧ rep M42 cs d45 := ⟨_, fz_nil, rep_eq (x := ({ begun := Zr.zd, fixed := Zr.zd, ops := Zr.zd, told := Zr.zd, known := Zr.zd, deps := Zr.zd, has := Zr.zd, values := Zr.zd } : GCase)) (Zr.zr : rep M42 (Zr.zc GCase) (Zr.zd : GCase)) hd44⟩
            refine WL_gy rfl (bt hc40 rfl) (Y_build [] tb47 bp0 hf44) ?_
            obtain ⟨r48, hr47, hz⟩ := bind_ok hz
            refine WL_g rfl (bt hc40 rfl) (O_val (vs := [.agg c42.toArray, .agg cs44.toArray]) (v := .bool r48) cb9 (args2 rfl rfl) hS (sameCase_ok hS.agree f42 ha44 hr47) ?_)
            intro w46 hS
            refine WL_y (Y_pick_t (.bool r48) (bt hc40 rfl) rfl) ?_
            refine WL_y (Y_move (.bool r48) rfl) ?_
            rcases Bool.eq_false_or_eq_true r48 with hc49 | hc49
            · replace hz := bif_ok_t hz hc49
              refine WL_gy rfl (bt hc49 rfl) (Y_move (.pointer none) rfl) ?_
              obtain ⟨r52, hr51, hz⟩ := bind_ok hz
              refine WL_g rfl (bt hc49 rfl) (O_mem (vs := [.pointer none]) (rv := (fun M' u => repL M' u r52)) cb11 (args1 rfl) hS (clNetN_ok hS.agree hr51) ?_)
              intro u51 M51 w50 hx51 hu51 hS
              have f51 : repL M51 u51 r52 := hu51
              replace hF18 := Mm.ext.trans hF18 hx51
              obtain ⟨a53, c53, hv53, _⟩ := repL_shape f51
              refine WL_gy rfl (bt hc49 rfl) (Y_lenL Try.underlying49 (tr2 hv53 rfl)) ?_
              refine WL_gy rfl (bt hc49 rfl) (Y_eql rfl rfl) ?_
              refine WL_y (Y_pick_t (.bool ((r52.length : Int) == 0)) (bt hc49 rfl) rfl) ?_
              refine WL_y (Y_assign (.bool ((r52.length : Int) == 0)) rfl) ?_
              refine WL_nil (nm_then ?_)
              exact ⟨M51, ((r52.length : Int) == 0), hF18, hS, rfl, hz⟩
            · replace hz := bif_ok_f hz hc49
              refine WL_s (j := 27) rfl (bf hc49 rfl) rfl ?_
              refine WL_s (j := 27) rfl (bf hc49 rfl) rfl ?_
              refine WL_s (j := 27) rfl (bf hc49 rfl) rfl ?_
              refine WL_s (j := 27) rfl (bf hc49 rfl) rfl ?_
              refine WL_y (Y_pick_f (.bool false) (bf hc49 rfl) rfl) ?_
              refine WL_y (Y_assign (.bool false) rfl) ?_
              refine WL_nil (nm_then ?_)
              exact ⟨M42, false, hF18, hS, rfl, hz⟩
          · replace hz := bif_ok_f hz hc40
            refine WL_s (j := 20) rfl (bf hc40 rfl) rfl ?_
            refine WL_s (j := 20) rfl (bf hc40 rfl) rfl ?_
            refine WL_s (j := 20) rfl (bf hc40 rfl) rfl ?_
            refine WL_s (j := 20) rfl (bf hc40 rfl) rfl ?_
            refine WL_s (j := 20) rfl (bf hc40 rfl) rfl ?_
            refine WL_y (Y_pick_f (.bool false) (bf hc40 rfl) rfl) ?_
            refine WL_y (Y_move (.bool false) rfl) ?_
            refine WL_s (j := 27) rfl rfl rfl ?_
            refine WL_s (j := 27) rfl rfl rfl ?_
            refine WL_s (j := 27) rfl rfl rfl ?_
            refine WL_s (j := 27) rfl rfl rfl ?_
            refine WL_y (Y_pick_f (.bool false) rfl rfl) ?_
            refine WL_y (Y_assign (.bool false) rfl) ?_
            refine WL_nil (nm_then ?_)
            exact ⟨M21, false, hF18, hS, rfl, hz⟩
        · replace hz := bif_ok_f hz hc36
          refine WL_s (j := 14) rfl (bf hc36 rfl) rfl ?_
          refine WL_s (j := 14) rfl (bf hc36 rfl) rfl ?_
          refine WL_s (j := 14) rfl (bf hc36 rfl) rfl ?_
          refine WL_s (j := 14) rfl (bf hc36 rfl) rfl ?_
          refine WL_y (Y_pick_f (.bool false) (bf hc36 rfl) rfl) ?_
          refine WL_y (Y_move (.bool false) rfl) ?_
          refine WL_s (j := 20) rfl rfl rfl ?_
          refine WL_s (j := 20) rfl rfl rfl ?_
          refine WL_s (j := 20) rfl rfl rfl ?_
          refine WL_s (j := 20) rfl rfl rfl ?_
          refine WL_s (j := 20) rfl rfl rfl ?_
          refine WL_y (Y_pick_f (.bool false) rfl rfl) ?_
          refine WL_y (Y_move (.bool false) rfl) ?_
          refine WL_s (j := 27) rfl rfl rfl ?_
          refine WL_s (j := 27) rfl rfl rfl ?_
          refine WL_s (j := 27) rfl rfl rfl ?_
          refine WL_s (j := 27) rfl rfl rfl ?_
          refine WL_y (Y_pick_f (.bool false) rfl rfl) ?_
          refine WL_y (Y_assign (.bool false) rfl) ?_
          refine WL_nil (nm_then ?_)
          exact ⟨M21, false, hF18, hS, rfl, hz⟩
      · replace hz := bif_ok_f hz hc35
        refine WL_s (j := 10) rfl (bf hc35 rfl) rfl ?_
        refine WL_s (j := 10) rfl (bf hc35 rfl) rfl ?_
        refine WL_y (Y_pick_f (.bool false) (bf hc35 rfl) rfl) ?_
        refine WL_y (Y_move (.bool false) rfl) ?_
        refine WL_s (j := 14) rfl rfl rfl ?_
        refine WL_s (j := 14) rfl rfl rfl ?_
        refine WL_s (j := 14) rfl rfl rfl ?_
        refine WL_s (j := 14) rfl rfl rfl ?_
        refine WL_y (Y_pick_f (.bool false) rfl rfl) ?_
        refine WL_y (Y_move (.bool false) rfl) ?_
        refine WL_s (j := 20) rfl rfl rfl ?_
        refine WL_s (j := 20) rfl rfl rfl ?_
        refine WL_s (j := 20) rfl rfl rfl ?_
        refine WL_s (j := 20) rfl rfl rfl ?_
        refine WL_s (j := 20) rfl rfl rfl ?_
        refine WL_y (Y_pick_f (.bool false) rfl rfl) ?_
        refine WL_y (Y_move (.bool false) rfl) ?_
        refine WL_s (j := 27) rfl rfl rfl ?_
        refine WL_s (j := 27) rfl rfl rfl ?_
        refine WL_s (j := 27) rfl rfl rfl ?_
        refine WL_s (j := 27) rfl rfl rfl ?_
        refine WL_y (Y_pick_f (.bool false) rfl rfl) ?_
        refine WL_y (Y_assign (.bool false) rfl) ?_
        refine WL_nil (nm_then ?_)
        exact ⟨M21, false, hF18, hS, rfl, hz⟩
    · replace hz := bif_ok_f hz hc28
      refine WL_s (j := 5) rfl (bf hc28 rfl) rfl ?_
      refine WL_s (j := 5) rfl (bf hc28 rfl) rfl ?_
      refine WL_s (j := 5) rfl (bf hc28 rfl) rfl ?_
      refine WL_y (Y_pick_f (.bool false) (bf hc28 rfl) rfl) ?_
      refine WL_y (Y_move (.bool false) rfl) ?_
      refine WL_s (j := 10) rfl rfl rfl ?_
      refine WL_s (j := 10) rfl rfl rfl ?_
      refine WL_y (Y_pick_f (.bool false) rfl rfl) ?_
      refine WL_y (Y_move (.bool false) rfl) ?_
      refine WL_s (j := 14) rfl rfl rfl ?_
      refine WL_s (j := 14) rfl rfl rfl ?_
      refine WL_s (j := 14) rfl rfl rfl ?_
      refine WL_s (j := 14) rfl rfl rfl ?_
      refine WL_y (Y_pick_f (.bool false) rfl rfl) ?_
      refine WL_y (Y_move (.bool false) rfl) ?_
      refine WL_s (j := 20) rfl rfl rfl ?_
      refine WL_s (j := 20) rfl rfl rfl ?_
      refine WL_s (j := 20) rfl rfl rfl ?_
      refine WL_s (j := 20) rfl rfl rfl ?_
      refine WL_s (j := 20) rfl rfl rfl ?_
      refine WL_y (Y_pick_f (.bool false) rfl rfl) ?_
      refine WL_y (Y_move (.bool false) rfl) ?_
      refine WL_s (j := 27) rfl rfl rfl ?_
      refine WL_s (j := 27) rfl rfl rfl ?_
      refine WL_s (j := 27) rfl rfl rfl ?_
      refine WL_s (j := 27) rfl rfl rfl ?_
      refine WL_y (Y_pick_f (.bool false) rfl rfl) ?_
      refine WL_y (Y_assign (.bool false) rfl) ?_
      refine WL_nil (nm_then ?_)
      exact ⟨M21, false, hF18, hS, rfl, hz⟩
  · rintro T15 w13 ⟨M14, c16, hx17, hS, hT15_4, hz⟩
    rw [clusterNil_j1] at hz
    cases hz
    exact W_ret (R_t1 rfl hT15_4 ⟨rfl, (St.drop (St.drop hS)).kept⟩)
end Go.Proofs.Ytaimhfbbenbdaaa
namespace Go.Proofs.Ytaimhfbbenbdaaa
inductive Path (E : Nat → Nat → Prop) : Nat → Nat → Prop where
  | refl (a : Nat) : Path E a a
  | tail {a b c : Nat} : Path E a b → E b c → Path E a c
section
variable {E : Nat → Nat → Prop}
theorem Path.trans {a b c : Nat} (h : Path E a b) (k : Path E b c) : Path E a c := by
  induction k with
  | refl => exact h
  | tail _ e ih => exact .tail ih e
theorem Path.one {a b : Nat} (h : E a b) : Path E a b := .tail (.refl a) h
structure Srch where
  mark : Nat → Nat
  low : Nat → Nat
  ring : Nat → Nat
  stack : List Nat
  next : Nat
def updN {α : Type} (f : Nat → α) (i : Nat) (x : α) : Nat → α := fun k => if k = i then x else f k
theorem updN_same {α : Type} (f : Nat → α) (i : Nat) (x : α) : updN f i x i = x := by simp [updN]
theorem updN_other {α : Type} (f : Nat → α) {i k : Nat} (x : α) (h : k ≠ i) : updN f i x k = f k := by simp [updN, h]
def Least (E : Nat → Nat → Prop) (v r : Nat) : Prop := Path E v r ∧ Path E r v ∧ ∀ w, Path E v w → Path E w v → r ≤ w
def wh (f : Nat → Nat) : Nat := (List.range 32).countP (fun i => f i == 0)
theorem countP_turn {p q : Nat → Bool} {n : Nat} (hp : p n = true) (hq : q n = false) (ho : ∀ k, k ≠ n → p k = q k) : ∀ (l : List Nat), l.Nodup → n ∈ l → l.countP p = l.countP q + 1 := by
  have hsame : ∀ (l : List Nat), n ∉ l → l.countP p = l.countP q := by
    intro l
    induction l with
    | nil => intro _; rfl
    | cons a t ih =>
      intro hn
      simp only [List.mem_cons, not_or] at hn
      rw [List.countP_cons, List.countP_cons, ih hn.2, ho a (fun e => hn.1 e.symm)]
  intro l
  induction l with
  | nil => intro _ h; cases h
  | cons a t ih =>
    intro hnd hm
    rw [List.nodup_cons] at hnd
    rw [List.countP_cons, List.countP_cons]
    by_cases e : a = n
    · subst e
      rw [hsame t hnd.1, hp, hq]
      simp
    · have hmt : n ∈ t := by
        rcases List.mem_cons.1 hm with h | h
        · exact absurd h.symm e
        · exact h
      rw [ih hnd.2 hmt, ho a e]
      omega
theorem countP_le {p q : Nat → Bool} (h : ∀ k, p k = true → q k = true) (l : List Nat) : l.countP p ≤ l.countP q := by
  induction l with
  | nil => exact Nat.le_refl _
  | cons a t ih =>
    rw [List.countP_cons, List.countP_cons]
    cases hp : p a with
    | false => simp; omega
    | true => rw [h a hp]; simp; omega
theorem wh_updN {f : Nat → Nat} {n x : Nat} (hn : n < 32) (h0 : f n = 0) (hx : 0 < x) : wh f = wh (updN f n x) + 1 := by
  unfold wh
  refine countP_turn (n := n) (by simp [h0]) ?_ (fun k hk => by rw [updN_other _ _ hk]) _ List.nodup_range (List.mem_range.2 hn)
  rw [updN_same]
  simp
  omega
structure Inv (E : Nat → Nat → Prop) (s : Srch) (G : List Nat) : Prop where
  lt : ∀ v, 0 < s.mark v → v < 32
  le : ∀ v, s.mark v ≤ s.next
  inj : ∀ u v, s.mark u = s.mark v → 0 < s.mark u → u = v
  cnt : s.next + wh s.mark ≤ 32
  sorted : s.stack.Pairwise (fun a b => s.mark a < s.mark b)
  pos : ∀ v ∈ s.stack, 0 < s.mark v
  gray : ∀ g ∈ G, g ∈ s.stack
  black : ∀ v w, 0 < s.mark v → v ∉ G → E v w → 0 < s.mark w
  done : ∀ v w, 0 < s.mark v → v ∉ s.stack → E v w → w ∉ s.stack
  ring : ∀ v, 0 < s.mark v → v ∉ s.stack → Least E v (s.ring v)
  reach : ∀ x ∈ G, ∀ y ∈ s.stack, s.mark x ≤ s.mark y → Path E x y
  back : ∀ y ∈ s.stack, ∃ x ∈ G, s.mark x ≤ s.mark y ∧ Path E y x
structure Ext (E : Nat → Nat → Prop) (s s' : Srch) (n : Nat) : Prop where
  mark_old : ∀ v, 0 < s.mark v → s'.mark v = s.mark v
  low_old : ∀ v, 0 < s.mark v → s'.low v = s.low v
  fresh : ∀ v, s.mark v = 0 → 0 < s'.mark v → s.next < s'.mark v ∧ Path E n v
  next : s.next ≤ s'.next
structure Post (E : Nat → Nat → Prop) (s s' : Srch) (n : Nat) (G : List Nat) : Prop where
  inv : Inv E s' G
  ext : Ext E s s' n
  mine : 0 < s'.mark n
  low_le : s'.low n ≤ s'.mark n
  low_or : s'.low n = s'.mark n ∨ ∃ z ∈ s.stack, s'.mark z = s'.low n ∧ Path E n z
  stack : ∃ new, s'.stack = s.stack ++ new ∧ ∀ y ∈ new, ∀ z ∈ s.stack, E y z → s'.low n ≤ s'.mark z
structure LI (E : Nat → Nat → Prop) (s : Srch) (G : List Nat) (n : Nat) (t : Srch) (ds : Nat → Prop) : Prop where
  was : Inv E s G
  white : s.mark n = 0
  inv : Inv E t (n :: G)
  ext : Ext E s t n
  nmark : t.mark n = s.next + 1
  low_le : t.low n ≤ t.mark n
  low_or : t.low n = t.mark n ∨ ∃ z ∈ s.stack, t.mark z = t.low n ∧ Path E n z
  stack : ∃ new, t.stack = s.stack ++ n :: new ∧ ∀ y ∈ new, ∀ z ∈ s.stack, E y z → t.low n ≤ t.mark z
  proc : ∀ d, ds d → 0 < t.mark d ∧ (d ∈ s.stack → t.low n ≤ t.mark d)
def startT (s : Srch) (n : Nat) : Srch := { mark := updN s.mark n (s.next + 1), low := updN s.low n (s.next + 1), ring := s.ring, stack := s.stack ++ [n], next := s.next + 1 }
theorem LI.start {s : Srch} {G : List Nat} {n : Nat} (h : Inv E s G) (hn : n < 32) (h0 : s.mark n = 0) (hG : ∀ g ∈ G, Path E g n) : LI E s G n (startT s n) (fun _ => False) := by
  have hns : n ∉ s.stack := fun hm => by have := h.pos n hm; omega
  have hmk : ∀ v, v ≠ n → (startT s n).mark v = s.mark v := fun v hv => updN_other _ _ hv
  have hmn : (startT s n).mark n = s.next + 1 := updN_same _ _ _
  have hne : ∀ v, 0 < s.mark v → v ≠ n := fun v hv e => by subst e; omega
  have hst : (startT s n).stack = s.stack ++ [n] := rfl
  refine ⟨h, h0, ⟨fun v hv => ?_, fun v => ?_, fun u v huv hu => ?_, ?_, ?_, fun v hv => ?_, fun g hg => ?_, fun v w hv hg he => ?_, fun v w hv hs he => ?_, fun v hv hs => ?_, fun x hx y hy hxy => ?_, fun y hy => ?_⟩, ⟨fun v hv => hmk v (hne v hv), fun v hv => updN_other _ _ (hne v hv), fun v hv hv' => ?_, Nat.le_succ _⟩, hmn, ?_, .inl ?_, ⟨[], rfl, by simp⟩, fun d hd => hd.elim⟩
  · by_cases e : v = n
    · subst e; exact hn
    · rw [hmk v e] at hv; exact h.lt v hv
  · show _ ≤ s.next + 1
    by_cases e : v = n
    · subst e; rw [hmn]; exact Nat.le_refl _
    · rw [hmk v e]; have := h.le v; omega
  · by_cases e1 : u = n
    · by_cases e2 : v = n
      · rw [e1, e2]
      · subst e1; rw [hmn, hmk v e2] at huv; have := h.le v; omega
    · by_cases e2 : v = n
      · subst e2; rw [hmn, hmk u e1] at huv; have := h.le u; omega
      · rw [hmk u e1, hmk v e2] at huv; rw [hmk u e1] at hu; exact h.inj u v huv hu
  · have := wh_updN (x := s.next + 1) hn h0 (by omega)
    have hc := h.cnt
    show s.next + 1 + wh (updN s.mark n (s.next + 1)) ≤ 32
    omega
  · rw [hst, List.pairwise_append]
    refine ⟨?_, List.pairwise_singleton _ _, fun a ha b hb => ?_⟩
    · refine List.Pairwise.imp_of_mem (fun {a b} ha hb hab => ?_) h.sorted
      rw [hmk a (fun e => hns (e ▸ ha)), hmk b (fun e => hns (e ▸ hb))]
      exact hab
    · rw [List.mem_singleton] at hb
      subst hb
      rw [hmn, hmk a (fun e => hns (e ▸ ha))]
      have := h.le a; omega
  · rw [hst, List.mem_append, List.mem_singleton] at hv
    rcases hv with hv | rfl
    · have := h.pos v hv
      rw [hmk v (hne v this)]; exact this
    · rw [hmn]; omega
  · rw [hst, List.mem_append, List.mem_singleton]
    rcases List.mem_cons.1 hg with rfl | hg
    · exact .inr rfl
    · exact .inl (h.gray g hg)
  · simp only [List.mem_cons, not_or] at hg
    rw [hmk v hg.1] at hv
    have := h.black v w hv hg.2 he
    rw [hmk w (hne w this)]; exact this
  · rw [hst, List.mem_append, List.mem_singleton, not_or] at hs
    rw [hmk v hs.2] at hv
    rw [hst, List.mem_append, List.mem_singleton, not_or]
    refine ⟨h.done v w hv hs.1 he, fun e => ?_⟩
    subst e
    have hvG : v ∉ G := fun hg => hs.1 (h.gray v hg)
    have := h.black v w hv hvG he
    omega
  · rw [hst, List.mem_append, List.mem_singleton, not_or] at hs
    rw [hmk v hs.2] at hv
    exact h.ring v hv hs.1
  · rw [hst, List.mem_append, List.mem_singleton] at hy
    rcases List.mem_cons.1 hx with rfl | hx2
    · rcases hy with hy | rfl
      · have hp := h.pos y hy
        rw [hmn, hmk y (hne y hp)] at hxy
        have := h.le y; omega
      · exact .refl _
    · rcases hy with hy | rfl
      · have hp := h.pos y hy
        have hpx := h.pos x (h.gray x hx2)
        rw [hmk x (hne x hpx), hmk y (hne y hp)] at hxy
        exact h.reach x hx2 y hy hxy
      · exact hG x hx2
  · rw [hst, List.mem_append, List.mem_singleton] at hy
    rcases hy with hy | rfl
    · obtain ⟨x, hx, hxy, hp⟩ := h.back y hy
      have hpx := h.pos x (h.gray x hx)
      refine ⟨x, List.mem_cons_of_mem _ hx, ?_, hp⟩
      rw [hmk x (hne x hpx), hmk y (hne y (h.pos y hy))]
      exact hxy
    · exact ⟨y, List.mem_cons_self, Nat.le_refl _, .refl _⟩
  · by_cases e : v = n
    · subst e; rw [hmn]; exact ⟨by omega, .refl _⟩
    · rw [hmk v e] at hv'; omega
  · rw [hmn]; show updN s.low n (s.next + 1) n ≤ _; rw [updN_same]; exact Nat.le_refl _
  · rw [hmn]; exact updN_same _ _ _
theorem Inv.low {s : Srch} {G : List Nat} (h : Inv E s G) (l : Nat → Nat) : Inv E { s with low := l } G :=
  ⟨h.lt, h.le, h.inj, h.cnt, h.sorted, h.pos, h.gray, h.black, h.done, h.ring, h.reach, h.back⟩
section
variable {s t : Srch} {G : List Nat} {n : Nat} {ds : Nat → Prop}
theorem LI.old (h : LI E s G n t ds) {z : Nat} (hz : z ∈ s.stack) : 0 < s.mark z ∧ t.mark z = s.mark z ∧ t.mark z < t.mark n := by
  have h1 := h.was.pos z hz
  have h2 := h.ext.mark_old z h1
  have h3 := h.was.le z
  refine ⟨h1, h2, ?_⟩
  rw [h2, h.nmark]
  omega
theorem LI.new (h : LI E s G n t ds) {new : List Nat} (hst : t.stack = s.stack ++ n :: new) {y : Nat} (hy : y ∈ n :: new) : t.mark n ≤ t.mark y := by
  have h1 := h.inv.sorted
  rw [hst, List.pairwise_append] at h1
  rcases List.mem_cons.1 hy with rfl | hy
  · exact Nat.le_refl _
  · exact Nat.le_of_lt ((List.pairwise_cons.1 h1.2.1).1 y hy)
theorem LI.on {d : Nat} (h : LI E s G n t ds) (hd : d ∈ t.stack) (he : E n d) :
    LI E s G n { t with low := updN t.low n (min (t.low n) (t.mark d)) } (fun x => ds x ∨ x = d) := by
  obtain ⟨new, hst, hnew⟩ := h.stack
  have hlow2 : (updN t.low n (min (t.low n) (t.mark d))) n = min (t.low n) (t.mark d) := updN_same _ _ _
  refine ⟨h.was, h.white, h.inv.low _, ⟨h.ext.mark_old, fun v hv => ?_, h.ext.fresh, h.ext.next⟩, h.nmark, ?_, ?_, ⟨new, hst, fun y hy z hz hyz => ?_⟩, fun x hx => ?_⟩
  · have hvn : v ≠ n := fun e => by subst e; rw [h.white] at hv; omega
    show updN t.low n _ v = _
    rw [updN_other _ _ hvn]
    exact h.ext.low_old v hv
  · show updN t.low n _ n ≤ t.mark n
    rw [hlow2]
    exact Nat.le_trans (Nat.min_le_left _ _) h.low_le
  · show updN t.low n _ n = t.mark n ∨ ∃ z ∈ s.stack, t.mark z = updN t.low n _ n ∧ Path E n z
    rw [hlow2]
    by_cases hle : t.low n ≤ t.mark d
    · rw [Nat.min_eq_left hle]; exact h.low_or
    · rw [Nat.min_eq_right (by omega)]
      have hll := h.low_le
      refine .inr ⟨d, ?_, rfl, Path.one he⟩
      have hd' := hd
      rw [hst] at hd'
      rcases List.mem_append.1 hd' with h3 | h3
      · exact h3
      · have h4 := h.new hst h3
        omega
  · show updN t.low n _ n ≤ t.mark z
    rw [hlow2]
    exact Nat.le_trans (Nat.min_le_left _ _) (hnew y hy z hz hyz)
  · show 0 < t.mark x ∧ (x ∈ s.stack → updN t.low n _ n ≤ t.mark x)
    rw [hlow2]
    rcases hx with hx | rfl
    · have h1 := h.proc x hx
      exact ⟨h1.1, fun hs => Nat.le_trans (Nat.min_le_left _ _) (h1.2 hs)⟩
    · exact ⟨h.inv.pos x hd, fun _ => Nat.min_le_right _ _⟩
theorem LI.skip {d : Nat} (h : LI E s G n t ds) (hm : 0 < t.mark d) (hd : d ∉ t.stack) : LI E s G n t (fun x => ds x ∨ x = d) := by
  obtain ⟨new, hst, hnew⟩ := h.stack
  refine ⟨h.was, h.white, h.inv, h.ext, h.nmark, h.low_le, h.low_or, h.stack, fun x hx => ?_⟩
  rcases hx with hx | rfl
  · exact h.proc x hx
  · exact ⟨hm, fun hs => absurd (by rw [hst]; exact List.mem_append_left _ hs) hd⟩
theorem LI.keep (h : LI E s G n t ds) (hall : ∀ d, E n d → ds d) (hlow : t.low n ≠ t.mark n) : Post E s t n G := by
  obtain ⟨new, hst, hnew⟩ := h.stack
  have hlt : t.low n < t.mark n := Nat.lt_of_le_of_ne h.low_le hlow
  obtain ⟨z, hz, hm, hp⟩ : ∃ z ∈ s.stack, t.mark z = t.low n ∧ Path E n z := by
    rcases h.low_or with h1 | h1
    · exact absurd h1 hlow
    · exact h1
  refine ⟨⟨h.inv.lt, h.inv.le, h.inv.inj, h.inv.cnt, h.inv.sorted, h.inv.pos, fun g hg => h.inv.gray g (List.mem_cons_of_mem _ hg), fun v w hv hg hvw => ?_, h.inv.done, h.inv.ring, fun x hx => h.inv.reach x (List.mem_cons_of_mem _ hx), fun y hy => ?_⟩, h.ext, by rw [h.nmark]; omega, h.low_le, h.low_or, ⟨n :: new, hst, fun y hy z hz hyz => ?_⟩⟩
  · by_cases e : v = n
    · subst e; exact (h.proc w (hall w hvw)).1
    · exact h.inv.black v w hv (by simp only [List.mem_cons, not_or]; exact ⟨e, hg⟩) hvw
  · obtain ⟨x, hx, hxy, p⟩ := h.inv.back y hy
    rcases List.mem_cons.1 hx with rfl | hx
    · obtain ⟨x', hx', hxz, p'⟩ := h.was.back z hz
      have h1 := h.old hz
      have h2 := h.old (h.was.gray x' hx')
      exact ⟨x', hx', by omega, (p.trans hp).trans p'⟩
    · exact ⟨x, hx, hxy, p⟩
  · rcases List.mem_cons.1 hy with rfl | hy
    · exact (h.proc z (hall z hyz)).2 hz
    · exact hnew y hy z hz hyz
end
theorem Inv.empty {s : Srch} (h1 : ∀ v, s.mark v = 0) (h2 : s.stack = []) (h3 : s.next = 0) : Inv E s [] := by
  refine ⟨fun v hv => ?_, fun v => ?_, fun u v _ hu => ?_, ?_, (by rw [h2]; exact .nil), fun v hv => ?_, fun g hg => (by cases hg), fun v w hv => ?_, fun v w hv => ?_, fun v hv => ?_, fun x hx => (by cases hx), fun y hy => ?_⟩
  · rw [h1] at hv; omega
  · rw [h1]; omega
  · rw [h1] at hu; omega
  · rw [h3]
    have : wh s.mark ≤ 32 := by
      have := List.countP_le_length (p := fun i => s.mark i == 0) (l := List.range 32)
      rw [List.length_range] at this
      exact this
    omega
  · rw [h2] at hv; cases hv
  · rw [h1] at hv; omega
  · rw [h1] at hv; omega
  · rw [h1] at hv; omega
  · rw [h2] at hy; cases hy
end
end Go.Proofs.Ytaimhfbbenbdaaa
namespace Go.Proofs.Ytaimhfbbenbdaaa
set_option linter.unusedVariables false
theorem nodup_len : ∀ (n : Nat) (l : List Nat), l.Nodup → (∀ x ∈ l, x < n) → l.length ≤ n
  | 0, l, _, h => by
    cases l with
    | nil => simp
    | cons a t => exact absurd (h a List.mem_cons_self) (Nat.not_lt_zero _)
  | n + 1, l, hn, h => by
    have h1 := nodup_len n (l.filter (· != n)) (hn.filter _) (fun x hx => by
      rw [List.mem_filter] at hx
      have := h x hx.1
      have h2 : x ≠ n := by simpa using hx.2
      omega)
    have h2 : l.length ≤ (l.filter (· != n)).length + 1 := by
      clear h1 h
      induction l with
      | nil => simp
      | cons a t ih =>
        rw [List.nodup_cons] at hn
        have ih := ih hn.2
        by_cases e : a = n
        · subst e
          have : t.filter (· != a) = t := List.filter_eq_self.2 fun x hx => by simp; rintro rfl; exact hn.1 hx
          simp [this]
        · rw [List.filter_cons_of_pos (by simpa using e)]
          simp only [List.length_cons]
          omega
    omega
def candO (P : Nat → Nat → Bool) (n : Nat) (out : List Nat) (m : Nat) : Bool := P n m && (!out.contains m && (List.range 32).all fun d => !P m d || (P d m || out.contains d))
def nextO (P : Nat → Nat → Bool) (n : Nat) (out : List Nat) : Option Nat := (List.range 32).find? (candO P n out)
def ringO (P : Nat → Nat → Bool) (c : Nat) : List Nat := (List.range 32).filter fun m => P c m && P m c
structure Pre (P : Nat → Nat → Bool) : Prop where
  refl : ∀ a, a < 32 → P a a = true
  trans : ∀ a b c, P a b = true → P b c = true → P a c = true
  lt : ∀ a b, a < 32 → P a b = true → b < 32
structure OKO (P : Nat → Nat → Bool) (n : Nat) (out : List Nat) : Prop where
  nodup : out.Nodup
  lt : ∀ m ∈ out, m < 32
  sub : ∀ m ∈ out, P n m = true
  dc : ∀ m ∈ out, ∀ d, P m d = true → d ∈ out
section
variable {P : Nat → Nat → Bool} {n : Nat} {out : List Nat}
theorem candO_iff {m : Nat} : candO P n out m = true ↔ P n m = true ∧ m ∉ out ∧ ∀ d, d < 32 → P m d = true → P d m = true ∨ d ∈ out := by
  simp only [candO, Bool.and_eq_true, Bool.not_eq_true', List.all_eq_true, List.mem_range, Bool.or_eq_true, List.contains_eq_mem, decide_eq_true_eq, decide_eq_false_iff_not]
  constructor
  · rintro ⟨h1, h2, h3⟩
    refine ⟨h1, h2, fun d hd hm => ?_⟩
    rcases h3 d hd with h | h
    · rw [hm] at h; cases h
    · exact h
  · rintro ⟨h1, h2, h3⟩
    refine ⟨h1, h2, fun d hd => ?_⟩
    cases hm : P m d with
    | false => exact .inl rfl
    | true => exact .inr (h3 d hd hm)
theorem nextO_some {c : Nat} (h : nextO P n out = some c) : c < 32 ∧ candO P n out c = true ∧ ∀ m, m < c → candO P n out m = false := by
  unfold nextO at h
  have h1 := List.find?_some h
  have h2 := List.mem_of_find?_eq_some h
  refine ⟨List.mem_range.1 h2, h1, fun m hm => ?_⟩
  rw [List.find?_range_eq_some] at h
  have := h.2.2 m hm
  simpa using this
theorem mem_ringO {c m : Nat} : m ∈ ringO P c ↔ m < 32 ∧ P c m = true ∧ P m c = true := by
  simp [ringO, List.mem_filter, List.mem_range]
theorem OKO.nil : OKO P n [] := ⟨List.nodup_nil, by simp, by simp, by simp⟩
theorem OKO.step (hP : Pre P) (hn : n < 32) (h : OKO P n out) {c : Nat} (hc : nextO P n out = some c) : OKO P n (out ++ ringO P c) := by
  obtain ⟨hc32, hcand, _⟩ := nextO_some hc
  rw [candO_iff] at hcand
  obtain ⟨h1, h2, h3⟩ := hcand
  refine ⟨?_, fun m hm => ?_, fun m hm => ?_, fun m hm d hd => ?_⟩
  · rw [List.nodup_append]
    refine ⟨h.nodup, List.nodup_range.filter _, fun a ha b hb => ?_⟩
    rintro rfl
    exact h2 (h.dc a ha c (mem_ringO.1 hb).2.2)
  · rcases List.mem_append.1 hm with hm | hm
    · exact h.lt m hm
    · exact (mem_ringO.1 hm).1
  · rcases List.mem_append.1 hm with hm | hm
    · exact h.sub m hm
    · exact hP.trans _ _ _ h1 (mem_ringO.1 hm).2.1
  · rcases List.mem_append.1 hm with hm | hm
    · exact List.mem_append_left _ (h.dc m hm d hd)
    · obtain ⟨hm32, hcm, hmc⟩ := mem_ringO.1 hm
      have hcd := hP.trans _ _ _ hcm hd
      have hd32 := hP.lt m d hm32 hd
      rcases h3 d hd32 hcd with h4 | h4
      · exact List.mem_append_right _ (mem_ringO.2 ⟨hd32, hcd, h4⟩)
      · exact List.mem_append_left _ h4
theorem OKO.len (h : OKO P n out) : out.length ≤ 32 := nodup_len 32 out h.nodup h.lt
end
end Go.Proofs.Ytaimhfbbenbdaaa
namespace Go.Proofs.Ytaimhfbbenbdaaa
open Go.RowKit
open Rep (rep)
section
variable {α : Type} {n : Nat} {v : Vector α n} {k : Nat}
theorem idxV_ok (hk : k < n) : idxV v (k : Int) = some v[k] := by
  unfold idxV
  rw [if_pos (Int.natCast_nonneg k)]
  simp [hk]
end
def bat (v : Vector Bool 32) (k : Nat) : Bool := v[k]?.getD false
theorem bat_set {v : Vector Bool 32} {k j : Nat} {x : Bool} (hk : k < 32) : bat (v.set k x) j = if k = j then x else bat v j := by
  unfold bat
  by_cases hj : j < 32
  · simp only [Vector.getElem?_set]
    by_cases e : k = j
    · subst e; simp
    · simp [e]
  · have hkj : k ≠ j := by omega
    simp [hj, hkj]
def cz (v : Vector Bool 32) : Nat := (List.range 32).countP fun k => !bat v k
theorem cz_set {v : Vector Bool 32} {k : Nat} (hk : k < 32) (h : bat v k = false) : cz v = cz (v.set k true) + 1 := by
  unfold cz
  refine countP_turn (n := k) (by simp [h]) (by rw [bat_set hk, if_pos rfl]; rfl) (fun j hj => ?_) _ List.nodup_range (List.mem_range.2 hk)
  rw [bat_set hk, if_neg (fun e => hj e.symm)]
theorem cz_mono {v u : Vector Bool 32} (h : ∀ k, bat v k = true → bat u k = true) : cz u ≤ cz v := by
  unfold cz
  refine countP_le (fun k hk => ?_) _
  cases hv : bat v k with
  | false => rfl
  | true => rw [h k hv] at hk; cases hk
def depsAt (g : GGraph) (a : Nat) : List Int := if h : a < 32 then g.deps[a] else []
def Edge (g : GGraph) (a b : Nat) : Prop := a < 32 ∧ bat g.known a = true ∧ (b : Int) ∈ depsAt g a ∧ b < 32
theorem wrs (k : Nat) (h : k ≤ 17592186043904) : IntKind.wrap .i64 ((k : Int) + 1) = ((k + 1 : Nat) : Int) := by rw [wr64 (by omega) (by omega)]; omega
structure Fed (ds : List Int) (d : Vector Bool 32) (l : List Int) (d' : Vector Bool 32) (l' : List Int) : Prop where
  keep : ∀ k, bat d k = true → bat d' k = true
  all : ∀ b : Nat, b < 32 → (b : Int) ∈ ds → bat d' b = true
  only : ∀ k, bat d' k = true → bat d k = true ∨ ((k : Int) ∈ ds ∧ (k : Int) ∈ l')
  old : ∀ x, x ∈ l → x ∈ l'
  new : ∀ x, x ∈ l' → x ∈ l ∨ ∃ b : Nat, b < 32 ∧ x = b ∧ (b : Int) ∈ ds ∧ bat d' b = true
  cnt : l'.length + cz d' = l.length + cz d
theorem Fed.refl {d : Vector Bool 32} {l : List Int} : Fed [] d l d l := ⟨fun _ h => h, fun _ _ h => by simp at h, fun _ h => .inl h, fun _ h => h, fun _ h => .inl h, rfl⟩
theorem Fed.skip {x : Int} {ds : List Int} {d d' : Vector Bool 32} {l l' : List Int} (hx : ∀ b : Nat, b < 32 → x = b → bat d b = true) (h : Fed ds d l d' l') : Fed (x :: ds) d l d' l' := by
  refine ⟨h.keep, fun b hb hm => ?_, fun k hk => ?_, h.old, fun y hy => ?_, h.cnt⟩
  · rcases List.mem_cons.1 hm with e | hm
    · exact h.keep b (hx b hb e.symm)
    · exact h.all b hb hm
  · rcases h.only k hk with h1 | h1
    · exact .inl h1
    · exact .inr ⟨List.mem_cons_of_mem _ h1.1, h1.2⟩
  · rcases h.new y hy with h1 | ⟨b, h1, h2, h3, h4⟩
    · exact .inl h1
    · exact .inr ⟨b, h1, h2, List.mem_cons_of_mem _ h3, h4⟩
theorem Fed.push {a : Nat} {ds : List Int} {d d' : Vector Bool 32} {l l' : List Int} (ha : a < 32) (hd : bat d a = false) (h : Fed ds (d.set a true) (l ++ [(a : Int)]) d' l') : Fed ((a : Int) :: ds) d l d' l' := by
  have hset : bat (d.set a true) a = true := by rw [bat_set ha, if_pos rfl]
  refine ⟨fun k hk => h.keep k (by rw [bat_set ha]; split <;> simp [hk]), fun b hb hm => ?_, fun k hk => ?_, fun y hy => h.old y (List.mem_append_left _ hy), fun y hy => ?_, ?_⟩
  · rcases List.mem_cons.1 hm with e | hm
    · have : b = a := by omega
      subst this
      exact h.keep b hset
    · exact h.all b hb hm
  · rcases h.only k hk with h1 | h1
    · rw [bat_set ha] at h1
      by_cases e : a = k
      · subst e
        exact .inr ⟨List.mem_cons_self, h.old _ (by simp)⟩
      · rw [if_neg e] at h1
        exact .inl h1
    · exact .inr ⟨List.mem_cons_of_mem _ h1.1, h1.2⟩
  · rcases h.new y hy with h1 | ⟨b, h1, h2, h3, h4⟩
    · rcases List.mem_append.1 h1 with h1 | h1
      · exact .inl h1
      · rw [List.mem_singleton] at h1
        exact .inr ⟨a, ha, h1, List.mem_cons_self, h.keep a hset⟩
    · exact .inr ⟨b, h1, h2, List.mem_cons_of_mem _ h3, h4⟩
  · have h1 := h.cnt
    have h2 := cz_set ha hd
    rw [List.length_append] at h1
    simp only [List.length_cons, List.length_nil] at h1
    omega
structure Grown (ds : List Int) (d : Vector Bool 32) (c : Bool) (d' : Vector Bool 32) (c' : Bool) : Prop where
  keep : ∀ k, bat d k = true → bat d' k = true
  all : ∀ b : Nat, b < 32 → (b : Int) ∈ ds → bat d' b = true
  only : ∀ k, bat d' k = true → bat d k = true ∨ ((k : Int) ∈ ds ∧ k < 32)
  same : c' = false → c = false ∧ d' = d
  less : c' = true → c = true ∨ cz d' < cz d
theorem Grown.cz {ds : List Int} {d d' : Vector Bool 32} {c c' : Bool} (h : Grown ds d c d' c') : cz d' ≤ cz d := cz_mono h.keep
end Go.Proofs.Ytaimhfbbenbdaaa
namespace Go.Proofs.Ytaimhfbbenbdaaa
open Go.RowKit
open Rep (rep)
theorem LI.sub {E : Nat → Nat → Prop} {s t : Srch} {G : List Nat} {n : Nat} {ds ds' : Nat → Prop} (h : LI E s G n t ds) (hs : ∀ d, ds' d → ds d) : LI E s G n t ds' :=
  ⟨h.was, h.white, h.inv, h.ext, h.nmark, h.low_le, h.low_or, h.stack, fun d hd => h.proc d (hs d hd)⟩
theorem cast_inj {a b : Nat} (h : (a : Int) = b) : a = b := by omega
end Go.Proofs.Ytaimhfbbenbdaaa
namespace Go.Proofs.Ytaimhfbbenbdaaa
open Go.RowKit
open Rep (rep)
def castL (l : List Nat) : List Int := l.map fun k => ((k : Nat) : Int)
theorem castL_len (l : List Nat) : (castL l).length = l.length := by simp [castL]
theorem mem_castL {l : List Nat} {k : Nat} : (k : Int) ∈ castL l ↔ k ∈ l := by
  unfold castL
  rw [List.mem_map]
  constructor
  · rintro ⟨a, ha, e⟩
    have : a = k := cast_inj e
    subst this; exact ha
  · exact fun h => ⟨k, h, rfl⟩
theorem hasZ_castL {l : List Nat} {k : Nat} : hasZ (castL l) (k : Int) = decide (k ∈ l) := by
  rw [Bool.eq_iff_iff, decide_eq_true_eq, ← mem_castL]
  unfold hasZ
  simp
end Go.Proofs.Ytaimhfbbenbdaaa
namespace Go.Proofs.Ytaimhfbbenbdaaa
open Go.RowKit
open Rep (rep)
theorem rising_ge {l : List Int} (h : risingZ l = true) : ∀ i, i < l.length → (i : Int) ≤ l.getD i 0 ∧ l.getD i 0 < 32 := by
  unfold risingZ at h
  rw [allTo_iff] at h
  intro i
  induction i with
  | zero =>
    intro hi
    have := h 0 hi
    unfold riseAt at this
    simp only [Bool.and_eq_true, decide_eq_true_eq] at this
    exact ⟨by have := this.1.1; simpa using this, this.1.2⟩
  | succ i ih =>
    intro hi
    have h1 := ih (by omega)
    have := h (i + 1) hi
    unfold riseAt at this
    simp only [Bool.and_eq_true, decide_eq_true_eq, Bool.or_eq_true, beq_iff_eq, Nat.add_sub_cancel] at this
    refine ⟨?_, this.1.2⟩
    rcases this.2 with h2 | h2
    · omega
    · push_cast
      omega
theorem rising_len {l : List Int} (h : risingZ l = true) : l.length ≤ 32 := by
  rcases Nat.lt_or_ge 32 l.length with h1 | h1
  · have := rising_ge h 32 h1
    omega
  · exact h1
theorem goodOps_len {l : List GOp} (h : goodOpsZ l = true) : 0 < l.length ∧ l.length ≤ 4 := by
  unfold goodOpsZ at h
  simp only [Bool.and_eq_true, decide_eq_true_eq] at h
  omega
theorem goodOps_mem {l : List GOp} (h : goodOpsZ l = true) : ∀ o ∈ l, 1 ≤ o.kind ∧ o.kind ≤ 3 ∧ 0 ≤ o.key ∧ o.key < 8 ∧ -1099511627776 ≤ o.n ∧ o.n ≤ 1099511627776 := by
  intro o ho
  unfold goodOpsZ at h
  simp only [Bool.and_eq_true] at h
  have h1 := (allTo_iff _ _).1 h.1
  obtain ⟨i, hi, rfl⟩ := List.getElem_of_mem ho
  have := h1 i hi
  unfold opAt at this
  rw [List.getD_eq_getElem?_getD, List.getElem?_eq_getElem hi] at this
  simp only [Option.getD_some, Bool.and_eq_true] at this
  have := this.1
  unfold goodOp at this
  simp only [decide_eq_true_eq] at this
  omega
end Go.Proofs.Ytaimhfbbenbdaaa
namespace Go.Proofs.Ytaimhfbbenbdaaa
open Go.RowKit
open Rep (rep)
theorem sameOps_l1_eq {a : List GOp} (ha : a.length ≤ 9000000000000000) : ∀ (n m k : Nat), a.length = k + m → m < n → sameOps_l1 a a n k = some true
  | 0, m, k, _, h => absurd h (by omega)
  | n + 1, 0, k, hk, _ => by rw [sameOps_l1, bif_f (dec_f (by omega))]
  | n + 1, m + 1, k, hk, hn => by
    obtain ⟨x, hx⟩ : ∃ x, a[k]? = some x := ⟨a[k], by simp⟩
    have := sameOps_l1_eq ha n m (k + 1) (by omega) (by omega)
    rw [sameOps_l1, bif_t (dec_t (by omega)), idx_nat, hx, some_bind, some_bind, bif_f (by simp), wr64 (by omega) (by omega)]
    simpa using this
theorem sameOpsD_refl {a : List GOp} {fu : Nat} (ha : a.length ≤ 9000000000000000) (hf : a.length < fu) : sameOpsD fu a a = some true := by
  rw [sameOpsD, bif_f (by simp)]
  exact sameOps_l1_eq ha fu a.length 0 (by omega) hf
theorem sameCaseD_refl {fu : Nat} {c : GCase} (hf : c.ops.length < fu) (h : c.ops.length ≤ 9000000000000000) : sameCaseD fu c c = some true := by
  unfold sameCaseD sameCase_j1
  rw [sameOpsD_refl h hf]
  simp only [some_bind, sameZ_refl, beq_self_eq_true, cond_true, decide_true]
end Go.Proofs.Ytaimhfbbenbdaaa
namespace Go.Proofs.Ytaimhfbbenbdaaa
open Go.RowKit
open Rep (rep)
def eat (v : Vector GEntry 32) (k : Nat) : GEntry := v[k]?.getD Zr.zd
theorem eat_lt {v : Vector GEntry 32} {k : Nat} (hk : k < 32) : v[k] = eat v k := by simp [eat, hk]
theorem idxE {v : Vector GEntry 32} {k : Nat} (hk : k < 32) : idxV v (k : Int) = some (eat v k) := by rw [idxV_ok hk, eat_lt hk]
theorem eat_out {v : Vector GEntry 32} {k : Nat} (hk : ¬ k < 32) : eat v k = Zr.zd := by simp [eat, hk]
def emptyE (e : GEntry) : Bool := ((e.ops.length : Int) == 0) && (((e.first.length : Int) == 0) && (((e.deps.length : Int) == 0) && (((e.at_.length : Int) == 0) && ((e.values.length : Int) == 0))))
def atUp (m : Int) : Int → List Int → Bool
  | _, [] => true
  | b, k :: t => decide (b < k ∧ k < m) && atUp m k t
def bodyOk (k : Int) (e : GEntry) : Bool := goodOpsZ e.ops && (risingZ e.first && (risingZ e.deps && (!hasZ e.first k && (!hasZ e.deps k && (!(e.state == 1 && decide ((e.deps.length : Int) > 0)) && (!(e.state != 3 && decide ((e.at_.length : Int) > 0)) && (!((e.at_.length : Int) != (e.values.length : Int)) && atUp e.ops.length (-1) e.at_)))))))
def restOk (k : Int) (e : GEntry) : Bool := bif e.state == 0 then emptyE e else bodyOk k e
def entryOk (k : Int) (e : GEntry) (there : Bool) : Bool := decide (0 ≤ e.state ∧ e.state ≤ 3) && (((e.state == 3) == there) && restOk k e)
structure GoodN (s : GNode) : Prop where
  nodup : s.order.Nodup
  inr : ∀ m ∈ s.order, 0 ≤ m ∧ m < 32
  ent : ∀ k : Nat, k < 32 → entryOk k (eat s.entries k) (decide ((k : Int) ∈ s.order)) = true
structure ESz (e : GEntry) (N : Nat) : Prop where
  ops : e.ops.length < N ∧ e.ops.length * 24 ≤ 140737488351232
  first : e.first.length < N ∧ e.first.length ≤ 17592186043904
  deps : e.deps.length < N ∧ e.deps.length ≤ 17592186043904
  at_ : e.at_.length < N ∧ e.at_.length ≤ 17592186043904
  values : e.values.length < N ∧ e.values.length ≤ 17592186043904
structure NSz (s : GNode) (N : Nat) : Prop where
  order : s.order.length < N ∧ s.order.length ≤ 17592186043904
  ent : ∀ k, ESz (eat s.entries k) N
end Go.Proofs.Ytaimhfbbenbdaaa
namespace Go.Proofs.Ytaimhfbbenbdaaa
open Go.RowKit
open Rep (rep)
def inWay (s : GNode) (id : Int) (ops : List GOp) (sh : Int) (k : Nat) : Bool := (k : Int) != id && ((eat s.entries k).state != 0 && conflictZ (eat s.entries k).ops ops sh)
def aheadL (s : GNode) (id : Int) (ops : List GOp) (sh : Int) : List Nat := (List.range 32).filter (inWay s id ops sh)
def aheadZ (s : GNode) (id : Int) (ops : List GOp) (sh : Int) : List Int := castL (aheadL s id ops sh)
end Go.Proofs.Ytaimhfbbenbdaaa
namespace Go.Proofs.Ytaimhfbbenbdaaa
open Go.RowKit
open Rep (rep)
theorem frameZ_in {f : GFrame} (h : frameZ f = 0) : (1 ≤ f.kind ∧ f.kind ≤ 5) ∧ (0 ≤ f.node ∧ f.node < 6) ∧ (0 ≤ f.id ∧ f.id < 32) := by
  unfold frameZ at h
  split at h
  · cases h
  · split at h
    · cases h
    · omega
end Go.Proofs.Ytaimhfbbenbdaaa
namespace Go.Proofs.Ytaimhfbbenbdaaa
open Go.RowKit
open Rep (rep)
def vat (v : Vector Int 8) (k : Nat) : Int := v[k]?.getD 0
theorem eat_setI {v : Vector GEntry 32} {k j : Nat} {x : GEntry} (hk : k < 32) : eat (v.setIfInBounds k x) j = if k = j then x else eat v j := by
  unfold eat
  rw [Vector.getElem?_setIfInBounds]
  by_cases e : k = j
  · rw [if_pos e, if_pos e, if_pos hk]; rfl
  · rw [if_neg e, if_neg e]
def doOps (sh : Int) : Nat → List GOp → Vector Int 8 → List Int → List Int → Vector Int 8 × List Int × List Int
  | _, [], v, a, b => (v, a, b)
  | i, o :: t, v, a, b => bif shardZ o.key == sh then doOps sh (i + 1) t (v.setIfInBounds o.key.toNat (doZ (vat v o.key.toNat) o)) (a ++ [(i : Int)]) (b ++ [doZ (vat v o.key.toNat) o]) else doOps sh (i + 1) t v a b
def doneE (e : GEntry) (a b : List Int) : GEntry := { e with state := 3, at_ := a, values := b }
def oneZ (s : GNode) (n : Nat) (sh : Int) : GNode :=
  { entries := s.entries.setIfInBounds n (doneE (eat s.entries n) (doOps sh 0 (eat s.entries n).ops s.values [] []).2.1 (doOps sh 0 (eat s.entries n).ops s.values [] []).2.2), order := s.order ++ [(n : Int)], values := (doOps sh 0 (eat s.entries n).ops s.values [] []).1 }
def KeyOk (l : List GOp) : Prop := ∀ o ∈ l, 0 ≤ o.key ∧ o.key < 8
theorem KeyOk.of {l : List GOp} (h : goodOpsZ l = true) : KeyOk l := fun o ho => by have := goodOps_mem h o ho; omega
theorem atUp_mono {m : Int} : ∀ {l : List Int} {b b' : Int}, b' ≤ b → atUp m b l = true → atUp m b' l = true
  | [], _, _, _, _ => rfl
  | x :: t, b, b', h, ha => by
    unfold atUp at *
    simp only [Bool.and_eq_true, decide_eq_true_eq] at *
    exact ⟨⟨by omega, ha.1.2⟩, ha.2⟩
theorem doOps_at {sh : Int} : ∀ (l : List GOp) (i : Nat) (v : Vector Int 8) (a b : List Int), ∃ L, (doOps sh i l v a b).2.1 = a ++ L ∧ atUp ((i + l.length : Nat) : Int) ((i : Int) - 1) L = true ∧ (doOps sh i l v a b).2.2.length = b.length + L.length
  | [], i, v, a, b => ⟨[], by simp [doOps], rfl, by simp [doOps]⟩
  | o :: t, i, v, a, b => by
    unfold doOps
    cases h : (shardZ o.key == sh)
    · obtain ⟨L, h1, h2, h3⟩ := doOps_at t (i + 1) v a b
      rw [cond_false]
      refine ⟨L, h1, ?_, h3⟩
      rw [show i + (o :: t).length = i + 1 + t.length from by simp; omega]
      exact atUp_mono (by omega) h2
    · obtain ⟨L, h1, h2, h3⟩ := doOps_at t (i + 1) (v.setIfInBounds o.key.toNat (doZ (vat v o.key.toNat) o)) (a ++ [(i : Int)]) (b ++ [doZ (vat v o.key.toNat) o])
      rw [cond_true]
      refine ⟨(i : Int) :: L, by rw [h1]; simp, ?_, by rw [h3]; simp; omega⟩
      rw [show i + (o :: t).length = i + 1 + t.length from by simp; omega]
      unfold atUp
      simp only [Bool.and_eq_true, decide_eq_true_eq]
      refine ⟨⟨by omega, by omega⟩, ?_⟩
      rw [show (i : Int) = ((i + 1 : Nat) : Int) - 1 from by omega]
      exact h2
theorem entryOk_iff {k : Int} {e : GEntry} {t : Bool} : entryOk k e t = true ↔ (0 ≤ e.state ∧ e.state ≤ 3) ∧ (e.state = 3 ↔ t = true) ∧ restOk k e = true := by
  unfold entryOk
  simp only [Bool.and_eq_true, decide_eq_true_eq]
  refine and_congr_right fun _ => and_congr_left fun _ => ?_
  cases t <;> simp
structure Body (k : Int) (e : GEntry) : Prop where
  ops : goodOpsZ e.ops = true
  first : risingZ e.first = true
  deps : risingZ e.deps = true
  nfirst : hasZ e.first k = false
  ndeps : hasZ e.deps k = false
  asked : e.state = 1 → e.deps = []
  undone : e.state ≠ 3 → e.at_ = []
  same : e.at_.length = e.values.length
  up : atUp e.ops.length (-1) e.at_ = true
theorem body_iff {k : Int} {e : GEntry} : bodyOk k e = true ↔ Body k e := by
  unfold bodyOk
  simp only [Bool.and_eq_true, Bool.not_eq_true']
  constructor
  · rintro ⟨h1, h2, h3, h4, h5, h6, h7, h8, h9⟩
    refine ⟨h1, h2, h3, h4, h5, fun h => ?_, fun h => ?_, ?_, h9⟩
    · rw [h] at h6
      simpa using h6
    · have : (e.state != 3) = true := by simpa using h
      rw [this] at h7
      simpa using h7
    · simp only [bne_eq_false_iff_eq] at h8; omega
  · rintro ⟨h1, h2, h3, h4, h5, h6, h7, h8, h9⟩
    refine ⟨h1, h2, h3, h4, h5, ?_, ?_, ?_, h9⟩
    · by_cases h : e.state = 1
      · rw [h6 h]; simp
      · simp [h]
    · by_cases h : e.state = 3
      · rw [h]; rfl
      · rw [h7 h]; simp
    · simp only [bne_eq_false_iff_eq]; omega
theorem GoodN.body {s : GNode} (h : GoodN s) {k : Nat} (hk : k < 32) (h0 : (eat s.entries k).state ≠ 0) : Body k (eat s.entries k) := by
  have := (entryOk_iff.1 (h.ent k hk)).2.2
  unfold restOk at this
  rw [bif_f (by simpa using h0)] at this
  exact body_iff.1 this
theorem GoodN.state {s : GNode} (h : GoodN s) {k : Nat} (hk : k < 32) : 0 ≤ (eat s.entries k).state ∧ (eat s.entries k).state ≤ 3 := (entryOk_iff.1 (h.ent k hk)).1
theorem GoodN.done {s : GNode} (h : GoodN s) {k : Nat} (hk : k < 32) : (eat s.entries k).state = 3 ↔ (k : Int) ∈ s.order := by
  rw [(entryOk_iff.1 (h.ent k hk)).2.1]; simp
theorem emptyE_iff {e : GEntry} : emptyE e = true ↔ e.ops = [] ∧ e.first = [] ∧ e.deps = [] ∧ e.at_ = [] ∧ e.values = [] := by
  unfold emptyE
  simp [List.length_eq_zero_iff]
theorem GoodN.empty {s : GNode} (h : GoodN s) {k : Nat} (hk : k < 32) (h0 : (eat s.entries k).state = 0) : (eat s.entries k).ops = [] ∧ (eat s.entries k).first = [] ∧ (eat s.entries k).deps = [] ∧ (eat s.entries k).at_ = [] ∧ (eat s.entries k).values = [] := by
  have := (entryOk_iff.1 (h.ent k hk)).2.2
  unfold restOk at this
  rw [bif_t (by simpa using h0)] at this
  exact emptyE_iff.1 this
theorem nodup_len_int {l : List Int} (h : l.Nodup) (hr : ∀ m ∈ l, 0 ≤ m ∧ m < 32) : l.length ≤ 32 := by
  have h1 : (l.map Int.toNat).Nodup := by
    refine List.pairwise_map.2 (h.imp_of_mem fun {a b} ha hb hab => ?_)
    have := hr a ha
    have := hr b hb
    omega
  have := nodup_len 32 (l.map Int.toNat) h1 fun x hx => by
    obtain ⟨y, hy, rfl⟩ := List.mem_map.1 hx
    have := hr y hy
    omega
  simpa using this
theorem GoodN.len {s : GNode} (h : GoodN s) : s.order.length ≤ 32 := nodup_len_int h.nodup h.inr
theorem GoodN.set {s t : GNode} (h : GoodN s) {n : Nat} (hn : n < 32) {e : GEntry} (he : t.entries = s.entries.setIfInBounds n e) (ho : t.order = s.order) (h3 : (eat s.entries n).state ≠ 3) (h1 : 1 ≤ e.state ∧ e.state ≤ 2) (hb : Body n e) : GoodN t := by
  refine ⟨by rw [ho]; exact h.nodup, by rw [ho]; exact h.inr, fun k hk => ?_⟩
  rw [he, ho, eat_setI hn]
  by_cases e' : n = k
  · subst e'
    rw [if_pos rfl]
    refine entryOk_iff.2 ⟨by omega, ⟨fun h => by omega, fun hm => ?_⟩, ?_⟩
    · exact absurd ((h.done hn).2 (by simpa using hm)) h3
    · unfold restOk
      rw [bif_f (by simp; omega)]
      exact body_iff.2 hb
  · rw [if_neg e']
    exact h.ent k hk
theorem GoodN.one {s : GNode} (h : GoodN s) {n : Nat} (hn : n < 32) (h2 : (eat s.entries n).state = 2) (sh : Int) : GoodN (oneZ s n sh) := by
  have hb := h.body hn (by omega)
  have hno : (n : Int) ∉ s.order := fun hm => by have := (h.done hn).2 hm; omega
  refine ⟨?_, ?_, fun k hk => ?_⟩
  · refine List.nodup_append.2 ⟨h.nodup, by simp, fun a ha b hb => ?_⟩
    rw [List.mem_singleton.1 hb]
    rintro rfl
    exact hno ha
  · intro m hm
    rcases List.mem_append.1 hm with hm | hm
    · exact h.inr m hm
    · rw [List.mem_singleton.1 hm]; omega
  · show entryOk k (eat (s.entries.setIfInBounds n _) k) (decide ((k : Int) ∈ s.order ++ [(n : Int)])) = true
    rw [eat_setI hn]
    by_cases e' : n = k
    · subst e'
      rw [if_pos rfl]
      obtain ⟨L, a1, a2, a3⟩ := doOps_at (sh := sh) (eat s.entries n).ops 0 s.values [] []
      refine entryOk_iff.2 ⟨(show (0 : Int) ≤ 3 ∧ (3 : Int) ≤ 3 by decide), ⟨fun _ => by simp, fun _ => rfl⟩, ?_⟩
      show (bif false then _ else bodyOk _ _) = true
      rw [cond_false]
      refine body_iff.2 ⟨hb.ops, hb.first, hb.deps, hb.nfirst, hb.ndeps, fun h => ?_, fun h => absurd rfl h, ?_, ?_⟩
      · have : (3 : Int) = 1 := h
        omega
      · show (doOps sh 0 (eat s.entries n).ops s.values [] []).2.1.length = (doOps sh 0 (eat s.entries n).ops s.values [] []).2.2.length
        rw [a1, a3]
        simp
      · show atUp _ (-1) (doOps sh 0 _ s.values [] []).2.1 = true
        rw [a1, List.nil_append]
        rw [Nat.zero_add] at a2
        exact a2
    · rw [if_neg e']
      have : decide ((k : Int) ∈ s.order ++ [(n : Int)]) = decide ((k : Int) ∈ s.order) := by
        apply decide_eq_decide.2
        simp only [List.mem_append, List.mem_singleton]
        constructor
        · rintro (h | h)
          · exact h
          · omega
        · exact .inl
      rw [this]
      exact h.ent k hk
end Go.Proofs.Ytaimhfbbenbdaaa
namespace Go.Proofs.Ytaimhfbbenbdaaa
open Go.RowKit Go.ChangeShapes Go.WideShapes Go.ChangeAt Go.Deep
section
variable {H : Type} {enc : TypeId × Value → H} {P : Program} {w : World}
theorem weightsAll_mem {P : Program} {e : TypeId} : ∀ {ds : List (DataW H)} {d : DataW H}, d ∈ ds → ∀ n ∈ d.weights P e, n ∈ DataW.weightsAll P e ds
  | d0 :: ds, d, hd, n, hn => by
    simp only [DataW.weightsAll, List.mem_append]
    rcases List.mem_cons.1 hd with h | h
    · subst h; exact .inl hn
    · exact .inr (weightsAll_mem h n hn)
end
end Go.Proofs.Ytaimhfbbenbdaaa
namespace Go.Proofs.Ytaimhfbbenbdaaa
open Go.RowKit Go.ChangeShapes Go.WideShapes Go.ChangeAt Go.Deep
open Rep (rep)
def wholeM (w : World) : Mm := fun b => match w.heap[b]? with | some (.cells arr _ _) => some arr.toList | _ => none
theorem wholeM_agree (w : World) : Agree (wholeM w) w := fun b p hb => by
  unfold wholeM at hb
  split at hb
  · rename_i arr t fr hh
    cases hb
    exact ⟨arr, t, fr, hh, List.prefix_refl _⟩
  · cases hb
theorem weightsEach_mem {H : Type} {P : Program} {ts : List TypeId} {ds : List (DataW H)} {j : Nat} {t : TypeId} {d : DataW H} (ht : ts[j]? = some t) (hd : ds[j]? = some d) : ∀ n ∈ d.weights P t, n ∈ DataW.weightsEach P ts ds := DataW.weights_mem_each ht hd
def Opn (P : Program) (t : TypeId) (α : Type) [Rep α] : Prop :=
  P.cellsOf t = Rep.k α ∧ ∀ (H : Type) (enc : TypeId × Value → H) (w : World) (fuel : Nat) (cs : List Value) (d : DataW H) (p : List MemPlace),
    DataW.trod enc P w 0 (fun _ => true) true fuel t cs = some (d, p) → (∀ n ∈ d.weights P t, n ≤ reachBytes) → ∃ x : α, rep (wholeM w) cs x
section
variable {P : Program} {t e : TypeId} {α : Type} [Rep α]
theorem opn_int (ht : P.underlying t = some (.int .i64)) (hc : P.cellsOf t = 1) : Opn P t Int := ⟨hc, fun H enc w fuel cs d p h hw => by
  obtain ⟨n, rfl, _, _⟩ := DataW.trod_int ht h
  exact ⟨n, rfl⟩⟩
theorem add_bo (a : Addr) (i : Nat) : (a.add i).block = a.block ∧ (a.add i).off = a.off + i := by
  unfold Addr.add
  split
  · rename_i h; exact ⟨rfl, by rw [show i = 0 by simpa using h]; rfl⟩
  · exact ⟨rfl, rfl⟩
theorem cells_piece {w : World} {a : Addr} {k : Nat} {cs : List Value} (h : w.cells? 0 a k = some cs) (hk : 0 < k) :
    a.spot = none ∧ ∃ q, wholeM w a.block = some q ∧ a.off + k ≤ q.length ∧ sl q a.off k = cs := by
  obtain ⟨_, hl, hat⟩ := World.cells?_some h
  have h0 := hat 0 hk
  rw [List.getElem?_eq_getElem (by omega)] at h0
  have hsp : a.spot = none := by
    have := World.cell?_spot h0
    simpa [Addr.add] using this
  refine ⟨hsp, ?_⟩
  have hc : ∀ i, i < k → ∃ arr tt fr, w.heap[a.block]? = some (.cells arr tt fr) ∧ arr[a.off + i]? = cs[i]? := by
    intro i hi
    have hi' := hat i hi
    rw [List.getElem?_eq_getElem (by omega)] at hi' ⊢
    unfold World.cell? at hi'
    split at hi'
    · rename_i arr tt fr hh
      rw [(add_bo a i).1] at hh
      refine ⟨arr, tt, fr, hh, ?_⟩
      split at hi'
      · cases hi'
      · rw [(add_bo a i).2] at hi'
        exact hi'
    · cases hi'
  obtain ⟨arr, tt, fr, hh, _⟩ := hc 0 hk
  have hall : ∀ i, i < k → arr[a.off + i]? = cs[i]? := by
    intro i hi
    obtain ⟨arr', tt', fr', hh', he⟩ := hc i hi
    rw [hh] at hh'
    cases hh'
    exact he
  have hlen : a.off + k ≤ arr.size := by
    have := hall (k - 1) (by omega)
    rw [List.getElem?_eq_getElem (by omega)] at this
    have := (Array.getElem?_eq_some_iff.1 this).1
    omega
  refine ⟨arr.toList, by simp [wholeM, hh], by simpa using hlen, ?_⟩
  refine ext_get fun j => ?_
  by_cases hj : j < k
  · rw [sl_get _ _ _ _ hj]
    simpa using hall j hj
  · rw [sl_get_none _ _ _ _ (by omega), List.getElem?_eq_none (by omega)]
theorem opn_slice (ht : P.underlying t = some (.slice e)) (hc : P.cellsOf t = 1) (he : Opn P e α) (hk : 0 < Rep.k α) (hby : P.bytesOf e = Rep.bytes α) : Opn P t (List α) := ⟨hc, fun H enc w fuel cs d p h hw => by
  rcases open_slice ht h with ⟨rfl, hx⟩ | ⟨a, len, cap, m, n, D, Pl, rfl, _, hl, hm, hmm, hx, hel⟩
  · exact ⟨[], _, rfl, repL_nil _⟩
  · simp only [if_true] at hmm
    subst hmm
    simp only [Prod.mk.injEq] at hx
    rw [hx.1] at hw
    simp only [DataW.weights, ht, hby, List.mem_cons, List.mem_append, List.length_map, List.length_range] at hw
    have hw1 := hw _ (.inl rfl)
    unfold reachBytes at hw1
    have hone : ∀ i, i < len → ∃ x : α, ∃ b off q, a.add (i * Rep.k α) = ⟨b, off, none⟩ ∧ wholeM w b = some q ∧ off + Rep.k α ≤ q.length ∧ rep (wholeM w) (sl q off (Rep.k α)) x := by
      intro i him
      obtain ⟨cs', h1, h2⟩ := hel i (by omega)
      rw [he.1] at h1
      obtain ⟨hsp, q, hq, hlq, hsl⟩ := cells_piece h1 hk
      obtain ⟨x, hxr⟩ := he.2 H enc w n cs' (D i) (Pl i) h2 fun nn hnn => hw nn (.inr (.inl (weightsAll_mem (List.mem_map.2 ⟨i, List.mem_range.2 him, rfl⟩) _ hnn)))
      refine ⟨x, _, _, q, ?_, hq, hlq, by rw [hsl]; exact hxr⟩
      rw [← hsp]
    by_cases hz : len = 0
    · subst hz
      exact ⟨[], .slice (some a) 0 m, rfl, some a, m, rfl, by simp, (fun h => by cases h), by simp, fun i x hx => by simp at hx⟩
    have hspot : ∃ b off, a = ⟨b, off, none⟩ := by
      obtain ⟨x, b, off, q, e1, _⟩ := hone 0 (by omega)
      obtain ⟨ab, ao, asp⟩ := a
      simp [Addr.add] at e1
      exact ⟨ab, ao, by rw [e1.2.2]⟩
    obtain ⟨b, off, rfl⟩ := hspot
    obtain ⟨x0, _⟩ := hone 0 (by omega)
    haveI : Inhabited α := ⟨x0⟩
    obtain ⟨V, hV⟩ := choose_lt (α := α) hone
    have hlen : ((List.range len).map V).length = len := by simp
    refine ⟨(List.range len).map V, .slice (some ⟨b, off, none⟩) len m, rfl, some ⟨b, off, none⟩, m, by rw [hlen], by rw [hlen]; exact hl, (fun h => by cases h), ?_, fun i x hx => ?_⟩
    · rw [hlen]
      exact Nat.le_trans (Nat.mul_le_mul_right _ (by omega : len ≤ len + (m - len))) hw1
    · have hi : i < len := by
        have := (List.getElem?_eq_some_iff.1 hx).1
        omega
      have hxe : V i = x := by simpa [hi] using hx
      obtain ⟨b', off', q, e1, hq, hlq, hr⟩ := hV i hi
      rw [Addr.add_lit] at e1
      cases e1
      exact ⟨_, _, q, rfl, hq, hlq, hxe ▸ hr⟩⟩
theorem opn_field {H : Type} {enc : TypeId × Value → H} {w : World} {fuel : Nat} {cs : List Value} {d : DataW H} {p : List MemPlace} {fs : Array Field} (ht : P.underlying t = some (.struct fs))
    (h : DataW.trod enc P w 0 (fun _ => true) true fuel t cs = some (d, p)) (hw : ∀ n ∈ d.weights P t, n ≤ reachBytes) (i : Nat) (f : Field) (hf : fs[i]? = some f) {e : TypeId} {o k : Nat} (h1 : f.type = e) (h2 : f.offset = o) (hk : Rep.k α = k) (he : Opn P e α) :
    ∃ x : α, rep (wholeM w) (sl cs o k) x := by
  subst hk
  subst h1
  subst h2
  obtain ⟨ys, n, _, hx, _, hyl, hfld⟩ := DataW.trod_struct ht h
  obtain ⟨rfl, rfl⟩ := Prod.mk.inj hx
  have hi : i < fs.size := (Array.getElem?_eq_some_iff.1 hf).1
  have e0 := hfld i f hf
  rw [List.getElem?_eq_getElem (by omega), he.1] at e0
  refine he.2 H enc w n _ _ _ e0 fun nn hnn => hw nn ?_
  simp only [DataW.weights, ht]
  refine weightsEach_mem (j := i) ?_ ?_ nn hnn
  · simp only [List.getElem?_map]; rw [Array.getElem?_toList, hf]; rfl
  · simp only [List.getElem?_map, List.getElem?_eq_getElem (show i < ys.length by omega), Option.map_some]; rfl
theorem opn_arg (ho : Opn P t α) {H : Type} {enc : TypeId × Value → H} {w : World} {v : Value} {d : DataW H} {p : List MemPlace} (h : DataW.Trod enc P w 0 (fun _ => true) true t v d p) (hw : (d.weights P t).all (· ≤ reachBytes) = true) :
    ∃ x : α, rep (wholeM w) v.cells.toList x := by
  obtain ⟨fuel, hf⟩ := h
  exact ho.2 H enc w fuel _ _ _ hf fun n hn => of_decide_eq_true (List.all_eq_true.1 hw n hn)
theorem opn_agg {fs : Array Field} (ht : P.underlying t = some (.struct fs)) (ho : Opn P t α) {H : Type} {enc : TypeId × Value → H} {w : World} {v : Value} {d : DataW H} {p : List MemPlace} (hv : Value.okWide P w .any 0 t v)
    (h : DataW.Trod enc P w 0 (fun _ => true) true t v d p) (hw : (d.weights P t).all (· ≤ reachBytes) = true) : ∃ (cs : List Value) (x : α), v = .agg cs.toArray ∧ rep (wholeM w) cs x := by
  obtain ⟨cs, rfl, _⟩ := okWide_struct ht hv
  obtain ⟨x, hr⟩ := opn_arg ho h hw
  exact ⟨cs.toList, x, by simp, hr⟩
end
end Go.Proofs.Ytaimhfbbenbdaaa
namespace Go.Proofs.Ytaimhfbbenbdaaa
open Go.RowKit
open Rep (rep)
def g0 : GGraph := { known := ((Zr.zd : Vector Bool 32).setIfInBounds 1 true).setIfInBounds 2 true, deps := ((Zr.zd : Vector (List Int) 32).setIfInBounds 1 [2]).setIfInBounds 2 [1] }
end Go.Proofs.Ytaimhfbbenbdaaa
namespace Go.Proofs.Ytaimhfbbenbdaaa
open Go.RowKit
open Rep (rep)
def stepZ (sh : Int) (s : GNode) (m : Nat) : GNode := bif (eat s.entries m).state == 2 then oneZ s m sh else s
def runZ (sh : Int) (s : GNode) (l : List Nat) : GNode := l.foldl (stepZ sh) s
theorem GoodN.step {s : GNode} (h : GoodN s) {m : Nat} (hm : m < 32) (sh : Int) : GoodN (stepZ sh s m) := by
  unfold stepZ
  cases h2 : ((eat s.entries m).state == 2)
  · exact h
  · exact h.one hm (by simpa using h2) sh
theorem GoodN.run (sh : Int) : ∀ (l : List Nat) {s : GNode}, GoodN s → (∀ m ∈ l, m < 32) → GoodN (runZ sh s l)
  | [], _, h, _ => h
  | m :: t, _, h, hl => GoodN.run sh t (h.step (hl m List.mem_cons_self) sh) fun x hx => hl x (List.mem_cons_of_mem _ hx)
def askedE (s : GNode) (f : GFrame) (sh : Int) : GEntry := { state := 1, ops := f.ops, first := aheadZ s f.id f.ops sh, deps := [], at_ := [], values := [] }
def askN (s : GNode) (f : GFrame) (sh : Int) : GNode := bif (eat s.entries f.id.toNat).state == 0 then { s with entries := s.entries.setIfInBounds f.id.toNat (askedE s f sh) } else s
theorem rise_castL {l : List Nat} (h : l.Pairwise (· < ·)) (h32 : ∀ m ∈ l, m < 32) : risingZ (castL l) = true := by
  unfold risingZ
  rw [allTo_iff]
  intro i hi
  rw [castL_len] at hi
  have g : ∀ j, j < l.length → (castL l).getD j 0 = ((l[j]?.getD 0 : Nat) : Int) := fun j hj => by
    simp [castL, hj]
  unfold riseAt
  rw [g i hi, List.getElem?_eq_getElem hi, Option.getD_some]
  have h1 := h32 _ (List.getElem_mem hi)
  rw [dec_t (by omega), dec_t (by omega), Bool.true_and, Bool.true_and]
  by_cases h0 : i = 0
  · simp [h0]
  · rw [g (i - 1) (by omega), List.getElem?_eq_getElem (show i - 1 < l.length by omega), Option.getD_some]
    have := List.pairwise_iff_getElem.1 h (i - 1) i (by omega) hi (by omega)
    rw [dec_t (by omega), Bool.or_true]
theorem aheadL_mem {s : GNode} {id : Int} {ops : List GOp} {sh : Int} {m : Nat} : m ∈ aheadL s id ops sh ↔ m < 32 ∧ inWay s id ops sh m = true := by
  unfold aheadL; simp
theorem ahead_ok {s : GNode} {n : Nat} {ops : List GOp} {sh : Int} : risingZ (aheadZ s n ops sh) = true ∧ hasZ (aheadZ s n ops sh) n = false := by
  refine ⟨rise_castL ?_ fun m hm => (aheadL_mem.1 hm).1, ?_⟩
  · exact List.Pairwise.filter _ List.pairwise_lt_range
  · rw [aheadZ, hasZ_castL]
    apply dec_f
    intro h
    have := (aheadL_mem.1 h).2
    unfold inWay at this
    simp at this
theorem frame_parts {f : GFrame} (h : frameZ f = 0) : opsPart f = true ∧ depsPart f = true ∧ atPart f = true := by
  unfold frameZ at h
  split at h
  · cases h
  · split at h
    · cases h
    · split at h
      · rename_i h3
        simpa [Bool.and_eq_true] using h3
      · cases h
theorem ask_ops {f : GFrame} (h : frameZ f = 0) (hk : f.kind = 1 ∨ f.kind = 3) : goodOpsZ f.ops = true := by
  have := (frame_parts h).1
  unfold opsPart at this
  rwa [if_pos hk] at this
theorem GoodN.asked {s : GNode} (h : GoodN s) {f : GFrame} (hf : frameZ f = 0) (hk : f.kind = 1) (sh : Int) : GoodN (askN s f sh) := by
  obtain ⟨_, _, hid⟩ := frameZ_in hf
  obtain ⟨n, hn⟩ : ∃ n : Nat, f.id = n := ⟨f.id.toNat, by omega⟩
  unfold askN
  rw [hn, Int.toNat_natCast]
  cases h0 : ((eat s.entries n).state == 0)
  · exact h
  · have h0 : (eat s.entries n).state = 0 := by simpa using h0
    refine h.set (n := n) (by omega) rfl rfl (by omega) ⟨by show (1 : Int) ≤ 1; omega, by show (1 : Int) ≤ 2; omega⟩ ?_
    have ha : risingZ (aheadZ s f.id f.ops sh) = true ∧ hasZ (aheadZ s f.id f.ops sh) n = false := by rw [hn]; exact ahead_ok
    exact ⟨ask_ops hf (.inl hk), ha.1, rfl, ha.2, rfl, fun _ => rfl, fun _ => rfl, rfl, rfl⟩
end Go.Proofs.Ytaimhfbbenbdaaa
namespace Go.Proofs.Ytaimhfbbenbdaaa
open Go.RowKit
open Rep (rep)
theorem atUp_len {m : Int} : ∀ {l : List Int} {b : Int}, atUp m b l = true → l = [] ∨ b + l.length < m
  | [], _, _ => .inl rfl
  | x :: t, b, h => by
    unfold atUp at h
    simp only [Bool.and_eq_true, decide_eq_true_eq] at h
    refine .inr ?_
    rcases atUp_len h.2 with e | e
    · subst e; simp; omega
    · simp only [List.length_cons]; omega
theorem GoodN.sizes {s : GNode} (h : GoodN s) : NSz s 33 := by
  refine ⟨by have := h.len; omega, fun k => ?_⟩
  by_cases hk : k < 32
  · by_cases h0 : (eat s.entries k).state = 0
    · obtain ⟨e1, e2, e3, e4, e5⟩ := h.empty hk h0
      refine ⟨?_, ?_, ?_, ?_, ?_⟩
      · rw [e1]; simp
      · rw [e2]; simp
      · rw [e3]; simp
      · rw [e4]; simp
      · rw [e5]; simp
    · have hb := h.body hk h0
      have h1 := goodOps_len hb.ops
      have h2 := rising_len hb.first
      have h3 := rising_len hb.deps
      have h4 : (eat s.entries k).at_.length ≤ 4 := by
        rcases atUp_len hb.up with e | e
        · rw [e]; simp
        · omega
      have h5 := hb.same
      exact ⟨by omega, by omega, by omega, by omega, by omega⟩
  · rw [eat_out hk]
    have e : (Zr.zd : GEntry) = { state := 0, ops := [], first := [], deps := [], at_ := [], values := [] } := rfl
    rw [e]
    exact ⟨by simp, by simp, by simp, by simp, by simp⟩
theorem NSz.mono {s : GNode} {N M : Nat} (h : NSz s N) (hNM : N ≤ M) : NSz s M :=
  ⟨⟨by have := h.order.1; omega, h.order.2⟩, fun k => by
    have e := h.ent k
    exact ⟨⟨by have := e.ops.1; omega, e.ops.2⟩, ⟨by have := e.first.1; omega, e.first.2⟩, ⟨by have := e.deps.1; omega, e.deps.2⟩, ⟨by have := e.at_.1; omega, e.at_.2⟩, ⟨by have := e.values.1; omega, e.values.2⟩⟩⟩
theorem sameEntryD_refl {fu N : Nat} {e : GEntry} (h : ESz e N) (hf : N ≤ fu) : sameEntryD fu e e = some true := by
  unfold sameEntryD sameEntry_j1
  rw [sameOpsD_refl (by have := h.ops.2; omega) (by have := h.ops.1; omega)]
  simp only [some_bind, sameZ_refl, beq_self_eq_true, cond_true]
theorem sameNode_l1_eq {fu N : Nat} {s : GNode} (h : NSz s N) (hf : N ≤ fu) : ∀ (n m k : Nat), k + m = 32 → m < n → sameNode_l1 fu s s n k = some true
  | 0, m, k, _, h => absurd h (by omega)
  | n + 1, 0, k, hk, _ => by
    rw [sameNode_l1, bif_f (dec_f (by omega)), some_bind, sameZ_refl, cond_true, sameNode_j1, dec_t rfl]
  | n + 1, m + 1, k, hk, hn => by
    have hk32 : k < 32 := by omega
    rw [sameNode_l1, bif_t (dec_t (by omega)), inR_ok (by omega) (by omega), some_bind, idxE hk32, some_bind, some_bind, some_bind, sameEntryD_refl (h.ent k) hf, some_bind, bif_f (c := !true) rfl, wrs k (by omega)]
    exact sameNode_l1_eq h hf n m (k + 1) (by omega) (by omega)
theorem sameNodeD_refl {fu N : Nat} {s : GNode} (h : NSz s N) (hf : N + 40 ≤ fu) : sameNodeD fu s s = some true := sameNode_l1_eq h (by omega) fu 32 0 (by omega) (by omega)
def zeroN : GNode := { entries := Zr.zd, order := Zr.zd, values := Zr.zd }
theorem eat_zero (k : Nat) : eat (Zr.zd : Vector GEntry 32) k = Zr.zd := by
  show eat (Vector.replicate 32 Zr.zd) k = Zr.zd
  unfold eat
  by_cases hk : k < 32 <;> simp [hk]
theorem zero_good : GoodN zeroN := by
  refine ⟨List.nodup_nil, (by intro m hm; cases hm), fun k hk => ?_⟩
  show entryOk k (eat (Zr.zd : Vector GEntry 32) k) (decide ((k : Int) ∈ ([] : List Int))) = true
  rw [eat_zero]
  rfl
end Go.Proofs.Ytaimhfbbenbdaaa
namespace Go.Proofs.Ytaimhfbbenbdaaa
open Go.RowKit
open Rep (rep)
theorem clusterNilD_eq {fu : Nat} (hfu : 200 ≤ fu) (a : GAct) (n : Int) : clusterNilD fu a n = some true := by
  have e1 : clNodeND fu n = some (zeroN, false) := rfl
  have e2 : clDoND fu a = some { code := 4, n := Zr.zd, values := Zr.zd } := rfl
  have e3 : clLogND fu n = some (⟨#[]⟩ : ByteArray) := rfl
  have e4 : clCaseND fu n = some { begun := Zr.zd, fixed := Zr.zd, ops := Zr.zd, told := Zr.zd, known := Zr.zd, deps := Zr.zd, has := Zr.zd, values := Zr.zd } := rfl
  have e5 : clNetND fu = some [] := rfl
  have s1 : sameReplyD fu { code := 4, n := Zr.zd, values := Zr.zd } { code := 4, n := Zr.zd, values := Zr.zd } = some true := by
    unfold sameReplyD sameReply_j1
    simp only [beq_self_eq_true, cond_true, some_bind, sameZ_refl]
  have s2 : sameNodeD fu zeroN { entries := Zr.zd, order := Zr.zd, values := Zr.zd } = some true := sameNodeD_refl zero_good.sizes (by omega)
  have s3 : sameCaseD fu { begun := Zr.zd, fixed := Zr.zd, ops := Zr.zd, told := Zr.zd, known := Zr.zd, deps := Zr.zd, has := Zr.zd, values := Zr.zd } { begun := Zr.zd, fixed := Zr.zd, ops := Zr.zd, told := Zr.zd, known := Zr.zd, deps := Zr.zd, has := Zr.zd, values := Zr.zd } = some true :=
    sameCaseD_refl (by show ([] : List GOp).length < fu; simp; omega) (by show ([] : List GOp).length ≤ _; simp)
  unfold clusterNilD clusterNil_j1
  rw [e1, some_bind, some_bind, e2, some_bind, some_bind, s1, some_bind, cond_true, some_bind, s2, some_bind, cond_true, bif_t (c := !false) rfl, e3, some_bind, bif_t (by simp), e4, some_bind, some_bind, s3, some_bind, cond_true, e5, some_bind]
  rfl
end Go.Proofs.Ytaimhfbbenbdaaa
namespace Go.Proofs.Ytaimhfbbenbdaaa
open Go.RowKit
open Rep (rep)
theorem op3 : Opn Try.prog 3 Int := opn_int Try.underlying3 (by kernel_rfl)
theorem op71 : Opn Try.prog 71 GOp := ⟨by kernel_rfl, fun H enc w fuel cs d p h hw => by
  have hl : cs.length = 3 := by obtain ⟨_, _, _, _, hl, _⟩ := DataW.trod_struct Try.underlying71 h; rw [hl]; kernel_rfl
  obtain ⟨x0, h0⟩ := opn_field (α := Int) (o := 0) (k := 1) Try.underlying71 h hw 0 _ rfl rfl rfl (by kernel_rfl) op3
  obtain ⟨x1, h1⟩ := opn_field (α := Int) (o := 1) (k := 1) Try.underlying71 h hw 1 _ rfl rfl rfl (by kernel_rfl) op3
  obtain ⟨x2, h2⟩ := opn_field (α := Int) (o := 2) (k := 1) Try.underlying71 h hw 2 _ rfl rfl rfl (by kernel_rfl) op3
  exact ⟨⟨x0, x1, x2⟩, GOp.fol ⟨hl, h0, h1, h2⟩⟩⟩
theorem op22 : Opn Try.prog 22 (List (GOp)) := opn_slice Try.underlying22 (by kernel_rfl) op71 (by decide) (by kernel_rfl)
theorem op24 : Opn Try.prog 24 GAct := ⟨by kernel_rfl, fun H enc w fuel cs d p h hw => by
  have hl : cs.length = 4 := by obtain ⟨_, _, _, _, hl, _⟩ := DataW.trod_struct Try.underlying24 h; rw [hl]; kernel_rfl
  obtain ⟨x0, h0⟩ := opn_field (α := Int) (o := 0) (k := 1) Try.underlying24 h hw 0 _ rfl rfl rfl (by kernel_rfl) op3
  obtain ⟨x1, h1⟩ := opn_field (α := Int) (o := 1) (k := 1) Try.underlying24 h hw 1 _ rfl rfl rfl (by kernel_rfl) op3
  obtain ⟨x2, h2⟩ := opn_field (α := Int) (o := 2) (k := 1) Try.underlying24 h hw 2 _ rfl rfl rfl (by kernel_rfl) op3
  obtain ⟨x3, h3⟩ := opn_field (α := List (GOp)) (o := 3) (k := 1) Try.underlying24 h hw 3 _ rfl rfl rfl (by kernel_rfl) op22
  exact ⟨⟨x0, x1, x2, x3⟩, GAct.fol ⟨hl, h0, h1, h2, h3⟩⟩⟩
end Go.Proofs.Ytaimhfbbenbdaaa
