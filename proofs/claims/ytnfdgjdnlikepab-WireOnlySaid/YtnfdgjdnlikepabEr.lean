/- What functions compute, and that they do. (Written by dc.py.) -/
import Derived.Test.YtnfdgjdnlikepabEa
namespace Go.Proofs.Ytnfdgjdnlikepab
open Go.RowKit
open Rep (rep)
set_option linter.unusedVariables false

def rByteD (fu : Nat) (x1 : GReader) : Option (Int × GReader) :=
    (bif x1.s.toList == (⟨#[]⟩ : ByteArray).toList then
    (some ({ x1 with bad := true } : GReader)).bind fun d5 =>
    some (0, d5)
    else
    (idxS x1.s 0).bind fun c6 =>
    (cutB x1.s (some 1) none).bind fun s9 =>
    (chkS s9).bind fun _ =>
    (some ({ x1 with s := s9 } : GReader)).bind fun d13 =>
    some (IntKind.wrap .i64 c6, d13))

set_option maxRecDepth 100000 in
set_option maxHeartbeats 4000000 in
theorem rByte_ok {M : Mm} {w : World} {bx1 : Nat} {cx1 : List Value} {x1 : GReader} {fu : Nat} {r : Int × GReader} (hS : St w (lentX [.box bx1 cx1 119]) M [.box bx1 cx1 119] w) (hcx1 : rep M cx1 x1) (hz : rByteD fu x1 = some r) :
    Calls Try.prog 66 #[.pointer (some ⟨bx1, 0, none⟩)] w (GivesL M w [.box bx1 cx1 119] (fun M' u L' => ∃ k0, u = .int .i64 r.1 ∧ L' = [.box bx1 k0 119] ∧ rep M' k0 r.2)) := by
  refine calls_W Try.func66 rfl 27 rfl rfl (by kernel_rfl) fun T hT => ?_
  have hT_0 : T 0 = .pointer (some ⟨bx1, 0, none⟩) := hT 0
  clear hT
  have hE := Mm.ext.refl w.heap.size (lentX [.box bx1 cx1 119]) M
  rw [rByteD] at hz
  refine W_seq ?_
  refine W_reg ?_
  refine WL_y (Y_assign (.int .i64 0) rfl) ?_
  refine WL_nil (nm_then ?_)
  refine W_seq ?_
  refine W_seq ?_
  refine W_reg ?_
  refine WL_y (Y_move (.pointer (some ⟨bx1, 0, none⟩)) hT_0) ?_
  refine WL_y (Y_nil rfl) ?_
  refine WL_y (Y_fa fa119_0 rfl) ?_
  refine WL_y (Y_ld1 (.string x1.s) ts9 rfl (hS.bvB 0 rfl) (GReader.p0 (rep_root (k := 2) rfl hcx1)).1) ?_
  refine WL_y (Y_eqS rfl rfl) ?_
  refine WL_nil (nm_then ?_)
  refine W_cond rfl (fun hc2 => ?_) (fun hc2 => ?_)
  · replace hz := bif_ok_t hz hc2
    refine W_seq ?_
    refine W_reg ?_
    refine WL_y (Y_move (.pointer (some ⟨bx1, 0, none⟩)) hT_0) ?_
    refine WL_y (Y_nil rfl) ?_
    refine WL_y (Y_fa fa119_1 rfl) ?_
    have hw4 : ([.bool true] : List Value).length = 1 := Rep.len (show rep M [Value.bool true] (true : Bool) from rfl)
    have hl4 : (cx1).length = 2 := Rep.len hcx1
    obtain ⟨d5, hd4, hz⟩ := bind_ok hz
    have hb4 : rep M (pt cx1 (0 + 1) [.bool true]) d5 := rep_eq (rep_whole (k := 2) (by rw [pt_length (by omega)]; exact hl4) (GReader.s1 (rep_root (k := 2) rfl hcx1) (rep_leaf rfl (show rep M [Value.bool true] (true : Bool) from rfl) (by omega)) (by omega) (by omega) (by omega))) hd4
    generalize hg4 : (pt cx1 (0 + 1) [.bool true]) = cs4 at hb4
    refine WL_c (O_st (j := 0) (v := .bool true) (ws := [.bool true]) hS rfl (by kernel_rfl) rfl rfl rfl hw4 (Rep.one (show rep M [Value.bool true] (true : Bool) from rfl)) (by omega) ?_)
    rw [hg4]
    clear hg4
    intro w3 hS
    replace hS : St w (lentX [.box bx1 cx1 119]) M [.box bx1 cs4 119] w3 := hS
    refine WL_nil (nm_then ?_)
    refine W_seq ?_
    refine W_reg ?_
    refine WL_y (Y_assign (.int .i64 0) rfl) ?_
    refine WL_nil (nm_then ?_)
    cases hz
    exact W_ret (rt_then (R_t1 rfl rfl ⟨_, M, _, rfl, hE, (hS.sel (H' := [.box bx1 cs4 119]) [0] (by decide) rfl), cs4, rfl, rfl, hb4⟩))
  · replace hz := bif_ok_f hz hc2
    refine W_skip (nm_then ?_)
    refine W_seq ?_
    refine W_reg ?_
    refine WL_y (Y_move (.pointer (some ⟨bx1, 0, none⟩)) hT_0) ?_
    refine WL_y (Y_nil rfl) ?_
    refine WL_y (Y_fa fa119_0 rfl) ?_
    refine WL_y (Y_ld1 (.string x1.s) ts9 rfl (hS.bvB 0 rfl) (GReader.p0 (rep_root (k := 2) rfl hcx1)).1) ?_
    obtain ⟨c6, hx7, hz⟩ := bind_ok hz
    refine WL_y (Y_ixS Try.underlying9 rfl rfl hx7) ?_
    refine WL_y (Y_assign (.int .u8 c6) rfl) ?_
    refine WL_nil (nm_then ?_)
    refine W_seq ?_
    refine W_reg ?_
    refine WL_y (Y_move (.pointer (some ⟨bx1, 0, none⟩)) hT_0) ?_
    refine WL_y (Y_move (.pointer (some ⟨bx1, 0, none⟩)) hT_0) ?_
    refine WL_y (Y_nil rfl) ?_
    refine WL_y (Y_fa fa119_0 rfl) ?_
    refine WL_y (Y_ld1 (.string x1.s) ts9 rfl (hS.bvB 0 rfl) (GReader.p0 (rep_root (k := 2) rfl hcx1)).1) ?_
    obtain ⟨s9, hx8, hz⟩ := bind_ok hz
    obtain ⟨⟨pp8, qq8⟩, hc8, hx8⟩ := Option.map_eq_some_iff.1 hx8
    refine WL_y ((hx8 ▸ Y_cutS (l := (some 1)) (h := none) Try.underlying9 rfl (evs rfl) evn hc8)) ?_
    refine WL_y (Y_nil rfl) ?_
    refine WL_y (Y_fa fa119_0 rfl) ?_
    obtain ⟨_, hx11, hz⟩ := bind_ok hz
    have hx11 := chkS_some hx11
    have hw12 : ([.string s9] : List Value).length = 1 := Rep.len (rep_str hx11 : rep M [Value.string s9] s9)
    have hl12 : (cx1).length = 2 := Rep.len hcx1
    obtain ⟨d13, hd12, hz⟩ := bind_ok hz
    have hb12 : rep M (pt cx1 (0 + 0) [.string s9]) d13 := rep_eq (rep_whole (k := 2) (by rw [pt_length (by omega)]; exact hl12) (GReader.s0 (rep_root (k := 2) rfl hcx1) (rep_leaf rfl (rep_str hx11 : rep M [Value.string s9] s9) (by omega)) (by omega) (by omega) (by omega))) hd12
    generalize hg12 : (pt cx1 (0 + 0) [.string s9]) = cs12 at hb12
    refine WL_c (O_st (j := 0) (v := .string s9) (ws := [.string s9]) hS rfl (by kernel_rfl) rfl rfl rfl hw12 (Rep.one (rep_str hx11 : rep M [Value.string s9] s9)) (by omega) ?_)
    rw [hg12]
    clear hg12
    intro w10 hS
    replace hS : St w (lentX [.box bx1 cx1 119]) M [.box bx1 cs12 119] w10 := hS
    refine WL_nil (nm_then ?_)
    refine W_seq ?_
    refine W_reg ?_
    refine WL_y (Y_move (.int .u8 c6) rfl) ?_
    refine WL_y (Y_conv ⟨_, Try.underlying5⟩ Try.underlying3 rfl) ?_
    refine WL_y (Y_assign (.int .i64 (IntKind.wrap .i64 c6)) rfl) ?_
    refine WL_nil (nm_then ?_)
    cases hz
    exact W_ret (R_t1 rfl rfl ⟨_, M, _, rfl, hE, (hS.sel (H' := [.box bx1 cs12 119]) [0] (by decide) rfl), cs12, rfl, rfl, hb12⟩)

def rNumber_l1 (fu : Nat) : Nat → GReader → Int → Int → Option (Int × GReader)
  | 0, _, _, _ => none
  | n + 1, d6, y7, y8 =>
    (bif decide (y8 < 6) then
    (rByteD fu d6).bind fun r16 =>
    (rNumber_l1 fu n) r16.2 (orI .i64 (IntKind.wrap .i64 (y7 * 2 ^ (min (Int.toNat 8) (IntKind.bits .i64)))) r16.1) (IntKind.wrap .i64 (y8 + 1))
    else
    some (IntKind.wrap .i64 (y7 - 140737488355328), d6))

def rNumberD (fu : Nat) (x1 : GReader) : Option (Int × GReader) :=
    rNumber_l1 fu fu x1 0 0

set_option maxRecDepth 100000 in
set_option maxHeartbeats 4000000 in
theorem rNumber_ok {M : Mm} {w : World} {bx1 : Nat} {cx1 : List Value} {x1 : GReader} {fu : Nat} {r : Int × GReader} (hS : St w (lentX [.box bx1 cx1 119]) M [.box bx1 cx1 119] w) (hcx1 : rep M cx1 x1) (hz : rNumberD fu x1 = some r) :
    Calls Try.prog 67 #[.pointer (some ⟨bx1, 0, none⟩)] w (GivesL M w [.box bx1 cx1 119] (fun M' u L' => ∃ k0, u = .int .i64 r.1 ∧ L' = [.box bx1 k0 119] ∧ rep M' k0 r.2)) := by
  refine calls_W Try.func67 rfl 14 rfl rfl (by kernel_rfl) fun T hT => ?_
  have hT_0 : T 0 = .pointer (some ⟨bx1, 0, none⟩) := hT 0
  clear hT
  have hE := Mm.ext.refl w.heap.size (lentX [.box bx1 cx1 119]) M
  rw [rNumberD] at hz
  refine W_seq ?_
  refine W_reg ?_
  refine WL_y (Y_assign (.int .i64 0) rfl) ?_
  refine WL_nil (nm_then ?_)
  refine W_seq ?_
  refine W_reg ?_
  refine WL_y (Y_assign (.int .i64 0) rfl) ?_
  refine WL_nil (nm_then ?_)
  refine W_seq ?_
  refine W_seq ?_
  refine W_reg ?_
  refine WL_y (Y_move (.int .i64 0) rfl) ?_
  refine WL_nil (nm_then ?_)
  refine W_block ?_
  refine W_loop (fun k10 T' w' => ∃ M3 cs5 d6 y7 y8, Mm.ext w.heap.size (lentX [.box bx1 cx1 119]) M M3 ∧ St w (lentX [.box bx1 cx1 119]) M3 [.box bx1 cs5 119] w' ∧ rep M3 cs5 d6 ∧ T' 0 = .pointer (some ⟨bx1, 0, none⟩) ∧ T' 3 = .int .i64 y7 ∧ T' 4 = .int .i64 y8 ∧ rNumber_l1 fu k10 d6 y7 y8 = some r) fu ?_ ?_ ?_
  · exact ⟨M, cx1, x1, (0 : Int), (0 : Int), (Mm.ext.refl _ _ _), hS, hcx1, hT_0, rfl, rfl, hz⟩
  · rintro T' w' ⟨_, _, _, _, _, _, _, _, _, _, _, hz⟩
    rw [rNumber_l1] at hz
    cases hz
  · intro k10
    rintro T4 w2 ⟨M3, cs5, d6, y7, y8, hx12, hS, hb5, hT4_0, hT4_3, hT4_4, hz⟩
    replace hE := Mm.ext.trans hE hx12
    have hF11 := hx12
    rw [rNumber_l1] at hz
    obtain ⟨rec9, hrec9⟩ : ∃ f, f = rNumber_l1 fu k10 := ⟨_, rfl⟩
    rw [← hrec9] at hz
    refine W_seq ?_
    refine W_reg ?_
    refine WL_y (Y_lss hT4_4 rfl) ?_
    refine WL_nil (nm_then ?_)
    refine W_seq ?_
    refine W_cond rfl (fun hc13 => ?_) (fun hc13 => ?_)
    · replace hz := bif_ok_t hz hc13
      refine W_skip (nm_then ?_)
      refine W_seq ?_
      refine W_block ?_
      refine W_reg ?_
      refine WL_y (Y_move (.int .i64 y7) hT4_3) ?_
      refine WL_y (Y_shl rfl rfl (by decide)) ?_
      refine WL_y (Y_move (.pointer (some ⟨bx1, 0, none⟩)) hT4_0) ?_
      obtain ⟨r16, hr15, hz⟩ := bind_ok hz
      refine WL_c (O_lend (vs := [.pointer (some ⟨bx1, 0, none⟩)]) (L := [.box bx1 cs5 119]) (R := []) (rv := (fun M' u L' => ∃ k0, u = .int .i64 r16.1 ∧ L' = [.box bx1 k0 119] ∧ rep M' k0 r16.2)) cb66 (args1 rfl) hS (hS.sel [0] (by decide) rfl) (fun hS => rByte_ok hS hb5 hr15) ?_)
      rintro u15 M15 w14 L15 hx15 ⟨k0_15, rfl, hL15, f15_0⟩ hS
      replace hS := hS _ hL15
      replace hb5 := Rep.mono hx15.1 hb5
      replace hE := Mm.ext.trans hE hx15
      replace hF11 := Mm.ext.trans hF11 hx15
      replace hS : St w (lentX [.box bx1 cx1 119]) M15 [.box bx1 k0_15 119] w14 := hS
      refine WL_y (Y_or rfl rfl) ?_
      refine WL_y (Y_assign (.int .i64 (orI .i64 (IntKind.wrap .i64 (y7 * 2 ^ (min (Int.toNat 8) (IntKind.bits .i64)))) r16.1)) rfl) ?_
      refine WL_nil (nm_blk ?_)
      refine (nm_then ?_)
      refine W_reg ?_
      refine WL_y (Y_add hT4_4 rfl) ?_
      refine WL_y (Y_move (.int .i64 (IntKind.wrap .i64 (y8 + 1))) rfl) ?_
      refine WL_nil (nm_then ?_)
      exact ⟨M15, k0_15, r16.2, (orI .i64 (IntKind.wrap .i64 (y7 * 2 ^ (min (Int.toNat 8) (IntKind.bits .i64)))) r16.1), (IntKind.wrap .i64 (y8 + 1)), hF11, hS, f15_0, hT4_0, rfl, rfl, (by rw [← hrec9]; exact hz)⟩
    · replace hz := bif_ok_f hz hc13
      refine W_exit ?_
      refine ex_then ?_
      refine ex_then ?_
      refine ex_hit ?_
      refine (nm_then ?_)
      refine W_seq ?_
      refine W_reg ?_
      refine WL_y (Y_move (.int .i64 y7) hT4_3) ?_
      refine WL_y (Y_sub rfl rfl) ?_
      refine WL_y (Y_assign (.int .i64 (IntKind.wrap .i64 (y7 - 140737488355328))) rfl) ?_
      refine WL_nil (nm_then ?_)
      cases hz
      exact W_ret (R_t1 rfl rfl ⟨_, M3, _, rfl, hE, (hS.sel (H' := [.box bx1 cs5 119]) [0] (by decide) rfl), cs5, rfl, rfl, hb5⟩)

def decode_j1 (fu : Nat) (d52 : GReader) (d54 : GFrame) (y60 : Int) (rec61 : GReader → GFrame → Int → Option (GFrame × Int)) : Option (GFrame × Int) :=
    (rByteD fu d52).bind fun r75 =>
    (rByteD fu r75.2).bind fun r79 =>
    (rNumberD fu r79.2).bind fun r83 =>
    (some ({ kind := r75.1, key := r79.1, n := r83.1 } : GOp)).bind fun d86 =>
    (app d54.ops ([d86] : List GOp)).bind fun l92 =>
    (some ({ d54 with ops := l92 } : GFrame)).bind fun d96 =>
    rec61 r83.2 d96 (IntKind.wrap .i64 (y60 - 1))

def decode_j3 (fu : Nat) (d115 : GReader) (d117 : GFrame) (y123 : Int) (rec124 : GReader → GFrame → Int → Option (GFrame × Int)) : Option (GFrame × Int) :=
    (rByteD fu d115).bind fun r138 =>
    (app d117.deps ([r138.1] : List Int)).bind fun l145 =>
    (some ({ d117 with deps := l145 } : GFrame)).bind fun d149 =>
    rec124 r138.2 d149 (IntKind.wrap .i64 (y123 - 1))

def decode_j5 (fu : Nat) (d168 : GReader) (d170 : GFrame) (y177 : Int) (rec178 : GReader → GFrame → Int → Option (GFrame × Int)) : Option (GFrame × Int) :=
    (rByteD fu d168).bind fun r192 =>
    (app d170.at_ ([r192.1] : List Int)).bind fun l199 =>
    (some ({ d170 with at_ := l199 } : GFrame)).bind fun d203 =>
    (rNumberD fu r192.2).bind fun r214 =>
    (app d203.vals ([r214.1] : List Int)).bind fun l221 =>
    (some ({ d203 with vals := l221 } : GFrame)).bind fun d225 =>
    rec178 r214.2 d225 (IntKind.wrap .i64 (y177 - 1))

def decode_j7 (d170 : GFrame) (d241 : GFrame) : Option (GFrame × Int) :=
    (some d170).bind fun d250 =>
    some (d250, 0)

def decode_j8 (d170 : GFrame) (c259 : Bool) : Option (GFrame × Int) :=
    (bif c259 then
    (some ({ kind := Zr.zd, node := Zr.zd, id := Zr.zd, ops := Zr.zd, deps := Zr.zd, at_ := Zr.zd, vals := Zr.zd } : GFrame)).bind fun d263 =>
    (some d263).bind fun d274 =>
    some (d274, 1)
    else
    decode_j7 d170 (Zr.zd : GFrame))

def decode_j6 (fu : Nat) (d168 : GReader) (d170 : GFrame) (y177 : Int) (rec178 : GReader → GFrame → Int → Option (GFrame × Int)) (c234 : Bool) : Option (GFrame × Int) :=
    (bif c234 then
    decode_j5 fu d168 d170 y177 rec178
    else
    (bif d168.bad then
    decode_j8 d170 true
    else
    (bif !(d168.s.toList == (⟨#[]⟩ : ByteArray).toList) then
    decode_j8 d170 true
    else
    (some (frameZ d170)).bind fun r289 =>
    decode_j8 d170 (r289 != 0))))

def decode_l3 (fu : Nat) : Nat → GReader → GFrame → Int → Option (GFrame × Int)
  | 0, _, _, _ => none
  | n + 1, d168, d170, y177 =>
    (bif decide (y177 > 0) then
    decode_j6 fu d168 d170 y177 (decode_l3 fu n) (!d168.bad)
    else
    decode_j6 fu d168 d170 y177 (decode_l3 fu n) false)

def decode_j4 (fu : Nat) (d115 : GReader) (d117 : GFrame) (y123 : Int) (rec124 : GReader → GFrame → Int → Option (GFrame × Int)) (c158 : Bool) : Option (GFrame × Int) :=
    (bif c158 then
    decode_j3 fu d115 d117 y123 rec124
    else
    (rByteD fu d115).bind fun r163 =>
    decode_l3 fu fu r163.2 d117 r163.1)

def decode_l2 (fu : Nat) : Nat → GReader → GFrame → Int → Option (GFrame × Int)
  | 0, _, _, _ => none
  | n + 1, d115, d117, y123 =>
    (bif decide (y123 > 0) then
    decode_j4 fu d115 d117 y123 (decode_l2 fu n) (!d115.bad)
    else
    decode_j4 fu d115 d117 y123 (decode_l2 fu n) false)

def decode_j2 (fu : Nat) (d52 : GReader) (d54 : GFrame) (y60 : Int) (rec61 : GReader → GFrame → Int → Option (GFrame × Int)) (c105 : Bool) : Option (GFrame × Int) :=
    (bif c105 then
    decode_j1 fu d52 d54 y60 rec61
    else
    (rByteD fu d52).bind fun r110 =>
    decode_l2 fu fu r110.2 d54 r110.1)

def decode_l1 (fu : Nat) : Nat → GReader → GFrame → Int → Option (GFrame × Int)
  | 0, _, _, _ => none
  | n + 1, d52, d54, y60 =>
    (bif decide (y60 > 0) then
    decode_j2 fu d52 d54 y60 (decode_l1 fu n) (!d52.bad)
    else
    decode_j2 fu d52 d54 y60 (decode_l1 fu n) false)

def decodeD (fu : Nat) (x1 : ByteArray) : Option (GFrame × Int) :=
    (chkS x1).bind fun _ =>
    (some ({ s := x1, bad := Zr.zd } : GReader)).bind fun d6 =>
    (rByteD fu d6).bind fun r11 =>
    (rByteD fu r11.2).bind fun r14 =>
    (rByteD fu r14.2).bind fun r17 =>
    (some ({ kind := r11.1, node := r14.1, id := r17.1, ops := Zr.zd, deps := Zr.zd, at_ := Zr.zd, vals := Zr.zd } : GFrame)).bind fun d19 =>
    (some d19).bind fun d40 =>
    (rByteD fu r17.2).bind fun r47 =>
    decode_l1 fu fu r47.2 d40 r47.1

set_option maxRecDepth 100000 in
set_option maxHeartbeats 4000000 in
theorem decode_ok {M : Mm} {w : World} {x1 : ByteArray} {fu : Nat} {r : GFrame × Int} (hA : Agree M w)  (hz : decodeD fu x1 = some r) :
    Calls Try.prog 26 #[.string x1] w (Gives M w (fun M' u => ∃ c0, u = .tuple #[.agg c0.toArray, .int .i64 r.2] ∧ rep M' c0 r.1)) := by
  refine calls_W Try.func26 rfl 109 rfl rfl (by kernel_rfl) fun T hT => ?_
  have hT_0 : T 0 = .string x1 := hT 0
  clear hT
  have hE := Mm.ext.refl w.heap.size noX M
  have hS : St w noX M [] w := St.start hA
  rw [decodeD] at hz
  refine W_seq ?_
  refine W_reg ?_
  refine WL_c (O_alloc tz50 hS ?_)
  intro b3 w2 hb3 hS
  replace hS : St w noX M [.box b3 (Zr.zc GFrame) 50] w2 := hS
  have zb3 : rep M (Zr.zc GFrame) (Zr.zd : GFrame) := Zr.zr
  refine WL_y (Y_assign (.int .i64 0) rfl) ?_
  refine WL_nil (nm_then ?_)
  refine W_seq ?_
  refine W_reg ?_
  refine WL_y (Y_move (.string x1) hT_0) ?_
  obtain ⟨_, hx5, hz⟩ := bind_ok hz
  have hx5 := chkS_some hx5
  have k4_0 := GReader.w0 (Zr.zr : rep M (Zr.zc GReader) (Zr.zd : GReader)) (rep_str hx5 : rep M [Value.string x1] x1)
  obtain ⟨d6, hd4, hz⟩ := bind_ok hz
  obtain ⟨cs4, hf4, ha4⟩ : ∃ cs, fillZ (([(0, 1), (1, 1)] : List (Nat × Nat))[·]?) (Zr.zc GReader) [(0, .string x1)] = some cs ∧ rep M cs d6 := ⟨_, (fz_cons (Zr.zr : rep M (Zr.zc GReader) (Zr.zd : GReader)) rfl rfl (Rep.len (rep_str hx5 : rep M [Value.string x1] x1)) (by decide) fz_nil), rep_eq (x := ({ s := x1, bad := Zr.zd } : GReader)) k4_0 hd4⟩
  refine WL_y (Y_build [(0, .string x1)] tb119 (bpc rfl bp0) hf4) ?_
  refine WL_c (O_box (v := .agg cs4.toArray) (cs := cs4) rfl rfl hS ?_)
  intro b8 w7 hb8 hS
  replace hS : St w noX M [.box b8 cs4 119, .box b3 (Zr.zc GFrame) 50] w7 := hS
  refine WL_y (Y_assign (.pointer (some ⟨b8, 0, none⟩)) rfl) ?_
  refine WL_nil (nm_then ?_)
  refine W_seq ?_
  refine W_reg ?_
  refine WL_y (Y_move (.pointer (some ⟨b8, 0, none⟩)) rfl) ?_
  obtain ⟨r11, hr10, hz⟩ := bind_ok hz
  refine WL_c (O_lend (vs := [.pointer (some ⟨b8, 0, none⟩)]) (L := [.box b8 cs4 119]) (R := [.box b3 (Zr.zc GFrame) 50]) (rv := (fun M' u L' => ∃ k0, u = .int .i64 r11.1 ∧ L' = [.box b8 k0 119] ∧ rep M' k0 r11.2)) cb66 (args1 rfl) hS (hS.sel [0, 1] (by decide) rfl) (fun hS => rByte_ok hS ha4 hr10) ?_)
  rintro u10 M10 w9 L10 hx10 ⟨k0_10, rfl, hL10, f10_0⟩ hS
  replace hS := hS _ hL10
  replace zb3 := Rep.mono hx10.1 zb3
  replace ha4 := Rep.mono hx10.1 ha4
  replace hE := Mm.ext.trans hE hx10
  replace hS : St w noX M10 [.box b8 k0_10 119, .box b3 (Zr.zc GFrame) 50] w9 := hS
  refine WL_y (Y_move (.pointer (some ⟨b8, 0, none⟩)) rfl) ?_
  obtain ⟨r14, hr13, hz⟩ := bind_ok hz
  refine WL_c (O_lend (vs := [.pointer (some ⟨b8, 0, none⟩)]) (L := [.box b8 k0_10 119]) (R := [.box b3 (Zr.zc GFrame) 50]) (rv := (fun M' u L' => ∃ k0, u = .int .i64 r14.1 ∧ L' = [.box b8 k0 119] ∧ rep M' k0 r14.2)) cb66 (args1 rfl) hS (hS.sel [0, 1] (by decide) rfl) (fun hS => rByte_ok hS f10_0 hr13) ?_)
  rintro u13 M13 w12 L13 hx13 ⟨k0_13, rfl, hL13, f13_0⟩ hS
  replace hS := hS _ hL13
  replace zb3 := Rep.mono hx13.1 zb3
  replace f10_0 := Rep.mono hx13.1 f10_0
  replace hE := Mm.ext.trans hE hx13
  replace hS : St w noX M13 [.box b8 k0_13 119, .box b3 (Zr.zc GFrame) 50] w12 := hS
  refine WL_y (Y_move (.pointer (some ⟨b8, 0, none⟩)) rfl) ?_
  obtain ⟨r17, hr16, hz⟩ := bind_ok hz
  refine WL_c (O_lend (vs := [.pointer (some ⟨b8, 0, none⟩)]) (L := [.box b8 k0_13 119]) (R := [.box b3 (Zr.zc GFrame) 50]) (rv := (fun M' u L' => ∃ k0, u = .int .i64 r17.1 ∧ L' = [.box b8 k0 119] ∧ rep M' k0 r17.2)) cb66 (args1 rfl) hS (hS.sel [0, 1] (by decide) rfl) (fun hS => rByte_ok hS f13_0 hr16) ?_)
  rintro u16 M16 w15 L16 hx16 ⟨k0_16, rfl, hL16, f16_0⟩ hS
  replace hS := hS _ hL16
  replace zb3 := Rep.mono hx16.1 zb3
  replace f13_0 := Rep.mono hx16.1 f13_0
  replace hE := Mm.ext.trans hE hx16
  replace hS : St w noX M16 [.box b8 k0_16 119, .box b3 (Zr.zc GFrame) 50] w15 := hS
  have k18_0 := GFrame.w0 (Zr.zr : rep M16 (Zr.zc GFrame) (Zr.zd : GFrame)) (show rep M16 [Value.int .i64 r11.1] (r11.1 : Int) from rfl)
  have k18_1 := GFrame.w1 k18_0 (show rep M16 [Value.int .i64 r14.1] (r14.1 : Int) from rfl)
  have k18_2 := GFrame.w2 k18_1 (show rep M16 [Value.int .i64 r17.1] (r17.1 : Int) from rfl)
  obtain ⟨d19, hd18, hz⟩ := bind_ok hz
  obtain ⟨cs18, hf18, ha18⟩ : ∃ cs, fillZ (([(0, 1), (1, 1), (2, 1), (3, 1), (4, 1), (5, 1), (6, 1)] : List (Nat × Nat))[·]?) (Zr.zc GFrame) [(0, .int .i64 r11.1), (1, .int .i64 r14.1), (2, .int .i64 r17.1)] = some cs ∧ rep M16 cs d19 := ⟨_, (fz_cons (Zr.zr : rep M16 (Zr.zc GFrame) (Zr.zd : GFrame)) rfl rfl (Rep.len (show rep M16 [Value.int .i64 r11.1] (r11.1 : Int) from rfl)) (by decide) (fz_cons k18_0 rfl rfl (Rep.len (show rep M16 [Value.int .i64 r14.1] (r14.1 : Int) from rfl)) (by decide) (fz_cons k18_1 rfl rfl (Rep.len (show rep M16 [Value.int .i64 r17.1] (r17.1 : Int) from rfl)) (by decide) fz_nil))), rep_eq (x := ({ kind := r11.1, node := r14.1, id := r17.1, ops := Zr.zd, deps := Zr.zd, at_ := Zr.zd, vals := Zr.zd } : GFrame)) k18_2 hd18⟩
  have hp20 : sl cs18 3 1 = [.slice none 0 0] := (fillZ_apart hf18 (by rfl)).trans (by rfl)
  replace hS := hS.nilRow 114 3
  replace hS : St w noX M16 [.row (.slice none 0 0) 114 3, .box b8 k0_16 119, .box b3 (Zr.zc GFrame) 50] w15 := hS
  have hp22 : sl cs18 4 1 = [.slice none 0 0] := (fillZ_apart hf18 (by rfl)).trans (by rfl)
  replace hS := hS.nilRow 3 1
  replace hS : St w noX M16 [.row (.slice none 0 0) 3 1, .row (.slice none 0 0) 114 3, .box b8 k0_16 119, .box b3 (Zr.zc GFrame) 50] w15 := hS
  have hp24 : sl cs18 5 1 = [.slice none 0 0] := (fillZ_apart hf18 (by rfl)).trans (by rfl)
  replace hS := hS.nilRow 3 1
  replace hS : St w noX M16 [.row (.slice none 0 0) 3 1, .row (.slice none 0 0) 3 1, .row (.slice none 0 0) 114 3, .box b8 k0_16 119, .box b3 (Zr.zc GFrame) 50] w15 := hS
  have hp26 : sl cs18 6 1 = [.slice none 0 0] := (fillZ_apart hf18 (by rfl)).trans (by rfl)
  replace hS := hS.nilRow 3 1
  replace hS : St w noX M16 [.row (.slice none 0 0) 3 1, .row (.slice none 0 0) 3 1, .row (.slice none 0 0) 3 1, .row (.slice none 0 0) 114 3, .box b8 k0_16 119, .box b3 (Zr.zc GFrame) 50] w15 := hS
  refine WL_y (Y_build [(0, .int .i64 r11.1), (1, .int .i64 r14.1), (2, .int .i64 r17.1)] tb50 (bpc rfl (bpc rfl (bpc rfl bp0))) hf18) ?_
  refine WL_c (O_alloc tz50 hS ?_)
  intro b29 w28 hb29 hS
  replace hS : St w noX M16 [.box b29 (Zr.zc GFrame) 50, .row (.slice none 0 0) 3 1, .row (.slice none 0 0) 3 1, .row (.slice none 0 0) 3 1, .row (.slice none 0 0) 114 3, .box b8 k0_16 119, .box b3 (Zr.zc GFrame) 50] w28 := hS
  have zb29 : rep M16 (Zr.zc GFrame) (Zr.zd : GFrame) := Zr.zr
  have hp30 : sl (Zr.zc GFrame) 3 1 = [.slice none 0 0] := by rfl
  replace hS := hS.nilRow 114 3
  replace hS : St w noX M16 [.row (.slice none 0 0) 114 3, .box b29 (Zr.zc GFrame) 50, .row (.slice none 0 0) 3 1, .row (.slice none 0 0) 3 1, .row (.slice none 0 0) 3 1, .row (.slice none 0 0) 114 3, .box b8 k0_16 119, .box b3 (Zr.zc GFrame) 50] w28 := hS
  have hp32 : sl (Zr.zc GFrame) 4 1 = [.slice none 0 0] := by rfl
  replace hS := hS.nilRow 3 1
  replace hS : St w noX M16 [.row (.slice none 0 0) 3 1, .row (.slice none 0 0) 114 3, .box b29 (Zr.zc GFrame) 50, .row (.slice none 0 0) 3 1, .row (.slice none 0 0) 3 1, .row (.slice none 0 0) 3 1, .row (.slice none 0 0) 114 3, .box b8 k0_16 119, .box b3 (Zr.zc GFrame) 50] w28 := hS
  have hp34 : sl (Zr.zc GFrame) 5 1 = [.slice none 0 0] := by rfl
  replace hS := hS.nilRow 3 1
  replace hS : St w noX M16 [.row (.slice none 0 0) 3 1, .row (.slice none 0 0) 3 1, .row (.slice none 0 0) 114 3, .box b29 (Zr.zc GFrame) 50, .row (.slice none 0 0) 3 1, .row (.slice none 0 0) 3 1, .row (.slice none 0 0) 3 1, .row (.slice none 0 0) 114 3, .box b8 k0_16 119, .box b3 (Zr.zc GFrame) 50] w28 := hS
  have hp36 : sl (Zr.zc GFrame) 6 1 = [.slice none 0 0] := by rfl
  replace hS := hS.nilRow 3 1
  replace hS : St w noX M16 [.row (.slice none 0 0) 3 1, .row (.slice none 0 0) 3 1, .row (.slice none 0 0) 3 1, .row (.slice none 0 0) 114 3, .box b29 (Zr.zc GFrame) 50, .row (.slice none 0 0) 3 1, .row (.slice none 0 0) 3 1, .row (.slice none 0 0) 3 1, .row (.slice none 0 0) 114 3, .box b8 k0_16 119, .box b3 (Zr.zc GFrame) 50] w28 := hS
  have hw39 : (cs18 : List Value).length = 7 := Rep.len ha18
  have hl39 : ((Zr.zc GFrame)).length = 7 := Rep.len zb29
  obtain ⟨d40, hd39, hz⟩ := bind_ok hz
  have hb39 : rep M16 (pt (Zr.zc GFrame) (0) cs18) d40 := rep_eq (rep_whole (k := 7) (by rw [pt_length (by omega)]; exact hl39) (rep_leaf rfl ha18 (by omega))) hd39
  have hp41 : sl (pt (Zr.zc GFrame) (0) cs18) (0 + 3) 1 = [(.slice none 0 0)] := (sl_pt_sub (by omega) (by omega)).trans hp20
  have hp42 : sl (pt (Zr.zc GFrame) (0) cs18) (0 + 4) 1 = [(.slice none 0 0)] := (sl_pt_sub (by omega) (by omega)).trans hp22
  have hp43 : sl (pt (Zr.zc GFrame) (0) cs18) (0 + 5) 1 = [(.slice none 0 0)] := (sl_pt_sub (by omega) (by omega)).trans hp24
  have hp44 : sl (pt (Zr.zc GFrame) (0) cs18) (0 + 6) 1 = [(.slice none 0 0)] := (sl_pt_sub (by omega) (by omega)).trans hp26
  generalize hg39 : (pt (Zr.zc GFrame) (0) cs18) = cs39 at hb39 hp41 hp42 hp43 hp44
  refine WL_c (O_st (j := 4) (v := .agg cs18.toArray) (ws := cs18) hS rfl (by kernel_rfl) rfl rfl rfl hw39 (Rep.one ha18) (by omega) ?_)
  rw [hg39]
  clear hg39
  intro w38 hS
  replace hS : St w noX M16 [.row (.slice none 0 0) 3 1, .row (.slice none 0 0) 3 1, .row (.slice none 0 0) 3 1, .row (.slice none 0 0) 114 3, .box b29 cs39 50, .row (.slice none 0 0) 3 1, .row (.slice none 0 0) 3 1, .row (.slice none 0 0) 3 1, .row (.slice none 0 0) 114 3, .box b8 k0_16 119, .box b3 (Zr.zc GFrame) 50] w38 := hS
  refine WL_nil (nm_then ?_)
  refine W_seq ?_
  refine W_seq ?_
  refine W_reg ?_
  refine WL_y (Y_move (.pointer (some ⟨b8, 0, none⟩)) rfl) ?_
  obtain ⟨r47, hr46, hz⟩ := bind_ok hz
  refine WL_c (O_lend (vs := [.pointer (some ⟨b8, 0, none⟩)]) (L := [.box b8 k0_16 119]) (R := [.row (.slice none 0 0) 3 1, .row (.slice none 0 0) 3 1, .row (.slice none 0 0) 3 1, .row (.slice none 0 0) 114 3, .box b29 cs39 50, .row (.slice none 0 0) 3 1, .row (.slice none 0 0) 3 1, .row (.slice none 0 0) 3 1, .row (.slice none 0 0) 114 3, .box b3 (Zr.zc GFrame) 50]) (rv := (fun M' u L' => ∃ k0, u = .int .i64 r47.1 ∧ L' = [.box b8 k0 119] ∧ rep M' k0 r47.2)) cb66 (args1 rfl) hS (hS.sel [9, 0, 1, 2, 3, 4, 5, 6, 7, 8, 10] (by decide) rfl) (fun hS => rByte_ok hS f16_0 hr46) ?_)
  rintro u46 M46 w45 L46 hx46 ⟨k0_46, rfl, hL46, f46_0⟩ hS
  replace hS := hS _ hL46
  replace zb3 := Rep.mono hx46.1 zb3
  replace f16_0 := Rep.mono hx46.1 f16_0
  replace hb39 := Rep.mono hx46.1 hb39
  replace hE := Mm.ext.trans hE hx46
  replace hS : St w noX M46 [.box b8 k0_46 119, .row (.slice none 0 0) 3 1, .row (.slice none 0 0) 3 1, .row (.slice none 0 0) 3 1, .row (.slice none 0 0) 114 3, .box b29 cs39 50, .row (.slice none 0 0) 3 1, .row (.slice none 0 0) 3 1, .row (.slice none 0 0) 3 1, .row (.slice none 0 0) 114 3, .box b3 (Zr.zc GFrame) 50] w45 := hS
  refine WL_y (Y_assign (.int .i64 r47.1) rfl) ?_
  refine WL_nil (nm_then ?_)
  refine W_block ?_
  refine W_loop (fun k62 T' w' => ∃ M49 cs51 d52 cs53 d54 v55 y60, Mm.ext w.heap.size noX M46 M49 ∧ St w noX M49 [.box b8 cs51 119, .row (.slice none 0 0) 3 1, .row (.slice none 0 0) 3 1, .row (.slice none 0 0) 3 1, .row (.slice none 0 0) 114 3, .box b29 cs53 50, .row (.slice none 0 0) 3 1, .row (.slice none 0 0) 3 1, .row (.slice none 0 0) 3 1, .row v55 114 3, .box b3 (Zr.zc GFrame) 50] w' ∧ rep M49 cs51 d52 ∧ rep M49 cs53 d54 ∧ sl cs53 (0 + 3) 1 = [v55] ∧ sl cs53 (0 + 4) 1 = [(.slice none 0 0)] ∧ sl cs53 (0 + 5) 1 = [(.slice none 0 0)] ∧ sl cs53 (0 + 6) 1 = [(.slice none 0 0)] ∧ T' 2 = .pointer (some ⟨b3, 0, none⟩) ∧ T' 4 = .pointer (some ⟨b8, 0, none⟩) ∧ T' 5 = .pointer (some ⟨b29, 0, none⟩) ∧ T' 6 = .int .i64 y60 ∧ decode_l1 fu k62 d52 d54 y60 = some r) fu ?_ ?_ ?_
  · exact ⟨M46, k0_46, r47.2, cs39, d40, (.slice none 0 0), r47.1, (Mm.ext.refl _ _ _), hS, f46_0, hb39, hp41, hp42, hp43, hp44, rfl, rfl, rfl, rfl, hz⟩
  · rintro T' w' ⟨_, _, _, _, _, _, _, _, _, _, _, _, _, _, _, _, _, _, _, hz⟩
    rw [decode_l1] at hz
    cases hz
  · intro k62
    rintro T50 w48 ⟨M49, cs51, d52, cs53, d54, v55, y60, hx64, hS, hb51, hb53, hp56, hp57, hp58, hp59, hT50_2, hT50_4, hT50_5, hT50_6, hz⟩
    replace zb3 := Rep.mono hx64.1 zb3
    replace hE := Mm.ext.trans hE hx64
    have hF63 := hx64
    rw [decode_l1] at hz
    obtain ⟨rec61, hrec61⟩ : ∃ f, f = decode_l1 fu k62 := ⟨_, rfl⟩
    rw [← hrec61] at hz
    refine W_seqJ (fun T' w' => ∃ M66, Mm.ext w.heap.size noX M49 M66 ∧ St w noX M66 [.box b8 cs51 119, .row (.slice none 0 0) 3 1, .row (.slice none 0 0) 3 1, .row (.slice none 0 0) 3 1, .row (.slice none 0 0) 114 3, .box b29 cs53 50, .row (.slice none 0 0) 3 1, .row (.slice none 0 0) 3 1, .row (.slice none 0 0) 3 1, .row v55 114 3, .box b3 (Zr.zc GFrame) 50] w' ∧ T' 2 = .pointer (some ⟨b3, 0, none⟩) ∧ T' 4 = .pointer (some ⟨b8, 0, none⟩) ∧ T' 5 = .pointer (some ⟨b29, 0, none⟩) ∧ T' 6 = .int .i64 y60 ∧ decode_j1 fu d52 d54 y60 rec61 = some r) ?_ ?_
    · have hF101 := Mm.ext.refl w.heap.size noX M49
      refine W_seqJ (fun T' w' => ∃ M103 c105, Mm.ext w.heap.size noX M49 M103 ∧ St w noX M103 [.box b8 cs51 119, .row (.slice none 0 0) 3 1, .row (.slice none 0 0) 3 1, .row (.slice none 0 0) 3 1, .row (.slice none 0 0) 114 3, .box b29 cs53 50, .row (.slice none 0 0) 3 1, .row (.slice none 0 0) 3 1, .row (.slice none 0 0) 3 1, .row v55 114 3, .box b3 (Zr.zc GFrame) 50] w' ∧ T' 2 = .pointer (some ⟨b3, 0, none⟩) ∧ T' 4 = .pointer (some ⟨b8, 0, none⟩) ∧ T' 5 = .pointer (some ⟨b29, 0, none⟩) ∧ T' 6 = .int .i64 y60 ∧ T' 29 = .bool c105 ∧ decode_j2 fu d52 d54 y60 rec61 c105 = some r) ?_ ?_
      · have hF294 := Mm.ext.refl w.heap.size noX M49
        refine W_reg ?_
        refine WL_y (Y_move (.int .i64 y60) hT50_6) ?_
        refine WL_y (Y_gtr rfl rfl) ?_
        refine WL_y (Y_move (.bool (decide (y60 > 0))) rfl) ?_
        rcases Bool.eq_false_or_eq_true (decide (y60 > 0)) with hc295 | hc295
        · replace hz := bif_ok_t hz hc295
          refine WL_gy rfl (bt hc295 rfl) (Y_move (.pointer (some ⟨b8, 0, none⟩)) hT50_4) ?_
          refine WL_gy rfl (bt hc295 rfl) (Y_nil rfl) ?_
          refine WL_gy rfl (bt hc295 rfl) (Y_fa fa119_1 rfl) ?_
          refine WL_gy rfl (bt hc295 rfl) (Y_ld1 (.bool d52.bad) ts4 rfl (hS.bvB 0 rfl) (GReader.p1 (rep_root (k := 2) rfl hb51))) ?_
          refine WL_gy rfl (bt hc295 rfl) (Y_not rfl) ?_
          refine WL_y (Y_pick_t (.bool (!d52.bad)) (bt hc295 rfl) rfl) ?_
          refine WL_nil (nm_then ?_)
          exact ⟨M49, (!d52.bad), hF294, hS, hT50_2, hT50_4, hT50_5, hT50_6, rfl, hz⟩
        · replace hz := bif_ok_f hz hc295
          refine WL_s (j := 2) rfl (bf hc295 rfl) rfl ?_
          refine WL_s (j := 2) rfl (bf hc295 rfl) rfl ?_
          refine WL_s (j := 2) rfl (bf hc295 rfl) rfl ?_
          refine WL_s (j := 2) rfl (bf hc295 rfl) rfl ?_
          refine WL_s (j := 2) rfl (bf hc295 rfl) rfl ?_
          refine WL_y (Y_pick_f (.bool false) (bf hc295 rfl) rfl) ?_
          refine WL_nil (nm_then ?_)
          exact ⟨M49, false, hF294, hS, hT50_2, hT50_4, hT50_5, hT50_6, rfl, hz⟩
      · rintro T104 w102 ⟨M103, c105, hx106, hS, hT104_2, hT104_4, hT104_5, hT104_6, hT104_29, hz⟩
        replace zb3 := Rep.mono hx106.1 zb3
        replace hb51 := Rep.mono hx106.1 hb51
        replace hb53 := Rep.mono hx106.1 hb53
        replace hE := Mm.ext.trans hE hx106
        replace hF63 := Mm.ext.trans hF63 hx106
        replace hF101 := Mm.ext.trans hF101 hx106
        rw [decode_j2] at hz
        refine W_cond hT104_29 (fun hc107 => ?_) (fun hc107 => ?_)
        · replace hz := bif_ok_t hz hc107
          refine W_skip (nm_then ?_)
          exact ⟨M103, hF101, hS, hT104_2, hT104_4, hT104_5, hT104_6, hz⟩
        · replace hz := bif_ok_f hz hc107
          refine W_exit ?_
          refine ex_then ?_
          refine ex_then ?_
          refine ex_hit ?_
          refine (nm_then ?_)
          refine W_seq ?_
          refine W_seq ?_
          refine W_reg ?_
          refine WL_y (Y_move (.pointer (some ⟨b8, 0, none⟩)) hT104_4) ?_
          obtain ⟨r110, hr109, hz⟩ := bind_ok hz
          refine WL_c (O_lend (vs := [.pointer (some ⟨b8, 0, none⟩)]) (L := [.box b8 cs51 119]) (R := [.row (.slice none 0 0) 3 1, .row (.slice none 0 0) 3 1, .row (.slice none 0 0) 3 1, .row (.slice none 0 0) 114 3, .box b29 cs53 50, .row (.slice none 0 0) 3 1, .row (.slice none 0 0) 3 1, .row (.slice none 0 0) 3 1, .row v55 114 3, .box b3 (Zr.zc GFrame) 50]) (rv := (fun M' u L' => ∃ k0, u = .int .i64 r110.1 ∧ L' = [.box b8 k0 119] ∧ rep M' k0 r110.2)) cb66 (args1 rfl) hS (hS.sel [0, 1, 2, 3, 4, 5, 6, 7, 8, 9, 10] (by decide) rfl) (fun hS => rByte_ok hS hb51 hr109) ?_)
          rintro u109 M109 w108 L109 hx109 ⟨k0_109, rfl, hL109, f109_0⟩ hS
          replace hS := hS _ hL109
          replace zb3 := Rep.mono hx109.1 zb3
          replace hb51 := Rep.mono hx109.1 hb51
          replace hb53 := Rep.mono hx109.1 hb53
          replace hE := Mm.ext.trans hE hx109
          replace hF63 := Mm.ext.trans hF63 hx109
          replace hF101 := Mm.ext.trans hF101 hx109
          replace hS : St w noX M109 [.box b8 k0_109 119, .row (.slice none 0 0) 3 1, .row (.slice none 0 0) 3 1, .row (.slice none 0 0) 3 1, .row (.slice none 0 0) 114 3, .box b29 cs53 50, .row (.slice none 0 0) 3 1, .row (.slice none 0 0) 3 1, .row (.slice none 0 0) 3 1, .row v55 114 3, .box b3 (Zr.zc GFrame) 50] w108 := hS
          refine WL_y (Y_assign (.int .i64 r110.1) rfl) ?_
          refine WL_nil (nm_then ?_)
          refine W_block ?_
          refine W_loop (fun k125 T' w' => ∃ M112 cs114 d115 cs116 d117 v119 y123, Mm.ext w.heap.size noX M109 M112 ∧ St w noX M112 [.box b8 cs114 119, .row (.slice none 0 0) 3 1, .row (.slice none 0 0) 3 1, .row (.slice none 0 0) 3 1, .row (.slice none 0 0) 114 3, .box b29 cs116 50, .row (.slice none 0 0) 3 1, .row (.slice none 0 0) 3 1, .row v119 3 1, .row v55 114 3, .box b3 (Zr.zc GFrame) 50] w' ∧ rep M112 cs114 d115 ∧ rep M112 cs116 d117 ∧ sl cs116 (0 + 3) 1 = [v55] ∧ sl cs116 (0 + 4) 1 = [v119] ∧ sl cs116 (0 + 5) 1 = [(.slice none 0 0)] ∧ sl cs116 (0 + 6) 1 = [(.slice none 0 0)] ∧ T' 2 = .pointer (some ⟨b3, 0, none⟩) ∧ T' 4 = .pointer (some ⟨b8, 0, none⟩) ∧ T' 5 = .pointer (some ⟨b29, 0, none⟩) ∧ T' 7 = .int .i64 y123 ∧ decode_l2 fu k125 d115 d117 y123 = some r) fu ?_ ?_ ?_
          · exact ⟨M109, k0_109, r110.2, cs53, d54, (.slice none 0 0), r110.1, (Mm.ext.refl _ _ _), hS, f109_0, hb53, hp56, hp57, hp58, hp59, hT104_2, hT104_4, hT104_5, rfl, hz⟩
          · rintro T' w' ⟨_, _, _, _, _, _, _, _, _, _, _, _, _, _, _, _, _, _, _, hz⟩
            rw [decode_l2] at hz
            cases hz
          · intro k125
            rintro T113 w111 ⟨M112, cs114, d115, cs116, d117, v119, y123, hx127, hS, hb114, hb116, hp118, hp120, hp121, hp122, hT113_2, hT113_4, hT113_5, hT113_7, hz⟩
            replace zb3 := Rep.mono hx127.1 zb3
            replace hE := Mm.ext.trans hE hx127
            replace hF63 := Mm.ext.trans hF63 hx127
            replace hF101 := Mm.ext.trans hF101 hx127
            have hF126 := hx127
            rw [decode_l2] at hz
            obtain ⟨rec124, hrec124⟩ : ∃ f, f = decode_l2 fu k125 := ⟨_, rfl⟩
            rw [← hrec124] at hz
            refine W_seqJ (fun T' w' => ∃ M129, Mm.ext w.heap.size noX M112 M129 ∧ St w noX M129 [.box b8 cs114 119, .row (.slice none 0 0) 3 1, .row (.slice none 0 0) 3 1, .row (.slice none 0 0) 3 1, .row (.slice none 0 0) 114 3, .box b29 cs116 50, .row (.slice none 0 0) 3 1, .row (.slice none 0 0) 3 1, .row v119 3 1, .row v55 114 3, .box b3 (Zr.zc GFrame) 50] w' ∧ T' 2 = .pointer (some ⟨b3, 0, none⟩) ∧ T' 4 = .pointer (some ⟨b8, 0, none⟩) ∧ T' 5 = .pointer (some ⟨b29, 0, none⟩) ∧ T' 7 = .int .i64 y123 ∧ decode_j3 fu d115 d117 y123 rec124 = some r) ?_ ?_
            · have hF154 := Mm.ext.refl w.heap.size noX M112
              refine W_seqJ (fun T' w' => ∃ M156 c158, Mm.ext w.heap.size noX M112 M156 ∧ St w noX M156 [.box b8 cs114 119, .row (.slice none 0 0) 3 1, .row (.slice none 0 0) 3 1, .row (.slice none 0 0) 3 1, .row (.slice none 0 0) 114 3, .box b29 cs116 50, .row (.slice none 0 0) 3 1, .row (.slice none 0 0) 3 1, .row v119 3 1, .row v55 114 3, .box b3 (Zr.zc GFrame) 50] w' ∧ T' 2 = .pointer (some ⟨b3, 0, none⟩) ∧ T' 4 = .pointer (some ⟨b8, 0, none⟩) ∧ T' 5 = .pointer (some ⟨b29, 0, none⟩) ∧ T' 7 = .int .i64 y123 ∧ T' 54 = .bool c158 ∧ decode_j4 fu d115 d117 y123 rec124 c158 = some r) ?_ ?_
              · have hF292 := Mm.ext.refl w.heap.size noX M112
                refine W_reg ?_
                refine WL_y (Y_move (.int .i64 y123) hT113_7) ?_
                refine WL_y (Y_gtr rfl rfl) ?_
                refine WL_y (Y_move (.bool (decide (y123 > 0))) rfl) ?_
                rcases Bool.eq_false_or_eq_true (decide (y123 > 0)) with hc293 | hc293
                · replace hz := bif_ok_t hz hc293
                  refine WL_gy rfl (bt hc293 rfl) (Y_move (.pointer (some ⟨b8, 0, none⟩)) hT113_4) ?_
                  refine WL_gy rfl (bt hc293 rfl) (Y_nil rfl) ?_
                  refine WL_gy rfl (bt hc293 rfl) (Y_fa fa119_1 rfl) ?_
                  refine WL_gy rfl (bt hc293 rfl) (Y_ld1 (.bool d115.bad) ts4 rfl (hS.bvB 0 rfl) (GReader.p1 (rep_root (k := 2) rfl hb114))) ?_
                  refine WL_gy rfl (bt hc293 rfl) (Y_not rfl) ?_
                  refine WL_y (Y_pick_t (.bool (!d115.bad)) (bt hc293 rfl) rfl) ?_
                  refine WL_nil (nm_then ?_)
                  exact ⟨M112, (!d115.bad), hF292, hS, hT113_2, hT113_4, hT113_5, hT113_7, rfl, hz⟩
                · replace hz := bif_ok_f hz hc293
                  refine WL_s (j := 2) rfl (bf hc293 rfl) rfl ?_
                  refine WL_s (j := 2) rfl (bf hc293 rfl) rfl ?_
                  refine WL_s (j := 2) rfl (bf hc293 rfl) rfl ?_
                  refine WL_s (j := 2) rfl (bf hc293 rfl) rfl ?_
                  refine WL_s (j := 2) rfl (bf hc293 rfl) rfl ?_
                  refine WL_y (Y_pick_f (.bool false) (bf hc293 rfl) rfl) ?_
                  refine WL_nil (nm_then ?_)
                  exact ⟨M112, false, hF292, hS, hT113_2, hT113_4, hT113_5, hT113_7, rfl, hz⟩
              · rintro T157 w155 ⟨M156, c158, hx159, hS, hT157_2, hT157_4, hT157_5, hT157_7, hT157_54, hz⟩
                replace zb3 := Rep.mono hx159.1 zb3
                replace hb114 := Rep.mono hx159.1 hb114
                replace hb116 := Rep.mono hx159.1 hb116
                replace hE := Mm.ext.trans hE hx159
                replace hF63 := Mm.ext.trans hF63 hx159
                replace hF101 := Mm.ext.trans hF101 hx159
                replace hF126 := Mm.ext.trans hF126 hx159
                replace hF154 := Mm.ext.trans hF154 hx159
                rw [decode_j4] at hz
                refine W_cond hT157_54 (fun hc160 => ?_) (fun hc160 => ?_)
                · replace hz := bif_ok_t hz hc160
                  refine W_skip (nm_then ?_)
                  exact ⟨M156, hF154, hS, hT157_2, hT157_4, hT157_5, hT157_7, hz⟩
                · replace hz := bif_ok_f hz hc160
                  refine W_exit ?_
                  refine ex_then ?_
                  refine ex_then ?_
                  refine ex_hit ?_
                  refine (nm_then ?_)
                  refine W_seq ?_
                  refine W_seq ?_
                  refine W_reg ?_
                  refine WL_y (Y_move (.pointer (some ⟨b8, 0, none⟩)) hT157_4) ?_
                  obtain ⟨r163, hr162, hz⟩ := bind_ok hz
                  refine WL_c (O_lend (vs := [.pointer (some ⟨b8, 0, none⟩)]) (L := [.box b8 cs114 119]) (R := [.row (.slice none 0 0) 3 1, .row (.slice none 0 0) 3 1, .row (.slice none 0 0) 3 1, .row (.slice none 0 0) 114 3, .box b29 cs116 50, .row (.slice none 0 0) 3 1, .row (.slice none 0 0) 3 1, .row v119 3 1, .row v55 114 3, .box b3 (Zr.zc GFrame) 50]) (rv := (fun M' u L' => ∃ k0, u = .int .i64 r163.1 ∧ L' = [.box b8 k0 119] ∧ rep M' k0 r163.2)) cb66 (args1 rfl) hS (hS.sel [0, 1, 2, 3, 4, 5, 6, 7, 8, 9, 10] (by decide) rfl) (fun hS => rByte_ok hS hb114 hr162) ?_)
                  rintro u162 M162 w161 L162 hx162 ⟨k0_162, rfl, hL162, f162_0⟩ hS
                  replace hS := hS _ hL162
                  replace zb3 := Rep.mono hx162.1 zb3
                  replace hb114 := Rep.mono hx162.1 hb114
                  replace hb116 := Rep.mono hx162.1 hb116
                  replace hE := Mm.ext.trans hE hx162
                  replace hF63 := Mm.ext.trans hF63 hx162
                  replace hF101 := Mm.ext.trans hF101 hx162
                  replace hF126 := Mm.ext.trans hF126 hx162
                  replace hF154 := Mm.ext.trans hF154 hx162
                  replace hS : St w noX M162 [.box b8 k0_162 119, .row (.slice none 0 0) 3 1, .row (.slice none 0 0) 3 1, .row (.slice none 0 0) 3 1, .row (.slice none 0 0) 114 3, .box b29 cs116 50, .row (.slice none 0 0) 3 1, .row (.slice none 0 0) 3 1, .row v119 3 1, .row v55 114 3, .box b3 (Zr.zc GFrame) 50] w161 := hS
                  refine WL_y (Y_assign (.int .i64 r163.1) rfl) ?_
                  refine WL_nil (nm_then ?_)
                  refine W_block ?_
                  refine W_loop (fun k179 T' w' => ∃ M165 cs167 d168 cs169 d170 v173 v175 y177, Mm.ext w.heap.size noX M162 M165 ∧ St w noX M165 [.box b8 cs167 119, .row (.slice none 0 0) 3 1, .row (.slice none 0 0) 3 1, .row (.slice none 0 0) 3 1, .row (.slice none 0 0) 114 3, .box b29 cs169 50, .row v175 3 1, .row v173 3 1, .row v119 3 1, .row v55 114 3, .box b3 (Zr.zc GFrame) 50] w' ∧ rep M165 cs167 d168 ∧ rep M165 cs169 d170 ∧ sl cs169 (0 + 3) 1 = [v55] ∧ sl cs169 (0 + 4) 1 = [v119] ∧ sl cs169 (0 + 5) 1 = [v173] ∧ sl cs169 (0 + 6) 1 = [v175] ∧ T' 2 = .pointer (some ⟨b3, 0, none⟩) ∧ T' 4 = .pointer (some ⟨b8, 0, none⟩) ∧ T' 5 = .pointer (some ⟨b29, 0, none⟩) ∧ T' 8 = .int .i64 y177 ∧ decode_l3 fu k179 d168 d170 y177 = some r) fu ?_ ?_ ?_
                  · exact ⟨M162, k0_162, r163.2, cs116, d117, (.slice none 0 0), (.slice none 0 0), r163.1, (Mm.ext.refl _ _ _), hS, f162_0, hb116, hp118, hp120, hp121, hp122, hT157_2, hT157_4, hT157_5, rfl, hz⟩
                  · rintro T' w' ⟨_, _, _, _, _, _, _, _, _, _, _, _, _, _, _, _, _, _, _, _, hz⟩
                    rw [decode_l3] at hz
                    cases hz
                  · intro k179
                    rintro T166 w164 ⟨M165, cs167, d168, cs169, d170, v173, v175, y177, hx181, hS, hb167, hb169, hp171, hp172, hp174, hp176, hT166_2, hT166_4, hT166_5, hT166_8, hz⟩
                    replace zb3 := Rep.mono hx181.1 zb3
                    replace hE := Mm.ext.trans hE hx181
                    replace hF63 := Mm.ext.trans hF63 hx181
                    replace hF101 := Mm.ext.trans hF101 hx181
                    replace hF126 := Mm.ext.trans hF126 hx181
                    replace hF154 := Mm.ext.trans hF154 hx181
                    have hF180 := hx181
                    rw [decode_l3] at hz
                    obtain ⟨rec178, hrec178⟩ : ∃ f, f = decode_l3 fu k179 := ⟨_, rfl⟩
                    rw [← hrec178] at hz
                    refine W_seqJ (fun T' w' => ∃ M183, Mm.ext w.heap.size noX M165 M183 ∧ St w noX M183 [.box b8 cs167 119, .row (.slice none 0 0) 3 1, .row (.slice none 0 0) 3 1, .row (.slice none 0 0) 3 1, .row (.slice none 0 0) 114 3, .box b29 cs169 50, .row v175 3 1, .row v173 3 1, .row v119 3 1, .row v55 114 3, .box b3 (Zr.zc GFrame) 50] w' ∧ T' 2 = .pointer (some ⟨b3, 0, none⟩) ∧ T' 4 = .pointer (some ⟨b8, 0, none⟩) ∧ T' 5 = .pointer (some ⟨b29, 0, none⟩) ∧ T' 8 = .int .i64 y177 ∧ decode_j5 fu d168 d170 y177 rec178 = some r) ?_ ?_
                    · have hF230 := Mm.ext.refl w.heap.size noX M165
                      refine W_seqJ (fun T' w' => ∃ M232 c234, Mm.ext w.heap.size noX M165 M232 ∧ St w noX M232 [.box b8 cs167 119, .row (.slice none 0 0) 3 1, .row (.slice none 0 0) 3 1, .row (.slice none 0 0) 3 1, .row (.slice none 0 0) 114 3, .box b29 cs169 50, .row v175 3 1, .row v173 3 1, .row v119 3 1, .row v55 114 3, .box b3 (Zr.zc GFrame) 50] w' ∧ T' 2 = .pointer (some ⟨b3, 0, none⟩) ∧ T' 4 = .pointer (some ⟨b8, 0, none⟩) ∧ T' 5 = .pointer (some ⟨b29, 0, none⟩) ∧ T' 8 = .int .i64 y177 ∧ T' 74 = .bool c234 ∧ decode_j6 fu d168 d170 y177 rec178 c234 = some r) ?_ ?_
                      · have hF290 := Mm.ext.refl w.heap.size noX M165
                        refine W_reg ?_
                        refine WL_y (Y_move (.int .i64 y177) hT166_8) ?_
                        refine WL_y (Y_gtr rfl rfl) ?_
                        refine WL_y (Y_move (.bool (decide (y177 > 0))) rfl) ?_
                        rcases Bool.eq_false_or_eq_true (decide (y177 > 0)) with hc291 | hc291
                        · replace hz := bif_ok_t hz hc291
                          refine WL_gy rfl (bt hc291 rfl) (Y_move (.pointer (some ⟨b8, 0, none⟩)) hT166_4) ?_
                          refine WL_gy rfl (bt hc291 rfl) (Y_nil rfl) ?_
                          refine WL_gy rfl (bt hc291 rfl) (Y_fa fa119_1 rfl) ?_
                          refine WL_gy rfl (bt hc291 rfl) (Y_ld1 (.bool d168.bad) ts4 rfl (hS.bvB 0 rfl) (GReader.p1 (rep_root (k := 2) rfl hb167))) ?_
                          refine WL_gy rfl (bt hc291 rfl) (Y_not rfl) ?_
                          refine WL_y (Y_pick_t (.bool (!d168.bad)) (bt hc291 rfl) rfl) ?_
                          refine WL_nil (nm_then ?_)
                          exact ⟨M165, (!d168.bad), hF290, hS, hT166_2, hT166_4, hT166_5, hT166_8, rfl, hz⟩
                        · replace hz := bif_ok_f hz hc291
                          refine WL_s (j := 2) rfl (bf hc291 rfl) rfl ?_
                          refine WL_s (j := 2) rfl (bf hc291 rfl) rfl ?_
                          refine WL_s (j := 2) rfl (bf hc291 rfl) rfl ?_
                          refine WL_s (j := 2) rfl (bf hc291 rfl) rfl ?_
                          refine WL_s (j := 2) rfl (bf hc291 rfl) rfl ?_
                          refine WL_y (Y_pick_f (.bool false) (bf hc291 rfl) rfl) ?_
                          refine WL_nil (nm_then ?_)
                          exact ⟨M165, false, hF290, hS, hT166_2, hT166_4, hT166_5, hT166_8, rfl, hz⟩
                      · rintro T233 w231 ⟨M232, c234, hx235, hS, hT233_2, hT233_4, hT233_5, hT233_8, hT233_74, hz⟩
                        replace zb3 := Rep.mono hx235.1 zb3
                        replace hb167 := Rep.mono hx235.1 hb167
                        replace hb169 := Rep.mono hx235.1 hb169
                        replace hE := Mm.ext.trans hE hx235
                        replace hF63 := Mm.ext.trans hF63 hx235
                        replace hF101 := Mm.ext.trans hF101 hx235
                        replace hF126 := Mm.ext.trans hF126 hx235
                        replace hF154 := Mm.ext.trans hF154 hx235
                        replace hF180 := Mm.ext.trans hF180 hx235
                        replace hF230 := Mm.ext.trans hF230 hx235
                        rw [decode_j6] at hz
                        refine W_cond hT233_74 (fun hc236 => ?_) (fun hc236 => ?_)
                        · replace hz := bif_ok_t hz hc236
                          refine W_skip (nm_then ?_)
                          exact ⟨M232, hF230, hS, hT233_2, hT233_4, hT233_5, hT233_8, hz⟩
                        · replace hz := bif_ok_f hz hc236
                          refine W_exit ?_
                          refine ex_then ?_
                          refine ex_then ?_
                          refine ex_hit ?_
                          refine (nm_then ?_)
                          refine W_seqJ (fun T' w' => ∃ M238 cs240 d241, Mm.ext w.heap.size noX M232 M238 ∧ St w noX M238 [.box b8 cs167 119, .row (.slice none 0 0) 3 1, .row (.slice none 0 0) 3 1, .row (.slice none 0 0) 3 1, .row (.slice none 0 0) 114 3, .box b29 cs169 50, .row v175 3 1, .row v173 3 1, .row v119 3 1, .row v55 114 3, .box b3 cs240 50] w' ∧ rep M238 cs240 d241 ∧ T' 2 = .pointer (some ⟨b3, 0, none⟩) ∧ T' 5 = .pointer (some ⟨b29, 0, none⟩) ∧ decode_j7 d170 d241 = some r) ?_ ?_
                          · have hF255 := Mm.ext.refl w.heap.size noX M232
                            refine W_seqJ (fun T' w' => ∃ M257 c259, Mm.ext w.heap.size noX M232 M257 ∧ St w noX M257 [.box b8 cs167 119, .row (.slice none 0 0) 3 1, .row (.slice none 0 0) 3 1, .row (.slice none 0 0) 3 1, .row (.slice none 0 0) 114 3, .box b29 cs169 50, .row v175 3 1, .row v173 3 1, .row v119 3 1, .row v55 114 3, .box b3 (Zr.zc GFrame) 50] w' ∧ T' 2 = .pointer (some ⟨b3, 0, none⟩) ∧ T' 5 = .pointer (some ⟨b29, 0, none⟩) ∧ T' 106 = .bool c259 ∧ decode_j8 d170 c259 = some r) ?_ ?_
                            · have hF279 := Mm.ext.refl w.heap.size noX M232
                              refine W_reg ?_
                              refine WL_y (Y_move (.pointer (some ⟨b8, 0, none⟩)) hT233_4) ?_
                              refine WL_y (Y_nil rfl) ?_
                              refine WL_y (Y_fa fa119_1 rfl) ?_
                              refine WL_y (Y_ld1 (.bool d168.bad) ts4 rfl (hS.bvB 0 rfl) (GReader.p1 (rep_root (k := 2) rfl hb167))) ?_
                              refine WL_y (Y_move (.bool d168.bad) rfl) ?_
                              rcases Bool.eq_false_or_eq_true d168.bad with hc280 | hc280
                              · replace hz := bif_ok_t hz hc280
                                refine WL_s (j := 4) rfl (bt hc280 rfl) rfl ?_
                                refine WL_s (j := 4) rfl (bt hc280 rfl) rfl ?_
                                refine WL_s (j := 4) rfl (bt hc280 rfl) rfl ?_
                                refine WL_s (j := 4) rfl (bt hc280 rfl) rfl ?_
                                refine WL_s (j := 4) rfl (bt hc280 rfl) rfl ?_
                                refine WL_y (Y_pick_t (.bool true) (bt hc280 rfl) rfl) ?_
                                refine WL_y (Y_move (.bool true) rfl) ?_
                                refine WL_s (j := 11) rfl rfl rfl ?_
                                refine WL_s (j := 11) rfl rfl rfl ?_
                                refine WL_s (j := 11) rfl rfl rfl ?_
                                refine WL_y (Y_pick_t (.bool true) rfl rfl) ?_
                                refine WL_nil (nm_then ?_)
                                exact ⟨M232, true, hF279, hS, hT233_2, hT233_5, rfl, hz⟩
                              · replace hz := bif_ok_f hz hc280
                                refine WL_gy rfl (bf hc280 rfl) (Y_move (.pointer (some ⟨b8, 0, none⟩)) hT233_4) ?_
                                refine WL_gy rfl (bf hc280 rfl) (Y_nil rfl) ?_
                                refine WL_gy rfl (bf hc280 rfl) (Y_fa fa119_0 rfl) ?_
                                refine WL_gy rfl (bf hc280 rfl) (Y_ld1 (.string d168.s) ts9 rfl (hS.bvB 0 rfl) (GReader.p0 (rep_root (k := 2) rfl hb167)).1) ?_
                                refine WL_gy rfl (bf hc280 rfl) (Y_neS rfl rfl) ?_
                                refine WL_y (Y_pick_f (.bool (!(d168.s.toList == (⟨#[]⟩ : ByteArray).toList))) (bf hc280 rfl) rfl) ?_
                                refine WL_y (Y_move (.bool (!(d168.s.toList == (⟨#[]⟩ : ByteArray).toList))) rfl) ?_
                                rcases Bool.eq_false_or_eq_true (!(d168.s.toList == (⟨#[]⟩ : ByteArray).toList)) with hc281 | hc281
                                · replace hz := bif_ok_t hz hc281
                                  refine WL_s (j := 11) rfl (bt hc281 rfl) rfl ?_
                                  refine WL_s (j := 11) rfl (bt hc281 rfl) rfl ?_
                                  refine WL_s (j := 11) rfl (bt hc281 rfl) rfl ?_
                                  refine WL_y (Y_pick_t (.bool true) (bt hc281 rfl) rfl) ?_
                                  refine WL_nil (nm_then ?_)
                                  exact ⟨M232, true, hF279, hS, hT233_2, hT233_5, rfl, hz⟩
                                · replace hz := bif_ok_f hz hc281
                                  have ha282 := (rep_root (k := 7) rfl hb169)
                                  have hp283 : sl (sl cs169 (0) 7) 3 1 = [v55] := (sl_sub (by decide)).trans hp171
                                  have hp284 : sl (sl cs169 (0) 7) 4 1 = [v119] := (sl_sub (by decide)).trans hp172
                                  have hp285 : sl (sl cs169 (0) 7) 5 1 = [v173] := (sl_sub (by decide)).trans hp174
                                  have hp286 : sl (sl cs169 (0) 7) 6 1 = [v175] := (sl_sub (by decide)).trans hp176
                                  refine WL_gy rfl (bf hc281 rfl) (Y_ldn ta50 hT233_5 (hS.bvB 5 rfl) (Rep.len ha282)) ?_
                                  obtain ⟨r289, hr288, hz⟩ := bind_ok hz
                                  replace hr288 := Option.some.inj hr288
                                  refine WL_g rfl (bf hc281 rfl) (O_val (vs := [.agg (sl cs169 (0) 7).toArray]) (v := .int .i64 r289) cb32 (args1 rfl) hS (hr288 ▸ (c_good hS.agree ha282)) ?_)
                                  intro w287 hS
                                  refine WL_gy rfl (bf hc281 rfl) (Y_neq rfl rfl) ?_
                                  refine WL_y (Y_pick_f (.bool (r289 != 0)) (bf hc281 rfl) rfl) ?_
                                  refine WL_nil (nm_then ?_)
                                  exact ⟨M232, (r289 != 0), hF279, hS, hT233_2, hT233_5, rfl, hz⟩
                            · rintro T258 w256 ⟨M257, c259, hx260, hS, hT258_2, hT258_5, hT258_106, hz⟩
                              replace zb3 := Rep.mono hx260.1 zb3
                              replace hb167 := Rep.mono hx260.1 hb167
                              replace hb169 := Rep.mono hx260.1 hb169
                              replace hE := Mm.ext.trans hE hx260
                              replace hF63 := Mm.ext.trans hF63 hx260
                              replace hF101 := Mm.ext.trans hF101 hx260
                              replace hF126 := Mm.ext.trans hF126 hx260
                              replace hF154 := Mm.ext.trans hF154 hx260
                              replace hF180 := Mm.ext.trans hF180 hx260
                              replace hF230 := Mm.ext.trans hF230 hx260
                              replace hF255 := Mm.ext.trans hF255 hx260
                              rw [decode_j8] at hz
                              refine W_cond hT258_106 (fun hc261 => ?_) (fun hc261 => ?_)
                              · replace hz := bif_ok_t hz hc261
                                refine W_seq ?_
                                refine W_reg ?_
                                obtain ⟨d263, hd262, hz⟩ := bind_ok hz
                                obtain ⟨cs262, hf262, ha262⟩ : ∃ cs, fillZ (([(0, 1), (1, 1), (2, 1), (3, 1), (4, 1), (5, 1), (6, 1)] : List (Nat × Nat))[·]?) (Zr.zc GFrame) [] = some cs ∧ rep M257 cs d263 := ⟨_, fz_nil, rep_eq (x := ({ kind := Zr.zd, node := Zr.zd, id := Zr.zd, ops := Zr.zd, deps := Zr.zd, at_ := Zr.zd, vals := Zr.zd } : GFrame)) (Zr.zr : rep M257 (Zr.zc GFrame) (Zr.zd : GFrame)) hd262⟩
                                have hp264 : sl cs262 3 1 = [.slice none 0 0] := (fillZ_apart hf262 (by rfl)).trans (by rfl)
                                replace hS := hS.nilRow 114 3
                                replace hS : St w noX M257 [.row (.slice none 0 0) 114 3, .box b8 cs167 119, .row (.slice none 0 0) 3 1, .row (.slice none 0 0) 3 1, .row (.slice none 0 0) 3 1, .row (.slice none 0 0) 114 3, .box b29 cs169 50, .row v175 3 1, .row v173 3 1, .row v119 3 1, .row v55 114 3, .box b3 (Zr.zc GFrame) 50] w256 := hS
                                have hp266 : sl cs262 4 1 = [.slice none 0 0] := (fillZ_apart hf262 (by rfl)).trans (by rfl)
                                replace hS := hS.nilRow 3 1
                                replace hS : St w noX M257 [.row (.slice none 0 0) 3 1, .row (.slice none 0 0) 114 3, .box b8 cs167 119, .row (.slice none 0 0) 3 1, .row (.slice none 0 0) 3 1, .row (.slice none 0 0) 3 1, .row (.slice none 0 0) 114 3, .box b29 cs169 50, .row v175 3 1, .row v173 3 1, .row v119 3 1, .row v55 114 3, .box b3 (Zr.zc GFrame) 50] w256 := hS
                                have hp268 : sl cs262 5 1 = [.slice none 0 0] := (fillZ_apart hf262 (by rfl)).trans (by rfl)
                                replace hS := hS.nilRow 3 1
                                replace hS : St w noX M257 [.row (.slice none 0 0) 3 1, .row (.slice none 0 0) 3 1, .row (.slice none 0 0) 114 3, .box b8 cs167 119, .row (.slice none 0 0) 3 1, .row (.slice none 0 0) 3 1, .row (.slice none 0 0) 3 1, .row (.slice none 0 0) 114 3, .box b29 cs169 50, .row v175 3 1, .row v173 3 1, .row v119 3 1, .row v55 114 3, .box b3 (Zr.zc GFrame) 50] w256 := hS
                                have hp270 : sl cs262 6 1 = [.slice none 0 0] := (fillZ_apart hf262 (by rfl)).trans (by rfl)
                                replace hS := hS.nilRow 3 1
                                replace hS : St w noX M257 [.row (.slice none 0 0) 3 1, .row (.slice none 0 0) 3 1, .row (.slice none 0 0) 3 1, .row (.slice none 0 0) 114 3, .box b8 cs167 119, .row (.slice none 0 0) 3 1, .row (.slice none 0 0) 3 1, .row (.slice none 0 0) 3 1, .row (.slice none 0 0) 114 3, .box b29 cs169 50, .row v175 3 1, .row v173 3 1, .row v119 3 1, .row v55 114 3, .box b3 (Zr.zc GFrame) 50] w256 := hS
                                refine WL_y (Y_build [] tb50 bp0 hf262) ?_
                                have hw273 : (cs262 : List Value).length = 7 := Rep.len ha262
                                have hl273 : ((Zr.zc GFrame)).length = 7 := Rep.len zb3
                                obtain ⟨d274, hd273, hz⟩ := bind_ok hz
                                have hb273 : rep M257 (pt (Zr.zc GFrame) (0) cs262) d274 := rep_eq (rep_whole (k := 7) (by rw [pt_length (by omega)]; exact hl273) (rep_leaf rfl ha262 (by omega))) hd273
                                have hp275 : sl (pt (Zr.zc GFrame) (0) cs262) (0 + 3) 1 = [(.slice none 0 0)] := (sl_pt_sub (by omega) (by omega)).trans hp264
                                have hp276 : sl (pt (Zr.zc GFrame) (0) cs262) (0 + 4) 1 = [(.slice none 0 0)] := (sl_pt_sub (by omega) (by omega)).trans hp266
                                have hp277 : sl (pt (Zr.zc GFrame) (0) cs262) (0 + 5) 1 = [(.slice none 0 0)] := (sl_pt_sub (by omega) (by omega)).trans hp268
                                have hp278 : sl (pt (Zr.zc GFrame) (0) cs262) (0 + 6) 1 = [(.slice none 0 0)] := (sl_pt_sub (by omega) (by omega)).trans hp270
                                generalize hg273 : (pt (Zr.zc GFrame) (0) cs262) = cs273 at hb273 hp275 hp276 hp277 hp278
                                refine WL_c (O_st (j := 14) (v := .agg cs262.toArray) (ws := cs262) hS rfl (by kernel_rfl) hT258_2 rfl rfl hw273 (Rep.one ha262) (by omega) ?_)
                                rw [hg273]
                                clear hg273
                                intro w272 hS
                                replace hS : St w noX M257 [.row (.slice none 0 0) 3 1, .row (.slice none 0 0) 3 1, .row (.slice none 0 0) 3 1, .row (.slice none 0 0) 114 3, .box b8 cs167 119, .row (.slice none 0 0) 3 1, .row (.slice none 0 0) 3 1, .row (.slice none 0 0) 3 1, .row (.slice none 0 0) 114 3, .box b29 cs169 50, .row v175 3 1, .row v173 3 1, .row v119 3 1, .row v55 114 3, .box b3 cs273 50] w272 := hS
                                refine WL_y (Y_assign (.int .i64 1) rfl) ?_
                                refine WL_nil (nm_then ?_)
                                cases hz
                                exact W_ret (rt_then (R_ct (j := 14) rfl hT258_2 rfl (by rw [Rep.len hb273]; exact ta50) hS rfl (Gives.mk (St.dropB (St.drop (St.drop (St.drop (St.drop (St.dropB (St.drop (St.drop (St.drop (St.drop (St.dropB (St.drop (St.drop (St.drop (St.drop hS)))) hb8))))) hb29))))) hb3) hE ⟨_, rfl, hb273⟩)))
                              · replace hz := bif_ok_f hz hc261
                                refine W_skip (nm_then ?_)
                                exact ⟨M257, (Zr.zc GFrame), (Zr.zd : GFrame), hF255, hS, zb3, hT258_2, hT258_5, hz⟩
                          · rintro T239 w237 ⟨M238, cs240, d241, hx242, hS, hb240, hT239_2, hT239_5, hz⟩
                            replace hb167 := Rep.mono hx242.1 hb167
                            replace hb169 := Rep.mono hx242.1 hb169
                            replace hE := Mm.ext.trans hE hx242
                            replace hF63 := Mm.ext.trans hF63 hx242
                            replace hF101 := Mm.ext.trans hF101 hx242
                            replace hF126 := Mm.ext.trans hF126 hx242
                            replace hF154 := Mm.ext.trans hF154 hx242
                            replace hF180 := Mm.ext.trans hF180 hx242
                            replace hF230 := Mm.ext.trans hF230 hx242
                            rw [decode_j7] at hz
                            refine W_seq ?_
                            refine W_reg ?_
                            have ha243 := (rep_root (k := 7) rfl hb169)
                            have hp244 : sl (sl cs169 (0) 7) 3 1 = [v55] := (sl_sub (by decide)).trans hp171
                            have hp245 : sl (sl cs169 (0) 7) 4 1 = [v119] := (sl_sub (by decide)).trans hp172
                            have hp246 : sl (sl cs169 (0) 7) 5 1 = [v173] := (sl_sub (by decide)).trans hp174
                            have hp247 : sl (sl cs169 (0) 7) 6 1 = [v175] := (sl_sub (by decide)).trans hp176
                            refine WL_y (Y_ldn ta50 hT239_5 (hS.bvB 5 rfl) (Rep.len ha243)) ?_
                            have hw249 : ((sl cs169 (0) 7) : List Value).length = 7 := Rep.len ha243
                            have hl249 : (cs240).length = 7 := Rep.len hb240
                            obtain ⟨d250, hd249, hz⟩ := bind_ok hz
                            have hb249 : rep M238 (pt cs240 (0) (sl cs169 (0) 7)) d250 := rep_eq (rep_whole (k := 7) (by rw [pt_length (by omega)]; exact hl249) (rep_leaf rfl ha243 (by omega))) hd249
                            have hp251 : sl (pt cs240 (0) (sl cs169 (0) 7)) (0 + 3) 1 = [v55] := (sl_pt_sub (by omega) (by omega)).trans hp244
                            have hp252 : sl (pt cs240 (0) (sl cs169 (0) 7)) (0 + 4) 1 = [v119] := (sl_pt_sub (by omega) (by omega)).trans hp245
                            have hp253 : sl (pt cs240 (0) (sl cs169 (0) 7)) (0 + 5) 1 = [v173] := (sl_pt_sub (by omega) (by omega)).trans hp246
                            have hp254 : sl (pt cs240 (0) (sl cs169 (0) 7)) (0 + 6) 1 = [v175] := (sl_pt_sub (by omega) (by omega)).trans hp247
                            generalize hg249 : (pt cs240 (0) (sl cs169 (0) 7)) = cs249 at hb249 hp251 hp252 hp253 hp254
                            refine WL_c (O_st (j := 10) (v := .agg (sl cs169 (0) 7).toArray) (ws := (sl cs169 (0) 7)) hS rfl (by kernel_rfl) hT239_2 rfl rfl hw249 (Rep.one ha243) (by omega) ?_)
                            rw [hg249]
                            clear hg249
                            intro w248 hS
                            replace hS : St w noX M238 [.box b8 cs167 119, .row (.slice none 0 0) 3 1, .row (.slice none 0 0) 3 1, .row (.slice none 0 0) 3 1, .row (.slice none 0 0) 114 3, .box b29 cs169 50, .row v175 3 1, .row v173 3 1, .row v119 3 1, .row v55 114 3, .box b3 cs249 50] w248 := hS
                            refine WL_y (Y_assign (.int .i64 0) rfl) ?_
                            refine WL_nil (nm_then ?_)
                            cases hz
                            exact W_ret (R_ct (j := 10) rfl hT239_2 rfl (by rw [Rep.len hb249]; exact ta50) hS rfl (Gives.mk (St.dropB (St.drop (St.drop (St.drop (St.drop (St.dropB (St.drop (St.drop (St.drop (St.drop (St.dropB hS hb8))))) hb29))))) hb3) hE ⟨_, rfl, hb249⟩))
                    · rintro T184 w182 ⟨M183, hx185, hS, hT184_2, hT184_4, hT184_5, hT184_8, hz⟩
                      replace zb3 := Rep.mono hx185.1 zb3
                      replace hb167 := Rep.mono hx185.1 hb167
                      replace hb169 := Rep.mono hx185.1 hb169
                      replace hE := Mm.ext.trans hE hx185
                      replace hF63 := Mm.ext.trans hF63 hx185
                      replace hF101 := Mm.ext.trans hF101 hx185
                      replace hF126 := Mm.ext.trans hF126 hx185
                      replace hF154 := Mm.ext.trans hF154 hx185
                      replace hF180 := Mm.ext.trans hF180 hx185
                      rw [decode_j5] at hz
                      refine W_seq ?_
                      refine W_block ?_
                      refine W_seq ?_
                      refine W_drawB (Rd M183 [.box b29 cs169 50]) (inL [7]) mixed hS fun w186 hS => ?_
                      have hG187 := Mm.ext.refl w.heap.size noX M183
                      have hR188 : Rd M183 [.box b29 cs169 50] w186 := Rd.of hS hG187 (by simp)
                      refine WB_y (i := 0) rfl (by kernel_rfl) rfl (Y_fa fa50_5 hT184_5) (fun _ => hR188) ?_
                      obtain ⟨v189, ev189, hv189⟩ := (GFrame.p5 (rep_root (k := 7) rfl hb169))
                      rw [sl_one_eq ev189 hp174] at hv189
                      refine WB_ld (i := 1) rfl (by kernel_rfl) rfl (inL_lt rfl) (by kernel_rfl) (by kernel_rfl) (Y_ld1 v173 ts23 rfl (bvR 0 rfl) hp174) hR188 ?_
                      refine WB_y (i := 2) rfl (by kernel_rfl) rfl (Y_move (.pointer (some ⟨b8, 0, none⟩)) hT184_4) (fun _ => hR188) ?_
                      obtain ⟨r192, hr191, hz⟩ := bind_ok hz
                      refine WB_one (i := 3) (by kernel_rfl) rfl (O_lend (vs := [.pointer (some ⟨b8, 0, none⟩)]) (L := [.box b8 cs167 119]) (R := [.row (.slice none 0 0) 3 1, .row (.slice none 0 0) 3 1, .row (.slice none 0 0) 3 1, .row (.slice none 0 0) 114 3, .box b29 cs169 50, .row v175 3 1, .row v173 3 1, .row v119 3 1, .row v55 114 3, .box b3 (Zr.zc GFrame) 50]) (rv := (fun M' u L' => ∃ k0, u = .int .i64 r192.1 ∧ L' = [.box b8 k0 119] ∧ rep M' k0 r192.2)) cb66 (args1 rfl) hS (hS.sel [0, 1, 2, 3, 4, 5, 6, 7, 8, 9, 10] (by decide) rfl) (fun hS => rByte_ok hS hb167 hr191) ?_)
                      rintro u191 M191 w190 L191 hx191 ⟨k0_191, rfl, hL191, f191_0⟩ hS
                      replace hS := hS _ hL191
                      replace zb3 := Rep.mono hx191.1 zb3
                      replace hb167 := Rep.mono hx191.1 hb167
                      replace hb169 := Rep.mono hx191.1 hb169
                      replace hv189 := repL.mono hx191.1 hv189
                      replace hE := Mm.ext.trans hE hx191
                      replace hF63 := Mm.ext.trans hF63 hx191
                      replace hF101 := Mm.ext.trans hF101 hx191
                      replace hF126 := Mm.ext.trans hF126 hx191
                      replace hF154 := Mm.ext.trans hF154 hx191
                      replace hF180 := Mm.ext.trans hF180 hx191
                      replace hG187 := Mm.ext.trans hG187 hx191
                      replace hS : St w noX M191 [.box b8 k0_191 119, .row (.slice none 0 0) 3 1, .row (.slice none 0 0) 3 1, .row (.slice none 0 0) 3 1, .row (.slice none 0 0) 114 3, .box b29 cs169 50, .row v175 3 1, .row v173 3 1, .row v119 3 1, .row v55 114 3, .box b3 (Zr.zc GFrame) 50] w190 := hS
                      have hR193 : Rd M183 [.box b29 cs169 50] w190 := Rd.of hS hG187 (by simp)
                      refine ⟨fun _ => hR193, ?_⟩
                      refine WB_one (i := 4) (by kernel_rfl) rfl (O_bslice (α := Int) (l := ([r192.1] : List Int)) [.int .i64 r192.1] tl23 (bpc rfl bp0) rfl rfl (by decide) (by decide) (by decide) hS (brc (show rep M191 [Value.int .i64 r192.1] (r192.1 : Int) from rfl) br0) ?_)
                      intro v195 M195 w194 hx195 hv195 hS
                      replace zb3 := Rep.mono hx195.1 zb3
                      replace hb169 := Rep.mono hx195.1 hb169
                      replace hv189 := repL.mono hx195.1 hv189
                      replace f191_0 := Rep.mono hx195.1 f191_0
                      replace hE := Mm.ext.trans hE hx195
                      replace hF63 := Mm.ext.trans hF63 hx195
                      replace hF101 := Mm.ext.trans hF101 hx195
                      replace hF126 := Mm.ext.trans hF126 hx195
                      replace hF154 := Mm.ext.trans hF154 hx195
                      replace hF180 := Mm.ext.trans hF180 hx195
                      replace hG187 := Mm.ext.trans hG187 hx195
                      have hR196 : Rd M183 [.box b29 cs169 50] w194 := Rd.of hS hG187 (by simp)
                      refine ⟨fun _ => hR196, ?_⟩
                      obtain ⟨l199, hr198, hz⟩ := bind_ok hz
                      obtain ⟨hy198, hr198⟩ := app_some hr198
                      refine WB_one (i := 5) (by kernel_rfl) rfl (O_app (α := Int) (j := 7) tp23 hS rfl rfl rfl hv189 hv195 hy198 ?_)
                      intro v198 M198 w197 hx198 hv198 hS
                      rw [← hr198] at hv198
                      clear hr198
                      replace zb3 := Rep.mono hx198.1 zb3
                      replace hb169 := Rep.mono hx198.1 hb169
                      replace hv189 := repL.mono hx198.1 hv189
                      replace f191_0 := Rep.mono hx198.1 f191_0
                      replace hv195 := repL.mono hx198.1 hv195
                      replace hE := Mm.ext.trans hE hx198
                      replace hF63 := Mm.ext.trans hF63 hx198
                      replace hF101 := Mm.ext.trans hF101 hx198
                      replace hF126 := Mm.ext.trans hF126 hx198
                      replace hF154 := Mm.ext.trans hF154 hx198
                      replace hF180 := Mm.ext.trans hF180 hx198
                      replace hG187 := Mm.ext.trans hG187 hx198
                      replace hS : St w noX M198 [.box b8 k0_191 119, .row (.slice none 0 0) 3 1, .row (.slice none 0 0) 3 1, .row (.slice none 0 0) 3 1, .row (.slice none 0 0) 114 3, .box b29 cs169 50, .row v175 3 1, .row v198 3 1, .row v119 3 1, .row v55 114 3, .box b3 (Zr.zc GFrame) 50] w197 := hS
                      have hR200 : Rd M183 [.box b29 cs169 50] w197 := Rd.of hS hG187 (by simp)
                      refine ⟨fun _ => hR200, ?_⟩
                      refine WB_y (i := 6) rfl (by kernel_rfl) rfl (Y_fa fa50_5 hT184_5) (fun _ => hR200) ?_
                      have hw202 : ([v198] : List Value).length = 1 := Rep.len (repL_rep hv198)
                      have hl202 : (cs169).length = 7 := Rep.len hb169
                      obtain ⟨d203, hd202, hz⟩ := bind_ok hz
                      have hb202 : rep M198 (pt cs169 (0 + 5) [v198]) d203 := rep_eq (rep_whole (k := 7) (by rw [pt_length (by omega)]; exact hl202) (GFrame.s5 (rep_root (k := 7) rfl hb169) (rep_leaf rfl (repL_rep hv198) (by omega)) (by omega) (by omega) (by omega))) hd202
                      have hp204 : sl (pt cs169 (0 + 5) [v198]) (0 + 3) 1 = [v55] := (sl_pt_apart (by omega) (by omega)).trans hp171
                      have hp205 : sl (pt cs169 (0 + 5) [v198]) (0 + 4) 1 = [v119] := (sl_pt_apart (by omega) (by omega)).trans hp172
                      have hp206 : sl (pt cs169 (0 + 5) [v198]) (0 + 6) 1 = [v175] := (sl_pt_apart (by omega) (by omega)).trans hp176
                      have hp207 : sl (pt cs169 (0 + 5) [v198]) (0 + 5) 1 = [v198] := sl_pt_same (by omega) rfl
                      generalize hg202 : (pt cs169 (0 + 5) [v198]) = cs202 at hb202 hp204 hp205 hp206 hp207
                      refine WB_one (i := 7) (by kernel_rfl) rfl (O_st (j := 5) (v := v198) (ws := [v198]) hS rfl (by kernel_rfl) rfl rfl (repL_cells hv198) hw202 (Rep.one (repL_rep hv198)) (by omega) ?_)
                      rw [hg202]
                      clear hg202
                      intro w201 hS
                      replace hS : St w noX M198 [.box b8 k0_191 119, .row (.slice none 0 0) 3 1, .row (.slice none 0 0) 3 1, .row (.slice none 0 0) 3 1, .row (.slice none 0 0) 114 3, .box b29 cs202 50, .row v175 3 1, .row v198 3 1, .row v119 3 1, .row v55 114 3, .box b3 (Zr.zc GFrame) 50] w201 := hS
                      refine ⟨fun h => Bool.noConfusion (show false = true from h), ?_⟩
                      refine WB_done (by kernel_rfl) (nm_then ?_)
                      refine W_drawB (Rd M198 [.box b29 cs202 50]) (inL [7]) mixed hS fun w208 hS => ?_
                      have hG209 := Mm.ext.refl w.heap.size noX M198
                      have hR210 : Rd M198 [.box b29 cs202 50] w208 := Rd.of hS hG209 (by simp)
                      refine WB_y (i := 0) rfl (by kernel_rfl) rfl (Y_fa fa50_6 hT184_5) (fun _ => hR210) ?_
                      obtain ⟨v211, ev211, hv211⟩ := (GFrame.p6 (rep_root (k := 7) rfl hb202))
                      rw [sl_one_eq ev211 hp206] at hv211
                      refine WB_ld (i := 1) rfl (by kernel_rfl) rfl (inL_lt rfl) (by kernel_rfl) (by kernel_rfl) (Y_ld1 v175 ts23 rfl (bvR 0 rfl) hp206) hR210 ?_
                      refine WB_y (i := 2) rfl (by kernel_rfl) rfl (Y_move (.pointer (some ⟨b8, 0, none⟩)) hT184_4) (fun _ => hR210) ?_
                      obtain ⟨r214, hr213, hz⟩ := bind_ok hz
                      refine WB_one (i := 3) (by kernel_rfl) rfl (O_lend (vs := [.pointer (some ⟨b8, 0, none⟩)]) (L := [.box b8 k0_191 119]) (R := [.row (.slice none 0 0) 3 1, .row (.slice none 0 0) 3 1, .row (.slice none 0 0) 3 1, .row (.slice none 0 0) 114 3, .box b29 cs202 50, .row v175 3 1, .row v198 3 1, .row v119 3 1, .row v55 114 3, .box b3 (Zr.zc GFrame) 50]) (rv := (fun M' u L' => ∃ k0, u = .int .i64 r214.1 ∧ L' = [.box b8 k0 119] ∧ rep M' k0 r214.2)) cb67 (args1 rfl) hS (hS.sel [0, 1, 2, 3, 4, 5, 6, 7, 8, 9, 10] (by decide) rfl) (fun hS => rNumber_ok hS f191_0 hr213) ?_)
                      rintro u213 M213 w212 L213 hx213 ⟨k0_213, rfl, hL213, f213_0⟩ hS
                      replace hS := hS _ hL213
                      replace zb3 := Rep.mono hx213.1 zb3
                      replace f191_0 := Rep.mono hx213.1 f191_0
                      replace hb202 := Rep.mono hx213.1 hb202
                      replace hv211 := repL.mono hx213.1 hv211
                      replace hE := Mm.ext.trans hE hx213
                      replace hF63 := Mm.ext.trans hF63 hx213
                      replace hF101 := Mm.ext.trans hF101 hx213
                      replace hF126 := Mm.ext.trans hF126 hx213
                      replace hF154 := Mm.ext.trans hF154 hx213
                      replace hF180 := Mm.ext.trans hF180 hx213
                      replace hG209 := Mm.ext.trans hG209 hx213
                      replace hS : St w noX M213 [.box b8 k0_213 119, .row (.slice none 0 0) 3 1, .row (.slice none 0 0) 3 1, .row (.slice none 0 0) 3 1, .row (.slice none 0 0) 114 3, .box b29 cs202 50, .row v175 3 1, .row v198 3 1, .row v119 3 1, .row v55 114 3, .box b3 (Zr.zc GFrame) 50] w212 := hS
                      have hR215 : Rd M198 [.box b29 cs202 50] w212 := Rd.of hS hG209 (by simp)
                      refine ⟨fun _ => hR215, ?_⟩
                      refine WB_one (i := 4) (by kernel_rfl) rfl (O_bslice (α := Int) (l := ([r214.1] : List Int)) [.int .i64 r214.1] tl23 (bpc rfl bp0) rfl rfl (by decide) (by decide) (by decide) hS (brc (show rep M213 [Value.int .i64 r214.1] (r214.1 : Int) from rfl) br0) ?_)
                      intro v217 M217 w216 hx217 hv217 hS
                      replace zb3 := Rep.mono hx217.1 zb3
                      replace hb202 := Rep.mono hx217.1 hb202
                      replace hv211 := repL.mono hx217.1 hv211
                      replace f213_0 := Rep.mono hx217.1 f213_0
                      replace hE := Mm.ext.trans hE hx217
                      replace hF63 := Mm.ext.trans hF63 hx217
                      replace hF101 := Mm.ext.trans hF101 hx217
                      replace hF126 := Mm.ext.trans hF126 hx217
                      replace hF154 := Mm.ext.trans hF154 hx217
                      replace hF180 := Mm.ext.trans hF180 hx217
                      replace hG209 := Mm.ext.trans hG209 hx217
                      have hR218 : Rd M198 [.box b29 cs202 50] w216 := Rd.of hS hG209 (by simp)
                      refine ⟨fun _ => hR218, ?_⟩
                      obtain ⟨l221, hr220, hz⟩ := bind_ok hz
                      obtain ⟨hy220, hr220⟩ := app_some hr220
                      refine WB_one (i := 5) (by kernel_rfl) rfl (O_app (α := Int) (j := 6) tp23 hS rfl rfl rfl hv211 hv217 hy220 ?_)
                      intro v220 M220 w219 hx220 hv220 hS
                      rw [← hr220] at hv220
                      clear hr220
                      replace zb3 := Rep.mono hx220.1 zb3
                      replace hb202 := Rep.mono hx220.1 hb202
                      replace hv211 := repL.mono hx220.1 hv211
                      replace f213_0 := Rep.mono hx220.1 f213_0
                      replace hv217 := repL.mono hx220.1 hv217
                      replace hE := Mm.ext.trans hE hx220
                      replace hF63 := Mm.ext.trans hF63 hx220
                      replace hF101 := Mm.ext.trans hF101 hx220
                      replace hF126 := Mm.ext.trans hF126 hx220
                      replace hF154 := Mm.ext.trans hF154 hx220
                      replace hF180 := Mm.ext.trans hF180 hx220
                      replace hG209 := Mm.ext.trans hG209 hx220
                      replace hS : St w noX M220 [.box b8 k0_213 119, .row (.slice none 0 0) 3 1, .row (.slice none 0 0) 3 1, .row (.slice none 0 0) 3 1, .row (.slice none 0 0) 114 3, .box b29 cs202 50, .row v220 3 1, .row v198 3 1, .row v119 3 1, .row v55 114 3, .box b3 (Zr.zc GFrame) 50] w219 := hS
                      have hR222 : Rd M198 [.box b29 cs202 50] w219 := Rd.of hS hG209 (by simp)
                      refine ⟨fun _ => hR222, ?_⟩
                      refine WB_y (i := 6) rfl (by kernel_rfl) rfl (Y_fa fa50_6 hT184_5) (fun _ => hR222) ?_
                      have hw224 : ([v220] : List Value).length = 1 := Rep.len (repL_rep hv220)
                      have hl224 : (cs202).length = 7 := Rep.len hb202
                      obtain ⟨d225, hd224, hz⟩ := bind_ok hz
                      have hb224 : rep M220 (pt cs202 (0 + 6) [v220]) d225 := rep_eq (rep_whole (k := 7) (by rw [pt_length (by omega)]; exact hl224) (GFrame.s6 (rep_root (k := 7) rfl hb202) (rep_leaf rfl (repL_rep hv220) (by omega)) (by omega) (by omega) (by omega))) hd224
                      have hp226 : sl (pt cs202 (0 + 6) [v220]) (0 + 3) 1 = [v55] := (sl_pt_apart (by omega) (by omega)).trans hp204
                      have hp227 : sl (pt cs202 (0 + 6) [v220]) (0 + 4) 1 = [v119] := (sl_pt_apart (by omega) (by omega)).trans hp205
                      have hp228 : sl (pt cs202 (0 + 6) [v220]) (0 + 5) 1 = [v198] := (sl_pt_apart (by omega) (by omega)).trans hp207
                      have hp229 : sl (pt cs202 (0 + 6) [v220]) (0 + 6) 1 = [v220] := sl_pt_same (by omega) rfl
                      generalize hg224 : (pt cs202 (0 + 6) [v220]) = cs224 at hb224 hp226 hp227 hp228 hp229
                      refine WB_one (i := 7) (by kernel_rfl) rfl (O_st (j := 5) (v := v220) (ws := [v220]) hS rfl (by kernel_rfl) rfl rfl (repL_cells hv220) hw224 (Rep.one (repL_rep hv220)) (by omega) ?_)
                      rw [hg224]
                      clear hg224
                      intro w223 hS
                      replace hS : St w noX M220 [.box b8 k0_213 119, .row (.slice none 0 0) 3 1, .row (.slice none 0 0) 3 1, .row (.slice none 0 0) 3 1, .row (.slice none 0 0) 114 3, .box b29 cs224 50, .row v220 3 1, .row v198 3 1, .row v119 3 1, .row v55 114 3, .box b3 (Zr.zc GFrame) 50] w223 := hS
                      refine ⟨fun h => Bool.noConfusion (show false = true from h), ?_⟩
                      refine WB_done (by kernel_rfl) (nm_blk ?_)
                      refine (nm_then ?_)
                      refine W_reg ?_
                      refine WL_y (Y_move (.int .i64 y177) hT184_8) ?_
                      refine WL_y (Y_sub rfl rfl) ?_
                      refine WL_y (Y_assign (.int .i64 (IntKind.wrap .i64 (y177 - 1))) rfl) ?_
                      refine WL_nil (nm_then ?_)
                      exact ⟨M220, k0_213, r214.2, cs224, d225, v198, v220, (IntKind.wrap .i64 (y177 - 1)), hF180, hS, f213_0, hb224, hp226, hp227, hp228, hp229, hT184_2, hT184_4, hT184_5, rfl, (by rw [← hrec178]; exact hz)⟩
            · rintro T130 w128 ⟨M129, hx131, hS, hT130_2, hT130_4, hT130_5, hT130_7, hz⟩
              replace zb3 := Rep.mono hx131.1 zb3
              replace hb114 := Rep.mono hx131.1 hb114
              replace hb116 := Rep.mono hx131.1 hb116
              replace hE := Mm.ext.trans hE hx131
              replace hF63 := Mm.ext.trans hF63 hx131
              replace hF101 := Mm.ext.trans hF101 hx131
              replace hF126 := Mm.ext.trans hF126 hx131
              rw [decode_j3] at hz
              refine W_seq ?_
              refine W_block ?_
              refine W_drawB (Rd M129 [.box b29 cs116 50]) (inL [7]) mixed hS fun w132 hS => ?_
              have hG133 := Mm.ext.refl w.heap.size noX M129
              have hR134 : Rd M129 [.box b29 cs116 50] w132 := Rd.of hS hG133 (by simp)
              refine WB_y (i := 0) rfl (by kernel_rfl) rfl (Y_fa fa50_4 hT130_5) (fun _ => hR134) ?_
              obtain ⟨v135, ev135, hv135⟩ := (GFrame.p4 (rep_root (k := 7) rfl hb116))
              rw [sl_one_eq ev135 hp120] at hv135
              refine WB_ld (i := 1) rfl (by kernel_rfl) rfl (inL_lt rfl) (by kernel_rfl) (by kernel_rfl) (Y_ld1 v119 ts23 rfl (bvR 0 rfl) hp120) hR134 ?_
              refine WB_y (i := 2) rfl (by kernel_rfl) rfl (Y_move (.pointer (some ⟨b8, 0, none⟩)) hT130_4) (fun _ => hR134) ?_
              obtain ⟨r138, hr137, hz⟩ := bind_ok hz
              refine WB_one (i := 3) (by kernel_rfl) rfl (O_lend (vs := [.pointer (some ⟨b8, 0, none⟩)]) (L := [.box b8 cs114 119]) (R := [.row (.slice none 0 0) 3 1, .row (.slice none 0 0) 3 1, .row (.slice none 0 0) 3 1, .row (.slice none 0 0) 114 3, .box b29 cs116 50, .row (.slice none 0 0) 3 1, .row (.slice none 0 0) 3 1, .row v119 3 1, .row v55 114 3, .box b3 (Zr.zc GFrame) 50]) (rv := (fun M' u L' => ∃ k0, u = .int .i64 r138.1 ∧ L' = [.box b8 k0 119] ∧ rep M' k0 r138.2)) cb66 (args1 rfl) hS (hS.sel [0, 1, 2, 3, 4, 5, 6, 7, 8, 9, 10] (by decide) rfl) (fun hS => rByte_ok hS hb114 hr137) ?_)
              rintro u137 M137 w136 L137 hx137 ⟨k0_137, rfl, hL137, f137_0⟩ hS
              replace hS := hS _ hL137
              replace zb3 := Rep.mono hx137.1 zb3
              replace hb114 := Rep.mono hx137.1 hb114
              replace hb116 := Rep.mono hx137.1 hb116
              replace hv135 := repL.mono hx137.1 hv135
              replace hE := Mm.ext.trans hE hx137
              replace hF63 := Mm.ext.trans hF63 hx137
              replace hF101 := Mm.ext.trans hF101 hx137
              replace hF126 := Mm.ext.trans hF126 hx137
              replace hG133 := Mm.ext.trans hG133 hx137
              replace hS : St w noX M137 [.box b8 k0_137 119, .row (.slice none 0 0) 3 1, .row (.slice none 0 0) 3 1, .row (.slice none 0 0) 3 1, .row (.slice none 0 0) 114 3, .box b29 cs116 50, .row (.slice none 0 0) 3 1, .row (.slice none 0 0) 3 1, .row v119 3 1, .row v55 114 3, .box b3 (Zr.zc GFrame) 50] w136 := hS
              have hR139 : Rd M129 [.box b29 cs116 50] w136 := Rd.of hS hG133 (by simp)
              refine ⟨fun _ => hR139, ?_⟩
              refine WB_one (i := 4) (by kernel_rfl) rfl (O_bslice (α := Int) (l := ([r138.1] : List Int)) [.int .i64 r138.1] tl23 (bpc rfl bp0) rfl rfl (by decide) (by decide) (by decide) hS (brc (show rep M137 [Value.int .i64 r138.1] (r138.1 : Int) from rfl) br0) ?_)
              intro v141 M141 w140 hx141 hv141 hS
              replace zb3 := Rep.mono hx141.1 zb3
              replace hb116 := Rep.mono hx141.1 hb116
              replace hv135 := repL.mono hx141.1 hv135
              replace f137_0 := Rep.mono hx141.1 f137_0
              replace hE := Mm.ext.trans hE hx141
              replace hF63 := Mm.ext.trans hF63 hx141
              replace hF101 := Mm.ext.trans hF101 hx141
              replace hF126 := Mm.ext.trans hF126 hx141
              replace hG133 := Mm.ext.trans hG133 hx141
              have hR142 : Rd M129 [.box b29 cs116 50] w140 := Rd.of hS hG133 (by simp)
              refine ⟨fun _ => hR142, ?_⟩
              obtain ⟨l145, hr144, hz⟩ := bind_ok hz
              obtain ⟨hy144, hr144⟩ := app_some hr144
              refine WB_one (i := 5) (by kernel_rfl) rfl (O_app (α := Int) (j := 8) tp23 hS rfl rfl rfl hv135 hv141 hy144 ?_)
              intro v144 M144 w143 hx144 hv144 hS
              rw [← hr144] at hv144
              clear hr144
              replace zb3 := Rep.mono hx144.1 zb3
              replace hb116 := Rep.mono hx144.1 hb116
              replace hv135 := repL.mono hx144.1 hv135
              replace f137_0 := Rep.mono hx144.1 f137_0
              replace hv141 := repL.mono hx144.1 hv141
              replace hE := Mm.ext.trans hE hx144
              replace hF63 := Mm.ext.trans hF63 hx144
              replace hF101 := Mm.ext.trans hF101 hx144
              replace hF126 := Mm.ext.trans hF126 hx144
              replace hG133 := Mm.ext.trans hG133 hx144
              replace hS : St w noX M144 [.box b8 k0_137 119, .row (.slice none 0 0) 3 1, .row (.slice none 0 0) 3 1, .row (.slice none 0 0) 3 1, .row (.slice none 0 0) 114 3, .box b29 cs116 50, .row (.slice none 0 0) 3 1, .row (.slice none 0 0) 3 1, .row v144 3 1, .row v55 114 3, .box b3 (Zr.zc GFrame) 50] w143 := hS
              have hR146 : Rd M129 [.box b29 cs116 50] w143 := Rd.of hS hG133 (by simp)
              refine ⟨fun _ => hR146, ?_⟩
              refine WB_y (i := 6) rfl (by kernel_rfl) rfl (Y_fa fa50_4 hT130_5) (fun _ => hR146) ?_
              have hw148 : ([v144] : List Value).length = 1 := Rep.len (repL_rep hv144)
              have hl148 : (cs116).length = 7 := Rep.len hb116
              obtain ⟨d149, hd148, hz⟩ := bind_ok hz
              have hb148 : rep M144 (pt cs116 (0 + 4) [v144]) d149 := rep_eq (rep_whole (k := 7) (by rw [pt_length (by omega)]; exact hl148) (GFrame.s4 (rep_root (k := 7) rfl hb116) (rep_leaf rfl (repL_rep hv144) (by omega)) (by omega) (by omega) (by omega))) hd148
              have hp150 : sl (pt cs116 (0 + 4) [v144]) (0 + 3) 1 = [v55] := (sl_pt_apart (by omega) (by omega)).trans hp118
              have hp151 : sl (pt cs116 (0 + 4) [v144]) (0 + 5) 1 = [(.slice none 0 0)] := (sl_pt_apart (by omega) (by omega)).trans hp121
              have hp152 : sl (pt cs116 (0 + 4) [v144]) (0 + 6) 1 = [(.slice none 0 0)] := (sl_pt_apart (by omega) (by omega)).trans hp122
              have hp153 : sl (pt cs116 (0 + 4) [v144]) (0 + 4) 1 = [v144] := sl_pt_same (by omega) rfl
              generalize hg148 : (pt cs116 (0 + 4) [v144]) = cs148 at hb148 hp150 hp151 hp152 hp153
              refine WB_one (i := 7) (by kernel_rfl) rfl (O_st (j := 5) (v := v144) (ws := [v144]) hS rfl (by kernel_rfl) rfl rfl (repL_cells hv144) hw148 (Rep.one (repL_rep hv144)) (by omega) ?_)
              rw [hg148]
              clear hg148
              intro w147 hS
              replace hS : St w noX M144 [.box b8 k0_137 119, .row (.slice none 0 0) 3 1, .row (.slice none 0 0) 3 1, .row (.slice none 0 0) 3 1, .row (.slice none 0 0) 114 3, .box b29 cs148 50, .row (.slice none 0 0) 3 1, .row (.slice none 0 0) 3 1, .row v144 3 1, .row v55 114 3, .box b3 (Zr.zc GFrame) 50] w147 := hS
              refine ⟨fun h => Bool.noConfusion (show false = true from h), ?_⟩
              refine WB_done (by kernel_rfl) (nm_blk ?_)
              refine (nm_then ?_)
              refine W_reg ?_
              refine WL_y (Y_move (.int .i64 y123) hT130_7) ?_
              refine WL_y (Y_sub rfl rfl) ?_
              refine WL_y (Y_assign (.int .i64 (IntKind.wrap .i64 (y123 - 1))) rfl) ?_
              refine WL_nil (nm_then ?_)
              exact ⟨M144, k0_137, r138.2, cs148, d149, v144, (IntKind.wrap .i64 (y123 - 1)), hF126, hS, f137_0, hb148, hp150, hp153, hp151, hp152, hT130_2, hT130_4, hT130_5, rfl, (by rw [← hrec124]; exact hz)⟩
    · rintro T67 w65 ⟨M66, hx68, hS, hT67_2, hT67_4, hT67_5, hT67_6, hz⟩
      replace zb3 := Rep.mono hx68.1 zb3
      replace hb51 := Rep.mono hx68.1 hb51
      replace hb53 := Rep.mono hx68.1 hb53
      replace hE := Mm.ext.trans hE hx68
      replace hF63 := Mm.ext.trans hF63 hx68
      rw [decode_j1] at hz
      refine W_seq ?_
      refine W_block ?_
      refine W_drawB (Rd M66 [.box b29 cs53 50]) (inL [12]) mixed hS fun w69 hS => ?_
      have hG70 := Mm.ext.refl w.heap.size noX M66
      have hR71 : Rd M66 [.box b29 cs53 50] w69 := Rd.of hS hG70 (by simp)
      refine WB_y (i := 0) rfl (by kernel_rfl) rfl (Y_fa fa50_3 hT67_5) (fun _ => hR71) ?_
      obtain ⟨v72, ev72, hv72⟩ := (GFrame.p3 (rep_root (k := 7) rfl hb53))
      rw [sl_one_eq ev72 hp56] at hv72
      refine WB_ld (i := 1) rfl (by kernel_rfl) rfl (inL_lt rfl) (by kernel_rfl) (by kernel_rfl) (Y_ld1 v55 ts40 rfl (bvR 0 rfl) hp56) hR71 ?_
      refine WB_y (i := 2) rfl (by kernel_rfl) rfl (Y_move (.pointer (some ⟨b8, 0, none⟩)) hT67_4) (fun _ => hR71) ?_
      refine WB_y (i := 4) rfl (by kernel_rfl) rfl (Y_move (.pointer (some ⟨b8, 0, none⟩)) hT67_4) (fun _ => hR71) ?_
      refine WB_y (i := 6) rfl (by kernel_rfl) rfl (Y_move (.pointer (some ⟨b8, 0, none⟩)) hT67_4) (fun _ => hR71) ?_
      obtain ⟨r75, hr74, hz⟩ := bind_ok hz
      refine WB_one (i := 3) (by kernel_rfl) rfl (O_lend (vs := [.pointer (some ⟨b8, 0, none⟩)]) (L := [.box b8 cs51 119]) (R := [.row (.slice none 0 0) 3 1, .row (.slice none 0 0) 3 1, .row (.slice none 0 0) 3 1, .row (.slice none 0 0) 114 3, .box b29 cs53 50, .row (.slice none 0 0) 3 1, .row (.slice none 0 0) 3 1, .row (.slice none 0 0) 3 1, .row v55 114 3, .box b3 (Zr.zc GFrame) 50]) (rv := (fun M' u L' => ∃ k0, u = .int .i64 r75.1 ∧ L' = [.box b8 k0 119] ∧ rep M' k0 r75.2)) cb66 (args1 rfl) hS (hS.sel [0, 1, 2, 3, 4, 5, 6, 7, 8, 9, 10] (by decide) rfl) (fun hS => rByte_ok hS hb51 hr74) ?_)
      rintro u74 M74 w73 L74 hx74 ⟨k0_74, rfl, hL74, f74_0⟩ hS
      replace hS := hS _ hL74
      replace zb3 := Rep.mono hx74.1 zb3
      replace hb51 := Rep.mono hx74.1 hb51
      replace hb53 := Rep.mono hx74.1 hb53
      replace hv72 := repL.mono hx74.1 hv72
      replace hE := Mm.ext.trans hE hx74
      replace hF63 := Mm.ext.trans hF63 hx74
      replace hG70 := Mm.ext.trans hG70 hx74
      replace hS : St w noX M74 [.box b8 k0_74 119, .row (.slice none 0 0) 3 1, .row (.slice none 0 0) 3 1, .row (.slice none 0 0) 3 1, .row (.slice none 0 0) 114 3, .box b29 cs53 50, .row (.slice none 0 0) 3 1, .row (.slice none 0 0) 3 1, .row (.slice none 0 0) 3 1, .row v55 114 3, .box b3 (Zr.zc GFrame) 50] w73 := hS
      have hR76 : Rd M66 [.box b29 cs53 50] w73 := Rd.of hS hG70 (by simp)
      refine ⟨fun _ => hR76, ?_⟩
      obtain ⟨r79, hr78, hz⟩ := bind_ok hz
      refine WB_one (i := 5) (by kernel_rfl) rfl (O_lend (vs := [.pointer (some ⟨b8, 0, none⟩)]) (L := [.box b8 k0_74 119]) (R := [.row (.slice none 0 0) 3 1, .row (.slice none 0 0) 3 1, .row (.slice none 0 0) 3 1, .row (.slice none 0 0) 114 3, .box b29 cs53 50, .row (.slice none 0 0) 3 1, .row (.slice none 0 0) 3 1, .row (.slice none 0 0) 3 1, .row v55 114 3, .box b3 (Zr.zc GFrame) 50]) (rv := (fun M' u L' => ∃ k0, u = .int .i64 r79.1 ∧ L' = [.box b8 k0 119] ∧ rep M' k0 r79.2)) cb66 (args1 rfl) hS (hS.sel [0, 1, 2, 3, 4, 5, 6, 7, 8, 9, 10] (by decide) rfl) (fun hS => rByte_ok hS f74_0 hr78) ?_)
      rintro u78 M78 w77 L78 hx78 ⟨k0_78, rfl, hL78, f78_0⟩ hS
      replace hS := hS _ hL78
      replace zb3 := Rep.mono hx78.1 zb3
      replace hb53 := Rep.mono hx78.1 hb53
      replace hv72 := repL.mono hx78.1 hv72
      replace f74_0 := Rep.mono hx78.1 f74_0
      replace hE := Mm.ext.trans hE hx78
      replace hF63 := Mm.ext.trans hF63 hx78
      replace hG70 := Mm.ext.trans hG70 hx78
      replace hS : St w noX M78 [.box b8 k0_78 119, .row (.slice none 0 0) 3 1, .row (.slice none 0 0) 3 1, .row (.slice none 0 0) 3 1, .row (.slice none 0 0) 114 3, .box b29 cs53 50, .row (.slice none 0 0) 3 1, .row (.slice none 0 0) 3 1, .row (.slice none 0 0) 3 1, .row v55 114 3, .box b3 (Zr.zc GFrame) 50] w77 := hS
      have hR80 : Rd M66 [.box b29 cs53 50] w77 := Rd.of hS hG70 (by simp)
      refine ⟨fun _ => hR80, ?_⟩
      obtain ⟨r83, hr82, hz⟩ := bind_ok hz
      refine WB_one (i := 7) (by kernel_rfl) rfl (O_lend (vs := [.pointer (some ⟨b8, 0, none⟩)]) (L := [.box b8 k0_78 119]) (R := [.row (.slice none 0 0) 3 1, .row (.slice none 0 0) 3 1, .row (.slice none 0 0) 3 1, .row (.slice none 0 0) 114 3, .box b29 cs53 50, .row (.slice none 0 0) 3 1, .row (.slice none 0 0) 3 1, .row (.slice none 0 0) 3 1, .row v55 114 3, .box b3 (Zr.zc GFrame) 50]) (rv := (fun M' u L' => ∃ k0, u = .int .i64 r83.1 ∧ L' = [.box b8 k0 119] ∧ rep M' k0 r83.2)) cb67 (args1 rfl) hS (hS.sel [0, 1, 2, 3, 4, 5, 6, 7, 8, 9, 10] (by decide) rfl) (fun hS => rNumber_ok hS f78_0 hr82) ?_)
      rintro u82 M82 w81 L82 hx82 ⟨k0_82, rfl, hL82, f82_0⟩ hS
      replace hS := hS _ hL82
      replace zb3 := Rep.mono hx82.1 zb3
      replace hb53 := Rep.mono hx82.1 hb53
      replace hv72 := repL.mono hx82.1 hv72
      replace f78_0 := Rep.mono hx82.1 f78_0
      replace hE := Mm.ext.trans hE hx82
      replace hF63 := Mm.ext.trans hF63 hx82
      replace hG70 := Mm.ext.trans hG70 hx82
      replace hS : St w noX M82 [.box b8 k0_82 119, .row (.slice none 0 0) 3 1, .row (.slice none 0 0) 3 1, .row (.slice none 0 0) 3 1, .row (.slice none 0 0) 114 3, .box b29 cs53 50, .row (.slice none 0 0) 3 1, .row (.slice none 0 0) 3 1, .row (.slice none 0 0) 3 1, .row v55 114 3, .box b3 (Zr.zc GFrame) 50] w81 := hS
      have hR84 : Rd M66 [.box b29 cs53 50] w81 := Rd.of hS hG70 (by simp)
      refine ⟨fun _ => hR84, ?_⟩
      have k85_0 := GOp.w0 (Zr.zr : rep M82 (Zr.zc GOp) (Zr.zd : GOp)) (show rep M82 [Value.int .i64 r75.1] (r75.1 : Int) from rfl)
      have k85_1 := GOp.w1 k85_0 (show rep M82 [Value.int .i64 r79.1] (r79.1 : Int) from rfl)
      have k85_2 := GOp.w2 k85_1 (show rep M82 [Value.int .i64 r83.1] (r83.1 : Int) from rfl)
      obtain ⟨d86, hd85, hz⟩ := bind_ok hz
      obtain ⟨cs85, hf85, ha85⟩ : ∃ cs, fillZ (([(0, 1), (1, 1), (2, 1)] : List (Nat × Nat))[·]?) (Zr.zc GOp) [(0, .int .i64 r75.1), (1, .int .i64 r79.1), (2, .int .i64 r83.1)] = some cs ∧ rep M82 cs d86 := ⟨_, (fz_cons (Zr.zr : rep M82 (Zr.zc GOp) (Zr.zd : GOp)) rfl rfl (Rep.len (show rep M82 [Value.int .i64 r75.1] (r75.1 : Int) from rfl)) (by decide) (fz_cons k85_0 rfl rfl (Rep.len (show rep M82 [Value.int .i64 r79.1] (r79.1 : Int) from rfl)) (by decide) (fz_cons k85_1 rfl rfl (Rep.len (show rep M82 [Value.int .i64 r83.1] (r83.1 : Int) from rfl)) (by decide) fz_nil))), rep_eq (x := ({ kind := r75.1, key := r79.1, n := r83.1 } : GOp)) k85_2 hd85⟩
      refine WB_y (i := 8) rfl (by kernel_rfl) rfl (Y_build [(0, .int .i64 r75.1), (1, .int .i64 r79.1), (2, .int .i64 r83.1)] tb114 (bpc rfl (bpc rfl (bpc rfl bp0))) hf85) (fun _ => hR84) ?_
      refine WB_one (i := 9) (by kernel_rfl) rfl (O_bslice (α := GOp) (l := ([d86] : List GOp)) [.agg cs85.toArray] tl40 (bpc rfl bp0) rfl rfl (by decide) (by decide) (by decide) hS (brc ha85 br0) ?_)
      intro v88 M88 w87 hx88 hv88 hS
      replace zb3 := Rep.mono hx88.1 zb3
      replace hb53 := Rep.mono hx88.1 hb53
      replace hv72 := repL.mono hx88.1 hv72
      replace f82_0 := Rep.mono hx88.1 f82_0
      replace ha85 := Rep.mono hx88.1 ha85
      replace hE := Mm.ext.trans hE hx88
      replace hF63 := Mm.ext.trans hF63 hx88
      replace hG70 := Mm.ext.trans hG70 hx88
      have hR89 : Rd M66 [.box b29 cs53 50] w87 := Rd.of hS hG70 (by simp)
      refine ⟨fun _ => hR89, ?_⟩
      obtain ⟨l92, hr91, hz⟩ := bind_ok hz
      obtain ⟨hy91, hr91⟩ := app_some hr91
      refine WB_one (i := 10) (by kernel_rfl) rfl (O_app (α := GOp) (j := 9) tp40 hS rfl rfl rfl hv72 hv88 hy91 ?_)
      intro v91 M91 w90 hx91 hv91 hS
      rw [← hr91] at hv91
      clear hr91
      replace zb3 := Rep.mono hx91.1 zb3
      replace hb53 := Rep.mono hx91.1 hb53
      replace hv72 := repL.mono hx91.1 hv72
      replace f82_0 := Rep.mono hx91.1 f82_0
      replace ha85 := Rep.mono hx91.1 ha85
      replace hv88 := repL.mono hx91.1 hv88
      replace hE := Mm.ext.trans hE hx91
      replace hF63 := Mm.ext.trans hF63 hx91
      replace hG70 := Mm.ext.trans hG70 hx91
      replace hS : St w noX M91 [.box b8 k0_82 119, .row (.slice none 0 0) 3 1, .row (.slice none 0 0) 3 1, .row (.slice none 0 0) 3 1, .row (.slice none 0 0) 114 3, .box b29 cs53 50, .row (.slice none 0 0) 3 1, .row (.slice none 0 0) 3 1, .row (.slice none 0 0) 3 1, .row v91 114 3, .box b3 (Zr.zc GFrame) 50] w90 := hS
      have hR93 : Rd M66 [.box b29 cs53 50] w90 := Rd.of hS hG70 (by simp)
      refine ⟨fun _ => hR93, ?_⟩
      refine WB_y (i := 11) rfl (by kernel_rfl) rfl (Y_fa fa50_3 hT67_5) (fun _ => hR93) ?_
      have hw95 : ([v91] : List Value).length = 1 := Rep.len (repL_rep hv91)
      have hl95 : (cs53).length = 7 := Rep.len hb53
      obtain ⟨d96, hd95, hz⟩ := bind_ok hz
      have hb95 : rep M91 (pt cs53 (0 + 3) [v91]) d96 := rep_eq (rep_whole (k := 7) (by rw [pt_length (by omega)]; exact hl95) (GFrame.s3 (rep_root (k := 7) rfl hb53) (rep_leaf rfl (repL_rep hv91) (by omega)) (by omega) (by omega) (by omega))) hd95
      have hp97 : sl (pt cs53 (0 + 3) [v91]) (0 + 4) 1 = [(.slice none 0 0)] := (sl_pt_apart (by omega) (by omega)).trans hp57
      have hp98 : sl (pt cs53 (0 + 3) [v91]) (0 + 5) 1 = [(.slice none 0 0)] := (sl_pt_apart (by omega) (by omega)).trans hp58
      have hp99 : sl (pt cs53 (0 + 3) [v91]) (0 + 6) 1 = [(.slice none 0 0)] := (sl_pt_apart (by omega) (by omega)).trans hp59
      have hp100 : sl (pt cs53 (0 + 3) [v91]) (0 + 3) 1 = [v91] := sl_pt_same (by omega) rfl
      generalize hg95 : (pt cs53 (0 + 3) [v91]) = cs95 at hb95 hp97 hp98 hp99 hp100
      refine WB_one (i := 12) (by kernel_rfl) rfl (O_st (j := 5) (v := v91) (ws := [v91]) hS rfl (by kernel_rfl) rfl rfl (repL_cells hv91) hw95 (Rep.one (repL_rep hv91)) (by omega) ?_)
      rw [hg95]
      clear hg95
      intro w94 hS
      replace hS : St w noX M91 [.box b8 k0_82 119, .row (.slice none 0 0) 3 1, .row (.slice none 0 0) 3 1, .row (.slice none 0 0) 3 1, .row (.slice none 0 0) 114 3, .box b29 cs95 50, .row (.slice none 0 0) 3 1, .row (.slice none 0 0) 3 1, .row (.slice none 0 0) 3 1, .row v91 114 3, .box b3 (Zr.zc GFrame) 50] w94 := hS
      refine ⟨fun h => Bool.noConfusion (show false = true from h), ?_⟩
      refine WB_done (by kernel_rfl) (nm_blk ?_)
      refine (nm_then ?_)
      refine W_reg ?_
      refine WL_y (Y_move (.int .i64 y60) hT67_6) ?_
      refine WL_y (Y_sub rfl rfl) ?_
      refine WL_y (Y_assign (.int .i64 (IntKind.wrap .i64 (y60 - 1))) rfl) ?_
      refine WL_nil (nm_then ?_)
      exact ⟨M91, k0_82, r83.2, cs95, d96, v91, (IntKind.wrap .i64 (y60 - 1)), hF63, hS, f82_0, hb95, hp100, hp97, hp98, hp99, hT67_2, hT67_4, hT67_5, rfl, (by rw [← hrec61]; exact hz)⟩

end Go.Proofs.Ytnfdgjdnlikepab
