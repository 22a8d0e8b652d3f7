/- What functions compute, and that they do. (Written by dc.py.) -/
import Derived.Test.YtopgdemmdcipcaaPy
namespace Go.Proofs.Ytopgdemmdcipcaa
open Go.RowKit
open Rep (rep)
set_option linter.unusedVariables false

def number_l1 (x3 : Int) : Nat → (List Byt) → Int → Option (List Byt)
  | 0, _, _ => none
  | n + 1, l7, y9 =>
    (bif decide (y9 ≥ 0) then
    (nonneg (IntKind.wrap .u64 (8 * (IntKind.wrap .u64 y9)))).bind fun _ =>
    (app l7 ([⟨IntKind.wrap .u8 (Int.fdiv (IntKind.wrap .i64 (x3 + 140737488355328)) (2 ^ (min (Int.toNat (IntKind.wrap .u64 (8 * (IntKind.wrap .u64 y9)))) (IntKind.bits .i64))))⟩] : List Byt)).bind fun l20 =>
    (number_l1 x3 n) l20 (IntKind.wrap .i64 (y9 - 1))
    else
    some l7)

def numberD (fu : Nat) (x1 : List Byt) (x3 : Int) : Option (List Byt) :=
    number_l1 x3 fu x1 5

set_option maxRecDepth 100000 in
set_option maxHeartbeats 4000000 in
theorem number_ok {M : Mm} {w : World} {vx1 : Value} {x1 : List Byt} {x3 : Int} {fu : Nat} {r : (List Byt)} (hS : St w (lentX [.row vx1 5 1]) M [.row vx1 5 1] w) (hvx1 : repL M vx1 x1) (hz : numberD fu x1 x3 = some r) :
    Calls Try.prog 70 #[vx1, .int .i64 x3] w (GivesL M w [.row vx1 5 1] (fun M' u L' => ∃ v0, u = v0 ∧ L' = [.row v0 5 1] ∧ repL M' v0 r)) := by
  refine calls_W Try.func70 rfl 22 rfl rfl (by kernel_rfl) fun T hT => ?_
  have hT_0 : T 0 = vx1 := hT 0
  have hT_1 : T 1 = .int .i64 x3 := hT 1
  clear hT
  have hE := Mm.ext.refl w.heap.size (lentX [.row vx1 5 1]) M
  rw [numberD] at hz
  refine W_seq ?_
  refine W_reg ?_
  refine WL_y (Y_assign ((.slice none 0 0)) rfl) ?_
  refine WL_nil (nm_then ?_)
  refine W_seq ?_
  refine W_reg ?_
  refine WL_y (Y_move (.int .i64 x3) hT_1) ?_
  refine WL_y (Y_add rfl rfl) ?_
  refine WL_y (Y_assign (.int .i64 (IntKind.wrap .i64 (x3 + 140737488355328))) rfl) ?_
  refine WL_nil (nm_then ?_)
  refine W_seq ?_
  refine W_seq ?_
  refine W_reg ?_
  refine WL_y (Y_assign (.int .i64 5) rfl) ?_
  refine WL_nil (nm_then ?_)
  refine W_block ?_
  refine W_loop (fun k11 T' w' => ∃ M5 v8 l7 y9, Mm.ext w.heap.size (lentX [.row vx1 5 1]) M M5 ∧ St w (lentX [.row vx1 5 1]) M5 [.row v8 5 1] w' ∧ repL M5 v8 l7 ∧ T' 0 = v8 ∧ T' 1 = .int .i64 (IntKind.wrap .i64 (x3 + 140737488355328)) ∧ T' 5 = .int .i64 y9 ∧ number_l1 x3 k11 l7 y9 = some r) fu ?_ ?_ ?_
  · exact ⟨M, vx1, x1, (5 : Int), (Mm.ext.refl _ _ _), hS, hvx1, hT_0, rfl, rfl, hz⟩
  · rintro T' w' ⟨_, _, _, _, _, _, _, _, _, _, hz⟩
    rw [number_l1] at hz
    cases hz
  · intro k11
    rintro T6 w4 ⟨M5, v8, l7, y9, hx13, hS, hv8, hT6_0, hT6_1, hT6_5, hz⟩
    replace hE := Mm.ext.trans hE hx13
    have hF12 := hx13
    rw [number_l1] at hz
    obtain ⟨rec10, hrec10⟩ : ∃ f, f = number_l1 x3 k11 := ⟨_, rfl⟩
    rw [← hrec10] at hz
    refine W_seq ?_
    refine W_seq ?_
    refine W_reg ?_
    refine WL_y (Y_move (.int .i64 y9) hT6_5) ?_
    refine WL_y (Y_geq rfl rfl) ?_
    refine WL_nil (nm_then ?_)
    refine W_cond rfl (fun hc14 => ?_) (fun hc14 => ?_)
    · replace hz := bif_ok_t hz hc14
      refine W_skip (nm_then ?_)
      refine W_seq ?_
      refine W_block ?_
      refine W_reg ?_
      refine WL_y (Y_move (v8) hT6_0) ?_
      refine WL_y (Y_move (.int .i64 (IntKind.wrap .i64 (x3 + 140737488355328))) hT6_1) ?_
      refine WL_y (Y_move (.int .i64 y9) hT6_5) ?_
      refine WL_y (Y_conv ⟨_, Try.underlying3⟩ Try.underlying114 rfl) ?_
      refine WL_y (Y_mul rfl rfl) ?_
      obtain ⟨_, hx15, hz⟩ := bind_ok hz
      have hx15 := nonneg_some hx15
      refine WL_y (Y_shr rfl rfl hx15) ?_
      refine WL_y (Y_conv ⟨_, Try.underlying3⟩ Try.underlying5 rfl) ?_
      refine WL_c (O_bslice (α := Byt) (l := ([⟨IntKind.wrap .u8 (Int.fdiv (IntKind.wrap .i64 (x3 + 140737488355328)) (2 ^ (min (Int.toNat (IntKind.wrap .u64 (8 * (IntKind.wrap .u64 y9)))) (IntKind.bits .i64))))⟩] : List Byt)) [.int .u8 (IntKind.wrap .u8 (Int.fdiv (IntKind.wrap .i64 (x3 + 140737488355328)) (2 ^ (min (Int.toNat (IntKind.wrap .u64 (8 * (IntKind.wrap .u64 y9)))) (IntKind.bits .i64)))))] tl98 (bpc rfl bp0) rfl rfl (by decide) (by decide) (by decide) hS (brc (show rep M5 [Value.int .u8 (IntKind.wrap .u8 (Int.fdiv (IntKind.wrap .i64 (x3 + 140737488355328)) (2 ^ (min (Int.toNat (IntKind.wrap .u64 (8 * (IntKind.wrap .u64 y9)))) (IntKind.bits .i64)))))] (⟨IntKind.wrap .u8 (Int.fdiv (IntKind.wrap .i64 (x3 + 140737488355328)) (2 ^ (min (Int.toNat (IntKind.wrap .u64 (8 * (IntKind.wrap .u64 y9)))) (IntKind.bits .i64))))⟩ : Byt) from rfl) br0) ?_)
      intro v17 M17 w16 hx17 hv17 hS
      replace hv8 := repL.mono hx17.1 hv8
      replace hE := Mm.ext.trans hE hx17
      replace hF12 := Mm.ext.trans hF12 hx17
      obtain ⟨l20, hr19, hz⟩ := bind_ok hz
      obtain ⟨hy19, hs19⟩ := app_some hr19
      refine WL_c (O_app (α := Byt) (j := 0) tp98 hS rfl rfl rfl hv8 hv17 hy19 ?_)
      intro v19 M19 w18 hx19 hv19 hS
      rw [← hs19] at hv19
      clear hr19 hs19
      replace hv8 := repL.mono hx19.1 hv8
      replace hv17 := repL.mono hx19.1 hv17
      replace hE := Mm.ext.trans hE hx19
      replace hF12 := Mm.ext.trans hF12 hx19
      replace hS : St w (lentX [.row vx1 5 1]) M19 [.row v19 5 1] w18 := hS
      refine WL_y (Y_assign (v19) rfl) ?_
      refine WL_nil (nm_blk ?_)
      refine (nm_then ?_)
      refine W_reg ?_
      refine WL_y (Y_move (.int .i64 y9) hT6_5) ?_
      refine WL_y (Y_sub rfl rfl) ?_
      refine WL_y (Y_assign (.int .i64 (IntKind.wrap .i64 (y9 - 1))) rfl) ?_
      refine WL_nil (nm_then ?_)
      exact ⟨M19, v19, l20, (IntKind.wrap .i64 (y9 - 1)), hF12, hS, hv19, rfl, hT6_1, rfl, (by rw [← hrec10]; exact hz)⟩
    · replace hz := bif_ok_f hz hc14
      refine W_exit ?_
      refine ex_then ?_
      refine ex_then ?_
      refine ex_hit ?_
      refine (nm_then ?_)
      refine W_seq ?_
      refine W_reg ?_
      refine WL_y (Y_move (v8) hT6_0) ?_
      refine WL_y (Y_assign (v8) rfl) ?_
      refine WL_nil (nm_then ?_)
      cases hz
      exact W_ret (R_t1 rfl rfl ⟨_, M5, _, rfl, hE, (hS.sel (H' := [.row v8 5 1]) [0] (by decide) rfl), v8, rfl, rfl, hv8⟩)

def encode_l3 (fu : Nat) (x1 : GFrame) : Nat → (List Byt) → Int → Option (ByteArray × Int)
  | 0, _, _ => none
  | n + 1, l88, y90 =>
    (bif decide (y90 < (x1.at_.length : Int)) then
    (idx x1.at_ y90).bind fun x97 =>
    (idx x1.vals y90).bind fun x103 =>
    (app l88 ([⟨IntKind.wrap .u8 x97⟩] : List Byt)).bind fun l109 =>
    (numberD fu l109 x103).bind fun r113 =>
    (encode_l3 fu x1 n) r113 (IntKind.wrap .i64 (y90 + 1))
    else
    some (strOfNums (l88.map Byt.val), 0))

def encode_l2 (fu : Nat) (x1 : GFrame) : Nat → (List Byt) → Int → Option (ByteArray × Int)
  | 0, _, _ => none
  | n + 1, l61, y63 =>
    (bif decide (y63 < (x1.deps.length : Int)) then
    (idx x1.deps y63).bind fun x70 =>
    (app l61 ([⟨IntKind.wrap .u8 x70⟩] : List Byt)).bind fun l75 =>
    (encode_l2 fu x1 n) l75 (IntKind.wrap .i64 (y63 + 1))
    else
    (app l61 ([⟨IntKind.wrap .u8 (x1.at_.length : Int)⟩] : List Byt)).bind fun l82 =>
    encode_l3 fu x1 fu l82 0)

def encode_l1 (fu : Nat) (x1 : GFrame) : Nat → (List Byt) → Int → Option (ByteArray × Int)
  | 0, _, _ => none
  | n + 1, l19, y21 =>
    (bif decide (y21 < (x1.ops.length : Int)) then
    (idx x1.ops y21).bind fun x28 =>
    (some x28).bind fun d34 =>
    (app l19 ([⟨IntKind.wrap .u8 d34.kind⟩, ⟨IntKind.wrap .u8 d34.key⟩] : List Byt)).bind fun l43 =>
    (numberD fu l43 d34.n).bind fun r47 =>
    (encode_l1 fu x1 n) r47 (IntKind.wrap .i64 (y21 + 1))
    else
    (app l19 ([⟨IntKind.wrap .u8 (x1.deps.length : Int)⟩] : List Byt)).bind fun l55 =>
    encode_l2 fu x1 fu l55 0)

def encodeD (fu : Nat) (x1 : GFrame) : Option (ByteArray × Int) :=
    (some (frameZ x1)).bind fun r7 =>
    (bif r7 != 0 then
    some ((⟨#[]⟩ : ByteArray), r7)
    else
    encode_l1 fu x1 fu ([⟨IntKind.wrap .u8 x1.kind⟩, ⟨IntKind.wrap .u8 x1.node⟩, ⟨IntKind.wrap .u8 x1.id⟩, ⟨IntKind.wrap .u8 (x1.ops.length : Int)⟩] : List Byt) 0)

set_option maxRecDepth 100000 in
set_option maxHeartbeats 4000000 in
theorem encode_ok {M : Mm} {w : World} {cx1 : List Value} {x1 : GFrame} {fu : Nat} {r : ByteArray × Int} (hA : Agree M w) (hcx1 : rep M cx1 x1) (hz : encodeD fu x1 = some r) :
    Calls Try.prog 37 #[.agg cx1.toArray] w (GivesV w (.tuple #[.string r.1, .int .i64 r.2])) := by
  refine calls_W Try.func37 rfl 100 rfl rfl (by kernel_rfl) fun T hT => ?_
  have hT_0 : T 0 = .agg cx1.toArray := hT 0
  clear hT
  have hE := Mm.ext.refl w.heap.size noX M
  have hS : St w noX M [] w := St.start hA
  rw [encodeD] at hz
  refine W_seq ?_
  refine W_reg ?_
  refine WL_c (O_box (v := .agg cx1.toArray) (cs := cx1) hT_0 rfl hS ?_)
  intro b3 w2 hb3 hS
  replace hS : St w noX M [.box b3 cx1 38] w2 := hS
  refine WL_y (Y_assign (.string (⟨#[]⟩ : ByteArray)) rfl) ?_
  refine WL_y (Y_assign (.int .i64 0) rfl) ?_
  refine WL_nil (nm_then ?_)
  refine W_seq ?_
  refine W_seq ?_
  refine W_reg ?_
  have ha4 := (rep_root (k := 7) rfl hcx1)
  refine WL_y (Y_ldn ta38 rfl (hS.bvB 0 rfl) (Rep.len ha4)) ?_
  obtain ⟨r7, hr6, hz⟩ := bind_ok hz
  replace hr6 := Option.some.inj hr6
  refine WL_c (O_val (vs := [.agg (sl cx1 (0) 7).toArray]) (v := .int .i64 r7) cb43 (args1 rfl) hS (hr6 ▸ (c_good hS.agree ha4)) ?_)
  intro w5 hS
  refine WL_y (Y_assign (.int .i64 r7) rfl) ?_
  refine WL_nil (nm_then ?_)
  refine W_seq ?_
  refine W_reg ?_
  refine WL_y (Y_move (.int .i64 r7) rfl) ?_
  refine WL_y (Y_neq rfl rfl) ?_
  refine WL_nil (nm_then ?_)
  refine W_cond rfl (fun hc8 => ?_) (fun hc8 => ?_)
  · replace hz := bif_ok_t hz hc8
    refine W_seq ?_
    refine W_reg ?_
    refine WL_y (Y_move (.int .i64 r7) rfl) ?_
    refine WL_y (Y_assign (.string (⟨#[]⟩ : ByteArray)) rfl) ?_
    refine WL_y (Y_assign (.int .i64 r7) rfl) ?_
    refine WL_nil (nm_then ?_)
    cases hz
    exact W_ret (rt_then (R_t2 rfl rfl rfl ⟨rfl, (St.dropB hS hb3).kept⟩))
  · replace hz := bif_ok_f hz hc8
    refine W_skip (nm_then ?_)
    refine W_seq ?_
    refine W_reg ?_
    refine WL_y (Y_fa fa38_0 rfl) ?_
    refine WL_y (Y_ld1 (.int .i64 x1.kind) ts3 rfl (hS.bvB 0 rfl) (GFrame.p0 (rep_root (k := 7) rfl hcx1))) ?_
    refine WL_y (Y_conv ⟨_, Try.underlying3⟩ Try.underlying5 rfl) ?_
    refine WL_y (Y_fa fa38_1 rfl) ?_
    refine WL_y (Y_ld1 (.int .i64 x1.node) ts3 rfl (hS.bvB 0 rfl) (GFrame.p1 (rep_root (k := 7) rfl hcx1))) ?_
    refine WL_y (Y_conv ⟨_, Try.underlying3⟩ Try.underlying5 rfl) ?_
    refine WL_y (Y_fa fa38_2 rfl) ?_
    refine WL_y (Y_ld1 (.int .i64 x1.id) ts3 rfl (hS.bvB 0 rfl) (GFrame.p2 (rep_root (k := 7) rfl hcx1))) ?_
    refine WL_y (Y_conv ⟨_, Try.underlying3⟩ Try.underlying5 rfl) ?_
    refine WL_y (Y_fa fa38_3 rfl) ?_
    obtain ⟨v9, ev9, hv9⟩ := (GFrame.p3 (rep_root (k := 7) rfl hcx1))
    refine WL_y (Y_ld1 v9 ts22 rfl (hS.bvB 0 rfl) ev9) ?_
    obtain ⟨a10, c10, hv10, _⟩ := repL_shape hv9
    refine WL_y (Y_lenL Try.underlying22 (tr2 hv10 rfl)) ?_
    refine WL_y (Y_conv ⟨_, Try.underlying3⟩ Try.underlying5 rfl) ?_
    refine WL_c (O_bsliceR (α := Byt) (l := ([⟨IntKind.wrap .u8 x1.kind⟩, ⟨IntKind.wrap .u8 x1.node⟩, ⟨IntKind.wrap .u8 x1.id⟩, ⟨IntKind.wrap .u8 (x1.ops.length : Int)⟩] : List Byt)) [.int .u8 (IntKind.wrap .u8 x1.kind), .int .u8 (IntKind.wrap .u8 x1.node), .int .u8 (IntKind.wrap .u8 x1.id), .int .u8 (IntKind.wrap .u8 (x1.ops.length : Int))] tp98 (bpc rfl (bpc rfl (bpc rfl (bpc rfl bp0)))) rfl rfl (by decide) (by decide) (by decide) hS (brc (show rep M [Value.int .u8 (IntKind.wrap .u8 x1.kind)] (⟨IntKind.wrap .u8 x1.kind⟩ : Byt) from rfl) (brc (show rep M [Value.int .u8 (IntKind.wrap .u8 x1.node)] (⟨IntKind.wrap .u8 x1.node⟩ : Byt) from rfl) (brc (show rep M [Value.int .u8 (IntKind.wrap .u8 x1.id)] (⟨IntKind.wrap .u8 x1.id⟩ : Byt) from rfl) (brc (show rep M [Value.int .u8 (IntKind.wrap .u8 (x1.ops.length : Int))] (⟨IntKind.wrap .u8 (x1.ops.length : Int)⟩ : Byt) from rfl) br0)))) ?_)
    intro v12 M12 w11 hx12 hv12 hS
    replace hcx1 := Rep.mono hx12.1 hcx1
    replace hv9 := repL.mono hx12.1 hv9
    replace hE := Mm.ext.trans hE hx12
    replace hS : St w noX M12 [.row v12 5 1, .box b3 cx1 38] w11 := hS
    refine WL_y (Y_assign (v12) rfl) ?_
    refine WL_nil (nm_then ?_)
    refine W_seq ?_
    refine W_seq ?_
    refine W_reg ?_
    refine WL_y (Y_fa fa38_3 rfl) ?_
    obtain ⟨v14, ev14, hv14⟩ := (GFrame.p3 (rep_root (k := 7) rfl hcx1))
    refine WL_y (Y_ld1 v14 ts22 rfl (hS.bvB 1 rfl) ev14) ?_
    obtain ⟨a15, c15, hv15, _⟩ := repL_shape hv14
    refine WL_y (Y_lenL Try.underlying22 (tr2 hv15 rfl)) ?_
    refine WL_y (Y_move (.int .i64 0) rfl) ?_
    refine WL_nil (nm_then ?_)
    refine W_block ?_
    refine W_loop (fun k23 T' w' => ∃ M17 v20 l19 y21, Mm.ext w.heap.size noX M12 M17 ∧ St w noX M17 [.row v20 5 1, .box b3 cx1 38] w' ∧ repL M17 v20 l19 ∧ T' 1 = .pointer (some ⟨b3, 0, none⟩) ∧ T' 5 = v20 ∧ T' 32 = v14 ∧ T' 33 = .int .i64 (x1.ops.length : Int) ∧ T' 34 = .int .i64 y21 ∧ encode_l1 fu x1 k23 l19 y21 = some r) fu ?_ ?_ ?_
    · exact ⟨M12, v12, ([⟨IntKind.wrap .u8 x1.kind⟩, ⟨IntKind.wrap .u8 x1.node⟩, ⟨IntKind.wrap .u8 x1.id⟩, ⟨IntKind.wrap .u8 (x1.ops.length : Int)⟩] : List Byt), (0 : Int), (Mm.ext.refl _ _ _), hS, hv12, rfl, rfl, rfl, rfl, rfl, hz⟩
    · rintro T' w' ⟨_, _, _, _, _, _, _, _, _, _, _, _, hz⟩
      rw [encode_l1] at hz
      cases hz
    · intro k23
      rintro T18 w16 ⟨M17, v20, l19, y21, hx25, hS, hv20, hT18_1, hT18_5, hT18_32, hT18_33, hT18_34, hz⟩
      replace hcx1 := Rep.mono hx25.1 hcx1
      replace hv14 := repL.mono hx25.1 hv14
      replace hE := Mm.ext.trans hE hx25
      have hF24 := hx25
      rw [encode_l1] at hz
      obtain ⟨rec22, hrec22⟩ : ∃ f, f = encode_l1 fu x1 k23 := ⟨_, rfl⟩
      rw [← hrec22] at hz
      refine W_seq ?_
      refine W_reg ?_
      refine WL_y (Y_lss hT18_34 hT18_33) ?_
      refine WL_nil (nm_then ?_)
      refine W_seq ?_
      refine W_cond rfl (fun hc26 => ?_) (fun hc26 => ?_)
      · replace hz := bif_ok_t hz hc26
        refine W_skip (nm_then ?_)
        refine W_seq ?_
        refine W_block ?_
        refine W_seq ?_
        refine W_reg ?_
        obtain ⟨x28, hx27, hz⟩ := bind_ok hz
        obtain ⟨b27, o27, c27, p27, hv27, hi27, hj27, hM27, hr27⟩ := repL_at hv14 hx27
        replace hr27 : rep _ (sl p27 (o27 + Int.toNat y21 * 3) 3) x28 := hr27
        refine WL_y (Y_ixL il22 hT18_32 hv27 hT18_34 hi27 hj27) ?_
        have ha29 := hr27
        refine WL_y (Y_ldn ta78 rfl (hS.bvM hM27) (Rep.len ha29)) ?_
        refine WL_c (O_alloc tz78 hS ?_)
        intro b31 w30 hb31 hS
        replace hS : St w noX M17 [.box b31 (Zr.zc GOp) 78, .row v20 5 1, .box b3 cx1 38] w30 := hS
        have zb31 : rep M17 (Zr.zc GOp) (Zr.zd : GOp) := Zr.zr
        have hw33 : ((sl p27 (o27 + Int.toNat y21 * 3) 3) : List Value).length = 3 := Rep.len ha29
        have hl33 : ((Zr.zc GOp)).length = 3 := Rep.len zb31
        obtain ⟨d34, hd33, hz⟩ := bind_ok hz
        have hb33 : rep M17 (pt (Zr.zc GOp) (0) (sl p27 (o27 + Int.toNat y21 * 3) 3)) d34 := rep_eq (rep_whole (k := 3) (by rw [pt_length (by omega)]; exact hl33) (rep_leaf rfl ha29 (by omega))) hd33
        generalize hg33 : (pt (Zr.zc GOp) (0) (sl p27 (o27 + Int.toNat y21 * 3) 3)) = cs33 at hb33
        refine WL_c (O_st (j := 0) (v := .agg (sl p27 (o27 + Int.toNat y21 * 3) 3).toArray) (ws := (sl p27 (o27 + Int.toNat y21 * 3) 3)) hS rfl (by kernel_rfl) rfl rfl rfl hw33 (Rep.one ha29) (by omega) ?_)
        rw [hg33]
        clear hg33
        intro w32 hS
        replace hS : St w noX M17 [.box b31 cs33 78, .row v20 5 1, .box b3 cx1 38] w32 := hS
        refine WL_nil (nm_then ?_)
        refine W_drawB (Rd M17 [.box b31 cs33 78]) (inL []) mixed hS fun w35 hS => ?_
        have hG36 := Mm.ext.refl w.heap.size noX M17
        have hR37 : Rd M17 [.box b31 cs33 78] w35 := Rd.of hS hG36 (by simp)
        refine WB_y (i := 0) rfl (by kernel_rfl) rfl (Y_move (v20) hT18_5) (fun _ => hR37) ?_
        refine WB_y (i := 1) rfl (by kernel_rfl) rfl (Y_fa fa78_0 rfl) (fun _ => hR37) ?_
        refine WB_ld (i := 2) rfl (by kernel_rfl) rfl (inL_lt rfl) (by kernel_rfl) (by kernel_rfl) (Y_ld1 (.int .i64 d34.kind) ts3 rfl (bvR 0 rfl) (GOp.p0 (rep_root (k := 3) rfl hb33))) hR37 ?_
        refine WB_y (i := 3) rfl (by kernel_rfl) rfl (Y_conv ⟨_, Try.underlying3⟩ Try.underlying5 rfl) (fun _ => hR37) ?_
        refine WB_y (i := 4) rfl (by kernel_rfl) rfl (Y_fa fa78_1 rfl) (fun _ => hR37) ?_
        refine WB_ld (i := 5) rfl (by kernel_rfl) rfl (inL_lt rfl) (by kernel_rfl) (by kernel_rfl) (Y_ld1 (.int .i64 d34.key) ts3 rfl (bvR 0 rfl) (GOp.p1 (rep_root (k := 3) rfl hb33))) hR37 ?_
        refine WB_y (i := 6) rfl (by kernel_rfl) rfl (Y_conv ⟨_, Try.underlying3⟩ Try.underlying5 rfl) (fun _ => hR37) ?_
        refine WB_y (i := 9) rfl (by kernel_rfl) rfl (Y_fa fa78_2 rfl) (fun _ => hR37) ?_
        refine WB_ld (i := 10) rfl (by kernel_rfl) rfl (inL_lt rfl) (by kernel_rfl) (by kernel_rfl) (Y_ld1 (.int .i64 d34.n) ts3 rfl (bvR 0 rfl) (GOp.p2 (rep_root (k := 3) rfl hb33))) hR37 ?_
        refine WB_one (i := 7) (by kernel_rfl) rfl (O_bslice (α := Byt) (l := ([⟨IntKind.wrap .u8 d34.kind⟩, ⟨IntKind.wrap .u8 d34.key⟩] : List Byt)) [.int .u8 (IntKind.wrap .u8 d34.kind), .int .u8 (IntKind.wrap .u8 d34.key)] tl98 (bpc rfl (bpc rfl bp0)) rfl rfl (by decide) (by decide) (by decide) hS (brc (show rep M17 [Value.int .u8 (IntKind.wrap .u8 d34.kind)] (⟨IntKind.wrap .u8 d34.kind⟩ : Byt) from rfl) (brc (show rep M17 [Value.int .u8 (IntKind.wrap .u8 d34.key)] (⟨IntKind.wrap .u8 d34.key⟩ : Byt) from rfl) br0)) ?_)
        intro v39 M39 w38 hx39 hv39 hS
        replace hcx1 := Rep.mono hx39.1 hcx1
        replace hv14 := repL.mono hx39.1 hv14
        replace hv20 := repL.mono hx39.1 hv20
        replace hb33 := Rep.mono hx39.1 hb33
        replace hE := Mm.ext.trans hE hx39
        replace hF24 := Mm.ext.trans hF24 hx39
        replace hG36 := Mm.ext.trans hG36 hx39
        have hR40 : Rd M17 [.box b31 cs33 78] w38 := Rd.of hS hG36 (by simp)
        refine ⟨fun _ => hR40, ?_⟩
        obtain ⟨l43, hr42, hz⟩ := bind_ok hz
        obtain ⟨hy42, hs42⟩ := app_some hr42
        refine WB_one (i := 8) (by kernel_rfl) rfl (O_app (α := Byt) (j := 1) tp98 hS rfl rfl rfl hv20 hv39 hy42 ?_)
        intro v42 M42 w41 hx42 hv42 hS
        rw [← hs42] at hv42
        clear hr42 hs42
        replace hcx1 := Rep.mono hx42.1 hcx1
        replace hv14 := repL.mono hx42.1 hv14
        replace hv20 := repL.mono hx42.1 hv20
        replace hb33 := Rep.mono hx42.1 hb33
        replace hv39 := repL.mono hx42.1 hv39
        replace hE := Mm.ext.trans hE hx42
        replace hF24 := Mm.ext.trans hF24 hx42
        replace hG36 := Mm.ext.trans hG36 hx42
        replace hS : St w noX M42 [.box b31 cs33 78, .row v42 5 1, .box b3 cx1 38] w41 := hS
        have hR44 : Rd M17 [.box b31 cs33 78] w41 := Rd.of hS hG36 (by simp)
        refine ⟨fun _ => hR44, ?_⟩
        obtain ⟨r47, hr46, hz⟩ := bind_ok hz
        refine WB_one (i := 11) (by kernel_rfl) rfl (O_lend (vs := [v42, .int .i64 d34.n]) (L := [.row v42 5 1]) (R := [.box b31 cs33 78, .box b3 cx1 38]) (rv := (fun M' u L' => ∃ v0, u = v0 ∧ L' = [.row v0 5 1] ∧ repL M' v0 r47)) cb70 (args2 rfl rfl) hS (hS.sel [1, 0, 2] (by decide) rfl) (fun hS => number_ok hS hv42 hr46) ?_)
        rintro u46 M46 w45 L46 hx46 ⟨v0_46, rfl, hL46, f46_0⟩ hS
        replace hS := hS _ hL46
        replace hcx1 := Rep.mono hx46.1 hcx1
        replace hv14 := repL.mono hx46.1 hv14
        replace hv20 := repL.mono hx46.1 hv20
        replace hb33 := Rep.mono hx46.1 hb33
        replace hv39 := repL.mono hx46.1 hv39
        replace hv42 := repL.mono hx46.1 hv42
        replace hE := Mm.ext.trans hE hx46
        replace hF24 := Mm.ext.trans hF24 hx46
        replace hG36 := Mm.ext.trans hG36 hx46
        replace hS : St w noX M46 [.row u46 5 1, .box b31 cs33 78, .box b3 cx1 38] w45 := hS
        have hR48 : Rd M17 [.box b31 cs33 78] w45 := Rd.of hS hG36 (by simp)
        refine ⟨fun _ => hR48, ?_⟩
        refine WB_y (i := 12) rfl (by kernel_rfl) rfl (Y_assign (u46) rfl) (fun _ => hR48) ?_
        refine WB_done (by kernel_rfl) (nm_blk ?_)
        refine (nm_then ?_)
        refine W_reg ?_
        refine WL_y (Y_add hT18_34 rfl) ?_
        refine WL_y (Y_move (.int .i64 (IntKind.wrap .i64 (y21 + 1))) rfl) ?_
        refine WL_nil (nm_then ?_)
        exact ⟨M46, u46, r47, (IntKind.wrap .i64 (y21 + 1)), hF24, (hS.sel (H' := [.row u46 5 1, .box b3 cx1 38]) [0, 2] (by decide) rfl), f46_0, hT18_1, rfl, hT18_32, hT18_33, rfl, (by rw [← hrec22]; exact hz)⟩
      · replace hz := bif_ok_f hz hc26
        refine W_exit ?_
        refine ex_then ?_
        refine ex_then ?_
        refine ex_hit ?_
        refine (nm_then ?_)
        refine W_seq ?_
        refine W_reg ?_
        refine WL_y (Y_move (v20) hT18_5) ?_
        refine WL_y (Y_fa fa38_4 hT18_1) ?_
        obtain ⟨v49, ev49, hv49⟩ := (GFrame.p4 (rep_root (k := 7) rfl hcx1))
        refine WL_y (Y_ld1 v49 ts27 rfl (hS.bvB 1 rfl) ev49) ?_
        obtain ⟨a50, c50, hv50, _⟩ := repL_shape hv49
        refine WL_y (Y_lenL Try.underlying27 (tr2 hv50 rfl)) ?_
        refine WL_y (Y_conv ⟨_, Try.underlying3⟩ Try.underlying5 rfl) ?_
        refine WL_c (O_bslice (α := Byt) (l := ([⟨IntKind.wrap .u8 (x1.deps.length : Int)⟩] : List Byt)) [.int .u8 (IntKind.wrap .u8 (x1.deps.length : Int))] tl98 (bpc rfl bp0) rfl rfl (by decide) (by decide) (by decide) hS (brc (show rep M17 [Value.int .u8 (IntKind.wrap .u8 (x1.deps.length : Int))] (⟨IntKind.wrap .u8 (x1.deps.length : Int)⟩ : Byt) from rfl) br0) ?_)
        intro v52 M52 w51 hx52 hv52 hS
        replace hcx1 := Rep.mono hx52.1 hcx1
        replace hv20 := repL.mono hx52.1 hv20
        replace hv49 := repL.mono hx52.1 hv49
        replace hE := Mm.ext.trans hE hx52
        replace hF24 := Mm.ext.trans hF24 hx52
        obtain ⟨l55, hr54, hz⟩ := bind_ok hz
        obtain ⟨hy54, hs54⟩ := app_some hr54
        refine WL_c (O_app (α := Byt) (j := 0) tp98 hS rfl rfl rfl hv20 hv52 hy54 ?_)
        intro v54 M54 w53 hx54 hv54 hS
        rw [← hs54] at hv54
        clear hr54 hs54
        replace hcx1 := Rep.mono hx54.1 hcx1
        replace hv20 := repL.mono hx54.1 hv20
        replace hv49 := repL.mono hx54.1 hv49
        replace hv52 := repL.mono hx54.1 hv52
        replace hE := Mm.ext.trans hE hx54
        replace hF24 := Mm.ext.trans hF24 hx54
        replace hS : St w noX M54 [.row v54 5 1, .box b3 cx1 38] w53 := hS
        refine WL_y (Y_assign (v54) rfl) ?_
        refine WL_nil (nm_then ?_)
        refine W_seq ?_
        refine W_seq ?_
        refine W_reg ?_
        refine WL_y (Y_fa fa38_4 hT18_1) ?_
        obtain ⟨v56, ev56, hv56⟩ := (GFrame.p4 (rep_root (k := 7) rfl hcx1))
        refine WL_y (Y_ld1 v56 ts27 rfl (hS.bvB 1 rfl) ev56) ?_
        obtain ⟨a57, c57, hv57, _⟩ := repL_shape hv56
        refine WL_y (Y_lenL Try.underlying27 (tr2 hv57 rfl)) ?_
        refine WL_y (Y_move (.int .i64 0) rfl) ?_
        refine WL_nil (nm_then ?_)
        refine W_block ?_
        refine W_loop (fun k65 T' w' => ∃ M59 v62 l61 y63, Mm.ext w.heap.size noX M54 M59 ∧ St w noX M59 [.row v62 5 1, .box b3 cx1 38] w' ∧ repL M59 v62 l61 ∧ T' 1 = .pointer (some ⟨b3, 0, none⟩) ∧ T' 5 = v62 ∧ T' 59 = v56 ∧ T' 60 = .int .i64 (x1.deps.length : Int) ∧ T' 61 = .int .i64 y63 ∧ encode_l2 fu x1 k65 l61 y63 = some r) fu ?_ ?_ ?_
        · exact ⟨M54, v54, l55, (0 : Int), (Mm.ext.refl _ _ _), hS, hv54, hT18_1, rfl, rfl, rfl, rfl, hz⟩
        · rintro T' w' ⟨_, _, _, _, _, _, _, _, _, _, _, _, hz⟩
          rw [encode_l2] at hz
          cases hz
        · intro k65
          rintro T60 w58 ⟨M59, v62, l61, y63, hx67, hS, hv62, hT60_1, hT60_5, hT60_59, hT60_60, hT60_61, hz⟩
          replace hcx1 := Rep.mono hx67.1 hcx1
          replace hv56 := repL.mono hx67.1 hv56
          replace hE := Mm.ext.trans hE hx67
          replace hF24 := Mm.ext.trans hF24 hx67
          have hF66 := hx67
          rw [encode_l2] at hz
          obtain ⟨rec64, hrec64⟩ : ∃ f, f = encode_l2 fu x1 k65 := ⟨_, rfl⟩
          rw [← hrec64] at hz
          refine W_seq ?_
          refine W_reg ?_
          refine WL_y (Y_lss hT60_61 hT60_60) ?_
          refine WL_nil (nm_then ?_)
          refine W_seq ?_
          refine W_cond rfl (fun hc68 => ?_) (fun hc68 => ?_)
          · replace hz := bif_ok_t hz hc68
            refine W_skip (nm_then ?_)
            refine W_seq ?_
            refine W_block ?_
            refine W_seq ?_
            refine W_reg ?_
            obtain ⟨x70, hx69, hz⟩ := bind_ok hz
            obtain ⟨b69, o69, c69, p69, hv69, hi69, hj69, hM69, hr69⟩ := repL_at hv56 hx69
            replace hr69 : rep _ (sl p69 (o69 + Int.toNat y63 * 1) 1) x70 := hr69
            refine WL_y (Y_ixL il27 hT60_59 hv69 hT60_61 hi69 hj69) ?_
            refine WL_y (Y_ld1 (.int .i64 x70) ts3 rfl (hS.bvM hM69) hr69) ?_
            refine WL_y (Y_assign (.int .i64 x70) rfl) ?_
            refine WL_nil (nm_then ?_)
            refine W_reg ?_
            refine WL_y (Y_move (v62) hT60_5) ?_
            refine WL_y (Y_move (.int .i64 x70) rfl) ?_
            refine WL_y (Y_conv ⟨_, Try.underlying3⟩ Try.underlying5 rfl) ?_
            refine WL_c (O_bslice (α := Byt) (l := ([⟨IntKind.wrap .u8 x70⟩] : List Byt)) [.int .u8 (IntKind.wrap .u8 x70)] tl98 (bpc rfl bp0) rfl rfl (by decide) (by decide) (by decide) hS (brc (show rep M59 [Value.int .u8 (IntKind.wrap .u8 x70)] (⟨IntKind.wrap .u8 x70⟩ : Byt) from rfl) br0) ?_)
            intro v72 M72 w71 hx72 hv72 hS
            replace hcx1 := Rep.mono hx72.1 hcx1
            replace hv56 := repL.mono hx72.1 hv56
            replace hv62 := repL.mono hx72.1 hv62
            replace hE := Mm.ext.trans hE hx72
            replace hF24 := Mm.ext.trans hF24 hx72
            replace hF66 := Mm.ext.trans hF66 hx72
            obtain ⟨l75, hr74, hz⟩ := bind_ok hz
            obtain ⟨hy74, hs74⟩ := app_some hr74
            refine WL_c (O_app (α := Byt) (j := 0) tp98 hS rfl rfl rfl hv62 hv72 hy74 ?_)
            intro v74 M74 w73 hx74 hv74 hS
            rw [← hs74] at hv74
            clear hr74 hs74
            replace hcx1 := Rep.mono hx74.1 hcx1
            replace hv56 := repL.mono hx74.1 hv56
            replace hv62 := repL.mono hx74.1 hv62
            replace hv72 := repL.mono hx74.1 hv72
            replace hE := Mm.ext.trans hE hx74
            replace hF24 := Mm.ext.trans hF24 hx74
            replace hF66 := Mm.ext.trans hF66 hx74
            replace hS : St w noX M74 [.row v74 5 1, .box b3 cx1 38] w73 := hS
            refine WL_y (Y_assign (v74) rfl) ?_
            refine WL_nil (nm_blk ?_)
            refine (nm_then ?_)
            refine W_reg ?_
            refine WL_y (Y_add hT60_61 rfl) ?_
            refine WL_y (Y_move (.int .i64 (IntKind.wrap .i64 (y63 + 1))) rfl) ?_
            refine WL_nil (nm_then ?_)
            exact ⟨M74, v74, l75, (IntKind.wrap .i64 (y63 + 1)), hF66, hS, hv74, hT60_1, rfl, hT60_59, hT60_60, rfl, (by rw [← hrec64]; exact hz)⟩
          · replace hz := bif_ok_f hz hc68
            refine W_exit ?_
            refine ex_then ?_
            refine ex_then ?_
            refine ex_hit ?_
            refine (nm_then ?_)
            refine W_seq ?_
            refine W_reg ?_
            refine WL_y (Y_move (v62) hT60_5) ?_
            refine WL_y (Y_fa fa38_5 hT60_1) ?_
            obtain ⟨v76, ev76, hv76⟩ := (GFrame.p5 (rep_root (k := 7) rfl hcx1))
            refine WL_y (Y_ld1 v76 ts27 rfl (hS.bvB 1 rfl) ev76) ?_
            obtain ⟨a77, c77, hv77, _⟩ := repL_shape hv76
            refine WL_y (Y_lenL Try.underlying27 (tr2 hv77 rfl)) ?_
            refine WL_y (Y_conv ⟨_, Try.underlying3⟩ Try.underlying5 rfl) ?_
            refine WL_c (O_bslice (α := Byt) (l := ([⟨IntKind.wrap .u8 (x1.at_.length : Int)⟩] : List Byt)) [.int .u8 (IntKind.wrap .u8 (x1.at_.length : Int))] tl98 (bpc rfl bp0) rfl rfl (by decide) (by decide) (by decide) hS (brc (show rep M59 [Value.int .u8 (IntKind.wrap .u8 (x1.at_.length : Int))] (⟨IntKind.wrap .u8 (x1.at_.length : Int)⟩ : Byt) from rfl) br0) ?_)
            intro v79 M79 w78 hx79 hv79 hS
            replace hcx1 := Rep.mono hx79.1 hcx1
            replace hv62 := repL.mono hx79.1 hv62
            replace hv76 := repL.mono hx79.1 hv76
            replace hE := Mm.ext.trans hE hx79
            replace hF24 := Mm.ext.trans hF24 hx79
            replace hF66 := Mm.ext.trans hF66 hx79
            obtain ⟨l82, hr81, hz⟩ := bind_ok hz
            obtain ⟨hy81, hs81⟩ := app_some hr81
            refine WL_c (O_app (α := Byt) (j := 0) tp98 hS rfl rfl rfl hv62 hv79 hy81 ?_)
            intro v81 M81 w80 hx81 hv81 hS
            rw [← hs81] at hv81
            clear hr81 hs81
            replace hcx1 := Rep.mono hx81.1 hcx1
            replace hv62 := repL.mono hx81.1 hv62
            replace hv76 := repL.mono hx81.1 hv76
            replace hv79 := repL.mono hx81.1 hv79
            replace hE := Mm.ext.trans hE hx81
            replace hF24 := Mm.ext.trans hF24 hx81
            replace hF66 := Mm.ext.trans hF66 hx81
            replace hS : St w noX M81 [.row v81 5 1, .box b3 cx1 38] w80 := hS
            refine WL_y (Y_assign (v81) rfl) ?_
            refine WL_nil (nm_then ?_)
            refine W_seq ?_
            refine W_seq ?_
            refine W_reg ?_
            refine WL_y (Y_fa fa38_5 hT60_1) ?_
            obtain ⟨v83, ev83, hv83⟩ := (GFrame.p5 (rep_root (k := 7) rfl hcx1))
            refine WL_y (Y_ld1 v83 ts27 rfl (hS.bvB 1 rfl) ev83) ?_
            obtain ⟨a84, c84, hv84, _⟩ := repL_shape hv83
            refine WL_y (Y_lenL Try.underlying27 (tr2 hv84 rfl)) ?_
            refine WL_y (Y_move (.int .i64 0) rfl) ?_
            refine WL_nil (nm_then ?_)
            refine W_block ?_
            refine W_loop (fun k92 T' w' => ∃ M86 v89 l88 y90, Mm.ext w.heap.size noX M81 M86 ∧ St w noX M86 [.row v89 5 1, .box b3 cx1 38] w' ∧ repL M86 v89 l88 ∧ T' 1 = .pointer (some ⟨b3, 0, none⟩) ∧ T' 5 = v89 ∧ T' 79 = v83 ∧ T' 80 = .int .i64 (x1.at_.length : Int) ∧ T' 81 = .int .i64 y90 ∧ encode_l3 fu x1 k92 l88 y90 = some r) fu ?_ ?_ ?_
            · exact ⟨M81, v81, l82, (0 : Int), (Mm.ext.refl _ _ _), hS, hv81, hT60_1, rfl, rfl, rfl, rfl, hz⟩
            · rintro T' w' ⟨_, _, _, _, _, _, _, _, _, _, _, _, hz⟩
              rw [encode_l3] at hz
              cases hz
            · intro k92
              rintro T87 w85 ⟨M86, v89, l88, y90, hx94, hS, hv89, hT87_1, hT87_5, hT87_79, hT87_80, hT87_81, hz⟩
              replace hcx1 := Rep.mono hx94.1 hcx1
              replace hv83 := repL.mono hx94.1 hv83
              replace hE := Mm.ext.trans hE hx94
              replace hF24 := Mm.ext.trans hF24 hx94
              replace hF66 := Mm.ext.trans hF66 hx94
              have hF93 := hx94
              rw [encode_l3] at hz
              obtain ⟨rec91, hrec91⟩ : ∃ f, f = encode_l3 fu x1 k92 := ⟨_, rfl⟩
              rw [← hrec91] at hz
              refine W_seq ?_
              refine W_reg ?_
              refine WL_y (Y_lss hT87_81 hT87_80) ?_
              refine WL_nil (nm_then ?_)
              refine W_seq ?_
              refine W_cond rfl (fun hc95 => ?_) (fun hc95 => ?_)
              · replace hz := bif_ok_t hz hc95
                refine W_skip (nm_then ?_)
                refine W_seq ?_
                refine W_block ?_
                refine W_seq ?_
                refine W_reg ?_
                refine WL_y (Y_move (.int .i64 y90) hT87_81) ?_
                obtain ⟨x97, hx96, hz⟩ := bind_ok hz
                obtain ⟨b96, o96, c96, p96, hv96, hi96, hj96, hM96, hr96⟩ := repL_at hv83 hx96
                replace hr96 : rep _ (sl p96 (o96 + Int.toNat y90 * 1) 1) x97 := hr96
                refine WL_y (Y_ixL il27 hT87_79 hv96 hT87_81 hi96 hj96) ?_
                refine WL_y (Y_ld1 (.int .i64 x97) ts3 rfl (hS.bvM hM96) hr96) ?_
                refine WL_y (Y_assign (.int .i64 y90) rfl) ?_
                refine WL_y (Y_assign (.int .i64 x97) rfl) ?_
                refine WL_nil (nm_then ?_)
                refine W_drawB (Rd M86 [.box b3 cx1 38]) (inL []) mixed hS fun w98 hS => ?_
                have hG99 := Mm.ext.refl w.heap.size noX M86
                have hR100 : Rd M86 [.box b3 cx1 38] w98 := Rd.of hS hG99 (by simp)
                refine WB_y (i := 0) rfl (by kernel_rfl) rfl (Y_move (v89) hT87_5) (fun _ => hR100) ?_
                refine WB_y (i := 1) rfl (by kernel_rfl) rfl (Y_move (.int .i64 x97) rfl) (fun _ => hR100) ?_
                refine WB_y (i := 2) rfl (by kernel_rfl) rfl (Y_conv ⟨_, Try.underlying3⟩ Try.underlying5 rfl) (fun _ => hR100) ?_
                refine WB_y (i := 5) rfl (by kernel_rfl) rfl (Y_fa fa38_6 hT87_1) (fun _ => hR100) ?_
                obtain ⟨v101, ev101, hv101⟩ := (GFrame.p6 (rep_root (k := 7) rfl hcx1))
                refine WB_ld (i := 6) rfl (by kernel_rfl) rfl (inL_lt rfl) (by kernel_rfl) (by kernel_rfl) (Y_ld1 v101 ts27 rfl (bvR 0 rfl) ev101) hR100 ?_
                refine WB_y (i := 7) rfl (by kernel_rfl) rfl (Y_move (.int .i64 y90) rfl) (fun _ => hR100) ?_
                obtain ⟨x103, hx102, hz⟩ := bind_ok hz
                obtain ⟨b102, o102, c102, p102, hv102, hi102, hj102, hM102, hr102⟩ := repL_at hv101 hx102
                replace hr102 : rep _ (sl p102 (o102 + Int.toNat y90 * 1) 1) x103 := hr102
                refine WB_y (i := 8) rfl (by kernel_rfl) rfl (Y_ixL il27 rfl hv102 rfl hi102 hj102) (fun _ => hR100) ?_
                refine WB_ld (i := 9) rfl (by kernel_rfl) rfl (inL_lt rfl) (by kernel_rfl) (by kernel_rfl) (Y_ld1 (.int .i64 x103) ts3 rfl (bvRM hM102) hr102) hR100 ?_
                refine WB_one (i := 3) (by kernel_rfl) rfl (O_bslice (α := Byt) (l := ([⟨IntKind.wrap .u8 x97⟩] : List Byt)) [.int .u8 (IntKind.wrap .u8 x97)] tl98 (bpc rfl bp0) rfl rfl (by decide) (by decide) (by decide) hS (brc (show rep M86 [Value.int .u8 (IntKind.wrap .u8 x97)] (⟨IntKind.wrap .u8 x97⟩ : Byt) from rfl) br0) ?_)
                intro v105 M105 w104 hx105 hv105 hS
                replace hcx1 := Rep.mono hx105.1 hcx1
                replace hv83 := repL.mono hx105.1 hv83
                replace hv89 := repL.mono hx105.1 hv89
                replace hv101 := repL.mono hx105.1 hv101
                replace hE := Mm.ext.trans hE hx105
                replace hF24 := Mm.ext.trans hF24 hx105
                replace hF66 := Mm.ext.trans hF66 hx105
                replace hF93 := Mm.ext.trans hF93 hx105
                replace hG99 := Mm.ext.trans hG99 hx105
                have hR106 : Rd M86 [.box b3 cx1 38] w104 := Rd.of hS hG99 (by simp)
                refine ⟨fun _ => hR106, ?_⟩
                obtain ⟨l109, hr108, hz⟩ := bind_ok hz
                obtain ⟨hy108, hs108⟩ := app_some hr108
                refine WB_one (i := 4) (by kernel_rfl) rfl (O_app (α := Byt) (j := 0) tp98 hS rfl rfl rfl hv89 hv105 hy108 ?_)
                intro v108 M108 w107 hx108 hv108 hS
                rw [← hs108] at hv108
                clear hr108 hs108
                replace hcx1 := Rep.mono hx108.1 hcx1
                replace hv83 := repL.mono hx108.1 hv83
                replace hv89 := repL.mono hx108.1 hv89
                replace hv101 := repL.mono hx108.1 hv101
                replace hv105 := repL.mono hx108.1 hv105
                replace hE := Mm.ext.trans hE hx108
                replace hF24 := Mm.ext.trans hF24 hx108
                replace hF66 := Mm.ext.trans hF66 hx108
                replace hF93 := Mm.ext.trans hF93 hx108
                replace hG99 := Mm.ext.trans hG99 hx108
                replace hS : St w noX M108 [.row v108 5 1, .box b3 cx1 38] w107 := hS
                have hR110 : Rd M86 [.box b3 cx1 38] w107 := Rd.of hS hG99 (by simp)
                refine ⟨fun _ => hR110, ?_⟩
                obtain ⟨r113, hr112, hz⟩ := bind_ok hz
                refine WB_one (i := 10) (by kernel_rfl) rfl (O_lend (vs := [v108, .int .i64 x103]) (L := [.row v108 5 1]) (R := [.box b3 cx1 38]) (rv := (fun M' u L' => ∃ v0, u = v0 ∧ L' = [.row v0 5 1] ∧ repL M' v0 r113)) cb70 (args2 rfl rfl) hS (hS.sel [0, 1] (by decide) rfl) (fun hS => number_ok hS hv108 hr112) ?_)
                rintro u112 M112 w111 L112 hx112 ⟨v0_112, rfl, hL112, f112_0⟩ hS
                replace hS := hS _ hL112
                replace hcx1 := Rep.mono hx112.1 hcx1
                replace hv83 := repL.mono hx112.1 hv83
                replace hv89 := repL.mono hx112.1 hv89
                replace hv101 := repL.mono hx112.1 hv101
                replace hv105 := repL.mono hx112.1 hv105
                replace hv108 := repL.mono hx112.1 hv108
                replace hE := Mm.ext.trans hE hx112
                replace hF24 := Mm.ext.trans hF24 hx112
                replace hF66 := Mm.ext.trans hF66 hx112
                replace hF93 := Mm.ext.trans hF93 hx112
                replace hG99 := Mm.ext.trans hG99 hx112
                replace hS : St w noX M112 [.row u112 5 1, .box b3 cx1 38] w111 := hS
                have hR114 : Rd M86 [.box b3 cx1 38] w111 := Rd.of hS hG99 (by simp)
                refine ⟨fun _ => hR114, ?_⟩
                refine WB_y (i := 11) rfl (by kernel_rfl) rfl (Y_assign (u112) rfl) (fun _ => hR114) ?_
                refine WB_done (by kernel_rfl) (nm_blk ?_)
                refine (nm_then ?_)
                refine W_reg ?_
                refine WL_y (Y_add hT87_81 rfl) ?_
                refine WL_y (Y_move (.int .i64 (IntKind.wrap .i64 (y90 + 1))) rfl) ?_
                refine WL_nil (nm_then ?_)
                exact ⟨M112, u112, r113, (IntKind.wrap .i64 (y90 + 1)), hF93, hS, f112_0, hT87_1, rfl, hT87_79, hT87_80, rfl, (by rw [← hrec91]; exact hz)⟩
              · replace hz := bif_ok_f hz hc95
                refine W_exit ?_
                refine ex_then ?_
                refine ex_then ?_
                refine ex_hit ?_
                refine (nm_then ?_)
                refine W_seq ?_
                refine W_reg ?_
                refine WL_y (Y_move (v89) hT87_5) ?_
                refine WL_y (Y_b2s hS.agree Try.underlying98 Try.underlying5 Try.underlying9 rfl hv89) ?_
                refine WL_y (Y_assign (.string (strOfNums (l88.map Byt.val))) rfl) ?_
                refine WL_y (Y_assign (.int .i64 0) rfl) ?_
                refine WL_nil (nm_then ?_)
                cases hz
                exact W_ret (R_t2 rfl rfl rfl ⟨rfl, (St.dropB (St.drop hS) hb3).kept⟩)

def lawFrameD (fu : Nat) (x1 : GFrame) : Option GFrame :=
    (app ([] : List GOp) x1.ops).bind fun l14 =>
    (app ([] : List Int) x1.deps).bind fun l19 =>
    (some ({ x1 with ops := l14 } : GFrame)).bind fun d23 =>
    (some ({ d23 with deps := l19 } : GFrame)).bind fun d26 =>
    (app ([] : List Int) d26.at_).bind fun l35 =>
    (app ([] : List Int) d26.vals).bind fun l40 =>
    (some ({ d26 with at_ := l35 } : GFrame)).bind fun d44 =>
    (some ({ d44 with vals := l40 } : GFrame)).bind fun d47 =>
    (some d47).bind fun d51 =>
    some d51

set_option maxRecDepth 100000 in
set_option maxHeartbeats 4000000 in
theorem lawFrame_ok {M : Mm} {w : World} {cx1 : List Value} {x1 : GFrame} {fu : Nat} {r : GFrame} (hA : Agree M w) (hcx1 : rep M cx1 x1) (hz : lawFrameD fu x1 = some r) :
    Calls Try.prog 16 #[.agg cx1.toArray] w (Gives M w (fun M' u => ∃ cs, u = .agg cs.toArray ∧ rep M' cs r)) := by
  refine calls_W Try.func16 rfl 20 rfl rfl (by kernel_rfl) fun T hT => ?_
  have hT_0 : T 0 = .agg cx1.toArray := hT 0
  clear hT
  have hE := Mm.ext.refl w.heap.size noX M
  have hS : St w noX M [] w := St.start hA
  rw [lawFrameD] at hz
  refine W_seq ?_
  refine W_reg ?_
  refine WL_c (O_box (v := .agg cx1.toArray) (cs := cx1) hT_0 rfl hS ?_)
  intro b3 w2 hb3 hS
  replace hS : St w noX M [.box b3 cx1 38] w2 := hS
  refine WL_c (O_alloc tz38 hS ?_)
  intro b5 w4 hb5 hS
  replace hS : St w noX M [.box b5 (Zr.zc GFrame) 38, .box b3 cx1 38] w4 := hS
  have zb5 : rep M (Zr.zc GFrame) (Zr.zd : GFrame) := Zr.zr
  refine WL_nil (nm_then ?_)
  refine W_seq ?_
  refine W_drawB (Rd M [.box b3 cx1 38]) (inL [7, 9]) mixed hS fun w6 hS => ?_
  have hG7 := Mm.ext.refl w.heap.size noX M
  have hR8 : Rd M [.box b3 cx1 38] w6 := Rd.of hS hG7 (by simp)
  refine WB_y (i := 0) rfl (by kernel_rfl) rfl (Y_fa fa38_3 rfl) (fun _ => hR8) ?_
  obtain ⟨v9, ev9, hv9⟩ := (GFrame.p3 (rep_root (k := 7) rfl hcx1))
  refine WB_ld (i := 1) rfl (by kernel_rfl) rfl (inL_lt rfl) (by kernel_rfl) (by kernel_rfl) (Y_ld1 v9 ts22 rfl (bvR 0 rfl) ev9) hR8 ?_
  refine WB_y (i := 3) rfl (by kernel_rfl) rfl (Y_fa fa38_4 rfl) (fun _ => hR8) ?_
  obtain ⟨v10, ev10, hv10⟩ := (GFrame.p4 (rep_root (k := 7) rfl hcx1))
  refine WB_ld (i := 4) rfl (by kernel_rfl) rfl (inL_lt rfl) (by kernel_rfl) (by kernel_rfl) (Y_ld1 v10 ts27 rfl (bvR 0 rfl) ev10) hR8 ?_
  replace hS := hS.nilRow 78 3
  replace hS : St w noX M [.row (.slice none 0 0) 78 3, .box b5 (Zr.zc GFrame) 38, .box b3 cx1 38] w6 := hS
  obtain ⟨l14, hr13, hz⟩ := bind_ok hz
  obtain ⟨hy13, hs13⟩ := app_some hr13
  refine WB_one (i := 2) (by kernel_rfl) rfl (O_app (α := GOp) (j := 0) tp22 hS rfl rfl rfl (repL_nil _) hv9 hy13 ?_)
  intro v13 M13 w11 hx13 hv13 hS
  rw [← hs13] at hv13
  clear hr13 hs13
  replace hcx1 := Rep.mono hx13.1 hcx1
  replace zb5 := Rep.mono hx13.1 zb5
  replace hv9 := repL.mono hx13.1 hv9
  replace hv10 := repL.mono hx13.1 hv10
  replace hE := Mm.ext.trans hE hx13
  replace hG7 := Mm.ext.trans hG7 hx13
  replace hS : St w noX M13 [.row v13 78 3, .box b5 (Zr.zc GFrame) 38, .box b3 cx1 38] w11 := hS
  have hR15 : Rd M [.box b3 cx1 38] w11 := Rd.of hS hG7 (by simp)
  refine ⟨fun _ => hR15, ?_⟩
  refine WB_y (i := 6) rfl (by kernel_rfl) rfl (Y_fa fa38_3 rfl) (fun _ => hR15) ?_
  replace hS := hS.nilRow 3 1
  replace hS : St w noX M13 [.row (.slice none 0 0) 3 1, .row v13 78 3, .box b5 (Zr.zc GFrame) 38, .box b3 cx1 38] w11 := hS
  obtain ⟨l19, hr18, hz⟩ := bind_ok hz
  obtain ⟨hy18, hs18⟩ := app_some hr18
  refine WB_one (i := 5) (by kernel_rfl) rfl (O_app (α := Int) (j := 0) tp27 hS rfl rfl rfl (repL_nil _) hv10 hy18 ?_)
  intro v18 M18 w16 hx18 hv18 hS
  rw [← hs18] at hv18
  clear hr18 hs18
  replace hcx1 := Rep.mono hx18.1 hcx1
  replace zb5 := Rep.mono hx18.1 zb5
  replace hv9 := repL.mono hx18.1 hv9
  replace hv10 := repL.mono hx18.1 hv10
  replace hv13 := repL.mono hx18.1 hv13
  replace hE := Mm.ext.trans hE hx18
  replace hG7 := Mm.ext.trans hG7 hx18
  replace hS : St w noX M18 [.row v18 3 1, .row v13 78 3, .box b5 (Zr.zc GFrame) 38, .box b3 cx1 38] w16 := hS
  have hR20 : Rd M [.box b3 cx1 38] w16 := Rd.of hS hG7 (by simp)
  refine ⟨fun _ => hR20, ?_⟩
  have hw22 : ([v13] : List Value).length = 1 := Rep.len (repL_rep hv13)
  have hl22 : (cx1).length = 7 := Rep.len hcx1
  obtain ⟨d23, hd22, hz⟩ := bind_ok hz
  have hb22 : rep M18 (pt cx1 (0 + 3) [v13]) d23 := rep_eq (rep_whole (k := 7) (by rw [pt_length (by omega)]; exact hl22) (GFrame.s3 (rep_root (k := 7) rfl hcx1) (rep_leaf rfl (repL_rep hv13) (by omega)) (by omega) (by omega) (by omega))) hd22
  generalize hg22 : (pt cx1 (0 + 3) [v13]) = cs22 at hb22
  refine WB_one (i := 7) (by kernel_rfl) rfl (O_st (j := 3) (v := v13) (ws := [v13]) hS rfl (by kernel_rfl) rfl rfl (repL_cells hv13) hw22 (Rep.one (repL_rep hv13)) (by omega) ?_)
  rw [hg22]
  clear hg22
  intro w21 hS
  replace hS : St w noX M18 [.row v18 3 1, .row v13 78 3, .box b5 (Zr.zc GFrame) 38, .box b3 cs22 38] w21 := hS
  refine ⟨fun h => Bool.noConfusion (show false = true from h), ?_⟩
  refine WB_y (i := 8) rfl (by kernel_rfl) rfl (Y_fa fa38_4 rfl) (fun h => Bool.noConfusion (show false = true from h)) ?_
  have hw25 : ([v18] : List Value).length = 1 := Rep.len (repL_rep hv18)
  have hl25 : (cs22).length = 7 := Rep.len hb22
  obtain ⟨d26, hd25, hz⟩ := bind_ok hz
  have hb25 : rep M18 (pt cs22 (0 + 4) [v18]) d26 := rep_eq (rep_whole (k := 7) (by rw [pt_length (by omega)]; exact hl25) (GFrame.s4 (rep_root (k := 7) rfl hb22) (rep_leaf rfl (repL_rep hv18) (by omega)) (by omega) (by omega) (by omega))) hd25
  generalize hg25 : (pt cs22 (0 + 4) [v18]) = cs25 at hb25
  refine WB_one (i := 9) (by kernel_rfl) rfl (O_st (j := 3) (v := v18) (ws := [v18]) hS rfl (by kernel_rfl) rfl rfl (repL_cells hv18) hw25 (Rep.one (repL_rep hv18)) (by omega) ?_)
  rw [hg25]
  clear hg25
  intro w24 hS
  replace hS : St w noX M18 [.row v18 3 1, .row v13 78 3, .box b5 (Zr.zc GFrame) 38, .box b3 cs25 38] w24 := hS
  refine ⟨fun h => Bool.noConfusion (show false = true from h), ?_⟩
  refine WB_done (by kernel_rfl) (nm_then ?_)
  refine W_seq ?_
  refine W_drawB (Rd M18 [.box b3 cs25 38]) (inL [7, 9]) mixed hS fun w27 hS => ?_
  have hG28 := Mm.ext.refl w.heap.size noX M18
  have hR29 : Rd M18 [.box b3 cs25 38] w27 := Rd.of hS hG28 (by simp)
  refine WB_y (i := 0) rfl (by kernel_rfl) rfl (Y_fa fa38_5 rfl) (fun _ => hR29) ?_
  obtain ⟨v30, ev30, hv30⟩ := (GFrame.p5 (rep_root (k := 7) rfl hb25))
  refine WB_ld (i := 1) rfl (by kernel_rfl) rfl (inL_lt rfl) (by kernel_rfl) (by kernel_rfl) (Y_ld1 v30 ts27 rfl (bvR 0 rfl) ev30) hR29 ?_
  refine WB_y (i := 3) rfl (by kernel_rfl) rfl (Y_fa fa38_6 rfl) (fun _ => hR29) ?_
  obtain ⟨v31, ev31, hv31⟩ := (GFrame.p6 (rep_root (k := 7) rfl hb25))
  refine WB_ld (i := 4) rfl (by kernel_rfl) rfl (inL_lt rfl) (by kernel_rfl) (by kernel_rfl) (Y_ld1 v31 ts27 rfl (bvR 0 rfl) ev31) hR29 ?_
  replace hS := hS.nilRow 3 1
  replace hS : St w noX M18 [.row (.slice none 0 0) 3 1, .row v18 3 1, .row v13 78 3, .box b5 (Zr.zc GFrame) 38, .box b3 cs25 38] w27 := hS
  obtain ⟨l35, hr34, hz⟩ := bind_ok hz
  obtain ⟨hy34, hs34⟩ := app_some hr34
  refine WB_one (i := 2) (by kernel_rfl) rfl (O_app (α := Int) (j := 0) tp27 hS rfl rfl rfl (repL_nil _) hv30 hy34 ?_)
  intro v34 M34 w32 hx34 hv34 hS
  rw [← hs34] at hv34
  clear hr34 hs34
  replace zb5 := Rep.mono hx34.1 zb5
  replace hb25 := Rep.mono hx34.1 hb25
  replace hv30 := repL.mono hx34.1 hv30
  replace hv31 := repL.mono hx34.1 hv31
  replace hE := Mm.ext.trans hE hx34
  replace hG28 := Mm.ext.trans hG28 hx34
  replace hS : St w noX M34 [.row v34 3 1, .row v18 3 1, .row v13 78 3, .box b5 (Zr.zc GFrame) 38, .box b3 cs25 38] w32 := hS
  have hR36 : Rd M18 [.box b3 cs25 38] w32 := Rd.of hS hG28 (by simp)
  refine ⟨fun _ => hR36, ?_⟩
  refine WB_y (i := 6) rfl (by kernel_rfl) rfl (Y_fa fa38_5 rfl) (fun _ => hR36) ?_
  replace hS := hS.nilRow 3 1
  replace hS : St w noX M34 [.row (.slice none 0 0) 3 1, .row v34 3 1, .row v18 3 1, .row v13 78 3, .box b5 (Zr.zc GFrame) 38, .box b3 cs25 38] w32 := hS
  obtain ⟨l40, hr39, hz⟩ := bind_ok hz
  obtain ⟨hy39, hs39⟩ := app_some hr39
  refine WB_one (i := 5) (by kernel_rfl) rfl (O_app (α := Int) (j := 0) tp27 hS rfl rfl rfl (repL_nil _) hv31 hy39 ?_)
  intro v39 M39 w37 hx39 hv39 hS
  rw [← hs39] at hv39
  clear hr39 hs39
  replace zb5 := Rep.mono hx39.1 zb5
  replace hb25 := Rep.mono hx39.1 hb25
  replace hv30 := repL.mono hx39.1 hv30
  replace hv31 := repL.mono hx39.1 hv31
  replace hv34 := repL.mono hx39.1 hv34
  replace hE := Mm.ext.trans hE hx39
  replace hG28 := Mm.ext.trans hG28 hx39
  replace hS : St w noX M39 [.row v39 3 1, .row v34 3 1, .row v18 3 1, .row v13 78 3, .box b5 (Zr.zc GFrame) 38, .box b3 cs25 38] w37 := hS
  have hR41 : Rd M18 [.box b3 cs25 38] w37 := Rd.of hS hG28 (by simp)
  refine ⟨fun _ => hR41, ?_⟩
  have hw43 : ([v34] : List Value).length = 1 := Rep.len (repL_rep hv34)
  have hl43 : (cs25).length = 7 := Rep.len hb25
  obtain ⟨d44, hd43, hz⟩ := bind_ok hz
  have hb43 : rep M39 (pt cs25 (0 + 5) [v34]) d44 := rep_eq (rep_whole (k := 7) (by rw [pt_length (by omega)]; exact hl43) (GFrame.s5 (rep_root (k := 7) rfl hb25) (rep_leaf rfl (repL_rep hv34) (by omega)) (by omega) (by omega) (by omega))) hd43
  generalize hg43 : (pt cs25 (0 + 5) [v34]) = cs43 at hb43
  refine WB_one (i := 7) (by kernel_rfl) rfl (O_st (j := 5) (v := v34) (ws := [v34]) hS rfl (by kernel_rfl) rfl rfl (repL_cells hv34) hw43 (Rep.one (repL_rep hv34)) (by omega) ?_)
  rw [hg43]
  clear hg43
  intro w42 hS
  replace hS : St w noX M39 [.row v39 3 1, .row v34 3 1, .row v18 3 1, .row v13 78 3, .box b5 (Zr.zc GFrame) 38, .box b3 cs43 38] w42 := hS
  refine ⟨fun h => Bool.noConfusion (show false = true from h), ?_⟩
  refine WB_y (i := 8) rfl (by kernel_rfl) rfl (Y_fa fa38_6 rfl) (fun h => Bool.noConfusion (show false = true from h)) ?_
  have hw46 : ([v39] : List Value).length = 1 := Rep.len (repL_rep hv39)
  have hl46 : (cs43).length = 7 := Rep.len hb43
  obtain ⟨d47, hd46, hz⟩ := bind_ok hz
  have hb46 : rep M39 (pt cs43 (0 + 6) [v39]) d47 := rep_eq (rep_whole (k := 7) (by rw [pt_length (by omega)]; exact hl46) (GFrame.s6 (rep_root (k := 7) rfl hb43) (rep_leaf rfl (repL_rep hv39) (by omega)) (by omega) (by omega) (by omega))) hd46
  generalize hg46 : (pt cs43 (0 + 6) [v39]) = cs46 at hb46
  refine WB_one (i := 9) (by kernel_rfl) rfl (O_st (j := 5) (v := v39) (ws := [v39]) hS rfl (by kernel_rfl) rfl rfl (repL_cells hv39) hw46 (Rep.one (repL_rep hv39)) (by omega) ?_)
  rw [hg46]
  clear hg46
  intro w45 hS
  replace hS : St w noX M39 [.row v39 3 1, .row v34 3 1, .row v18 3 1, .row v13 78 3, .box b5 (Zr.zc GFrame) 38, .box b3 cs46 38] w45 := hS
  refine ⟨fun h => Bool.noConfusion (show false = true from h), ?_⟩
  refine WB_done (by kernel_rfl) (nm_then ?_)
  refine W_seq ?_
  refine W_reg ?_
  have ha48 := (rep_root (k := 7) rfl hb46)
  refine WL_y (Y_ldn ta38 rfl (hS.bvB 5 rfl) (Rep.len ha48)) ?_
  have hw50 : ((sl cs46 (0) 7) : List Value).length = 7 := Rep.len ha48
  have hl50 : ((Zr.zc GFrame)).length = 7 := Rep.len zb5
  obtain ⟨d51, hd50, hz⟩ := bind_ok hz
  have hb50 : rep M39 (pt (Zr.zc GFrame) (0) (sl cs46 (0) 7)) d51 := rep_eq (rep_whole (k := 7) (by rw [pt_length (by omega)]; exact hl50) (rep_leaf rfl ha48 (by omega))) hd50
  generalize hg50 : (pt (Zr.zc GFrame) (0) (sl cs46 (0) 7)) = cs50 at hb50
  refine WL_c (O_st (j := 4) (v := .agg (sl cs46 (0) 7).toArray) (ws := (sl cs46 (0) 7)) hS rfl (by kernel_rfl) rfl rfl rfl hw50 (Rep.one ha48) (by omega) ?_)
  rw [hg50]
  clear hg50
  intro w49 hS
  replace hS : St w noX M39 [.row v39 3 1, .row v34 3 1, .row v18 3 1, .row v13 78 3, .box b5 cs50 38, .box b3 cs46 38] w49 := hS
  refine WL_nil (nm_then ?_)
  cases hz
  exact W_ret (R_c (j := 4) rfl rfl (by rw [Rep.len hb50]; exact ta38) hS rfl (Gives.mk (St.dropB (St.dropB (St.drop (St.drop (St.drop (St.drop hS)))) hb5) hb3) hE ⟨_, rfl, hb50⟩))

end Go.Proofs.Ytopgdemmdcipcaa
