/- What functions compute, and that they do. (Written by dc.py.) -/
import Derived.Test.YtnfdgjdnlikepaaPy
namespace Go.Proofs.Ytnfdgjdnlikepaa
open Go.RowKit
open Rep (rep)
set_option linter.unusedVariables false

def number_l1 (x3 : Int) : Nat → (List Byt) → Int → Option (List Byt)
  | 0, _, _ => none
  | n + 1, l7, y9 =>
    (bif decide (y9 ≥ 0) then
    (nonneg (IntKind.wrap .u64 (8 * (IntKind.wrap .u64 y9)))).bind fun _ =>
    (app l7 ([⟨IntKind.wrap .u8 (Int.fdiv (IntKind.wrap .i64 (x3 + 140737488355328)) (2 ^ (min (Int.toNat (IntKind.wrap .u64 (8 * (IntKind.wrap .u64 y9)))) (IntKind.bits .i64))))⟩] : List Byt)).bind fun l20 =>
    (number_l1 x3 n) l20 (IntKind.wrap .i64 (y9 - 1))
    else
    some l7)

def numberD (fu : Nat) (x1 : List Byt) (x3 : Int) : Option (List Byt) :=
    number_l1 x3 fu x1 5

set_option maxRecDepth 100000 in
set_option maxHeartbeats 4000000 in
theorem number_ok {M : Mm} {w : World} {vx1 : Value} {x1 : List Byt} {x3 : Int} {fu : Nat} {r : (List Byt)} (hS : St w (lentX [.row vx1 5 1]) M [.row vx1 5 1] w) (hvx1 : repL M vx1 x1) (hz : numberD fu x1 x3 = some r) :
    Calls Try.prog 77 #[vx1, .int .i64 x3] w (GivesL M w [.row vx1 5 1] (fun M' u L' => ∃ v0, u = v0 ∧ L' = [.row v0 5 1] ∧ repL M' v0 r)) := by
  refine calls_W Try.func77 rfl 22 rfl rfl (by kernel_rfl) fun T hT => ?_
  have hT_0 : T 0 = vx1 := hT 0
  have hT_1 : T 1 = .int .i64 x3 := hT 1
  clear hT
  have hE := Mm.ext.refl w.heap.size (lentX [.row vx1 5 1]) M
  rw [numberD] at hz
  refine W_seq ?_
  refine W_reg ?_
  refine WL_y (Y_assign ((.slice none 0 0)) rfl) ?_
  refine WL_nil (nm_then ?_)
  refine W_seq ?_
  refine W_reg ?_
  refine WL_y (Y_move (.int .i64 x3) hT_1) ?_
  refine WL_y (Y_add rfl rfl) ?_
  refine WL_y (Y_assign (.int .i64 (IntKind.wrap .i64 (x3 + 140737488355328))) rfl) ?_
  refine WL_nil (nm_then ?_)
  refine W_seq ?_
  refine W_seq ?_
  refine W_reg ?_
  refine WL_y (Y_assign (.int .i64 5) rfl) ?_
  refine WL_nil (nm_then ?_)
  refine W_block ?_
  refine W_loop (fun k11 T' w' => ∃ M5 v8 l7 y9, Mm.ext w.heap.size (lentX [.row vx1 5 1]) M M5 ∧ St w (lentX [.row vx1 5 1]) M5 [.row v8 5 1] w' ∧ repL M5 v8 l7 ∧ T' 0 = v8 ∧ T' 1 = .int .i64 (IntKind.wrap .i64 (x3 + 140737488355328)) ∧ T' 5 = .int .i64 y9 ∧ number_l1 x3 k11 l7 y9 = some r) fu ?_ ?_ ?_
  · exact ⟨M, vx1, x1, (5 : Int), (Mm.ext.refl _ _ _), hS, hvx1, hT_0, rfl, rfl, hz⟩
  · rintro T' w' ⟨_, _, _, _, _, _, _, _, _, _, hz⟩
    rw [number_l1] at hz
    cases hz
  · intro k11
    rintro T6 w4 ⟨M5, v8, l7, y9, hx13, hS, hv8, hT6_0, hT6_1, hT6_5, hz⟩
    replace hE := Mm.ext.trans hE hx13
    have hF12 := hx13
    rw [number_l1] at hz
    obtain ⟨rec10, hrec10⟩ : ∃ f, f = number_l1 x3 k11 := ⟨_, rfl⟩
    rw [← hrec10] at hz
    refine W_seq ?_
    refine W_seq ?_
    refine W_reg ?_
    refine WL_y (Y_move (.int .i64 y9) hT6_5) ?_
    refine WL_y (Y_geq rfl rfl) ?_
    refine WL_nil (nm_then ?_)
    refine W_cond rfl (fun hc14 => ?_) (fun hc14 => ?_)
    · replace hz := bif_ok_t hz hc14
      refine W_skip (nm_then ?_)
      refine W_seq ?_
      refine W_block ?_
      refine W_reg ?_
      refine WL_y (Y_move (v8) hT6_0) ?_
      refine WL_y (Y_move (.int .i64 (IntKind.wrap .i64 (x3 + 140737488355328))) hT6_1) ?_
      refine WL_y (Y_move (.int .i64 y9) hT6_5) ?_
      refine WL_y (Y_conv ⟨_, Try.underlying3⟩ Try.underlying99 rfl) ?_
      refine WL_y (Y_mul rfl rfl) ?_
      obtain ⟨_, hx15, hz⟩ := bind_ok hz
      have hx15 := nonneg_some hx15
      refine WL_y (Y_shr rfl rfl hx15) ?_
      refine WL_y (Y_conv ⟨_, Try.underlying3⟩ Try.underlying5 rfl) ?_
      refine WL_c (O_bslice (α := Byt) (l := ([⟨IntKind.wrap .u8 (Int.fdiv (IntKind.wrap .i64 (x3 + 140737488355328)) (2 ^ (min (Int.toNat (IntKind.wrap .u64 (8 * (IntKind.wrap .u64 y9)))) (IntKind.bits .i64))))⟩] : List Byt)) [.int .u8 (IntKind.wrap .u8 (Int.fdiv (IntKind.wrap .i64 (x3 + 140737488355328)) (2 ^ (min (Int.toNat (IntKind.wrap .u64 (8 * (IntKind.wrap .u64 y9)))) (IntKind.bits .i64)))))] tl100 (bpc rfl bp0) rfl rfl (by decide) (by decide) (by decide) hS (brc (show rep M5 [Value.int .u8 (IntKind.wrap .u8 (Int.fdiv (IntKind.wrap .i64 (x3 + 140737488355328)) (2 ^ (min (Int.toNat (IntKind.wrap .u64 (8 * (IntKind.wrap .u64 y9)))) (IntKind.bits .i64)))))] (⟨IntKind.wrap .u8 (Int.fdiv (IntKind.wrap .i64 (x3 + 140737488355328)) (2 ^ (min (Int.toNat (IntKind.wrap .u64 (8 * (IntKind.wrap .u64 y9)))) (IntKind.bits .i64))))⟩ : Byt) from rfl) br0) ?_)
      intro v17 M17 w16 hx17 hv17 hS
      replace hv8 := repL.mono hx17.1 hv8
      replace hE := Mm.ext.trans hE hx17
      replace hF12 := Mm.ext.trans hF12 hx17
      obtain ⟨l20, hr19, hz⟩ := bind_ok hz
      obtain ⟨hy19, hr19⟩ := app_some hr19
      refine WL_c (O_app (α := Byt) (j := 0) tp100 hS rfl rfl rfl hv8 hv17 hy19 ?_)
      intro v19 M19 w18 hx19 hv19 hS
      rw [← hr19] at hv19
      clear hr19
      replace hv8 := repL.mono hx19.1 hv8
      replace hv17 := repL.mono hx19.1 hv17
      replace hE := Mm.ext.trans hE hx19
      replace hF12 := Mm.ext.trans hF12 hx19
      replace hS : St w (lentX [.row vx1 5 1]) M19 [.row v19 5 1] w18 := hS
      refine WL_y (Y_assign (v19) rfl) ?_
      refine WL_nil (nm_blk ?_)
      refine (nm_then ?_)
      refine W_reg ?_
      refine WL_y (Y_move (.int .i64 y9) hT6_5) ?_
      refine WL_y (Y_sub rfl rfl) ?_
      refine WL_y (Y_assign (.int .i64 (IntKind.wrap .i64 (y9 - 1))) rfl) ?_
      refine WL_nil (nm_then ?_)
      exact ⟨M19, v19, l20, (IntKind.wrap .i64 (y9 - 1)), hF12, hS, hv19, rfl, hT6_1, rfl, (by rw [← hrec10]; exact hz)⟩
    · replace hz := bif_ok_f hz hc14
      refine W_exit ?_
      refine ex_then ?_
      refine ex_then ?_
      refine ex_hit ?_
      refine (nm_then ?_)
      refine W_seq ?_
      refine W_reg ?_
      refine WL_y (Y_move (v8) hT6_0) ?_
      refine WL_y (Y_assign (v8) rfl) ?_
      refine WL_nil (nm_then ?_)
      cases hz
      exact W_ret (R_t1 rfl rfl ⟨_, M5, _, rfl, hE, (hS.sel (H' := [.row v8 5 1]) [0] (by decide) rfl), v8, rfl, rfl, hv8⟩)

def sixBytes_l1 : Nat → Int → ByteArray → Int → Option ByteArray
  | 0, _, _, _ => none
  | n + 1, y5, s6, y7 =>
    (bif decide (y7 < 6) then
    (some (strOfNums [(Int.tmod y5 256) % 256])).bind fun r15 =>
    (cat r15 s6).bind fun s16 =>
    (sixBytes_l1 n) (IntKind.wrap .i64 (Int.tdiv y5 256)) s16 (IntKind.wrap .i64 (y7 + 1))
    else
    some s6)

def sixBytesD (fu : Nat) (x1 : Int) : Option ByteArray :=
    sixBytes_l1 fu (IntKind.wrap .i64 (x1 + 140737488355328)) (⟨#[]⟩ : ByteArray) 0

set_option maxRecDepth 100000 in
set_option maxHeartbeats 4000000 in
theorem sixBytes_ok {M : Mm} {w : World} {x1 : Int} {fu : Nat} {r : ByteArray} (hA : Agree M w)  (hz : sixBytesD fu x1 = some r) :
    Calls Try.prog 78 #[.int .i64 x1] w (GivesV w (.string r)) := by
  refine calls_W Try.func78 rfl 17 rfl rfl (by kernel_rfl) fun T hT => ?_
  have hT_0 : T 0 = .int .i64 x1 := hT 0
  clear hT
  have hE := Mm.ext.refl w.heap.size noX M
  have hS : St w noX M [] w := St.start hA
  rw [sixBytesD] at hz
  refine W_seq ?_
  refine W_reg ?_
  refine WL_y (Y_assign (.string (⟨#[]⟩ : ByteArray)) rfl) ?_
  refine WL_nil (nm_then ?_)
  refine W_seq ?_
  refine W_reg ?_
  refine WL_y (Y_move (.int .i64 x1) hT_0) ?_
  refine WL_y (Y_add rfl rfl) ?_
  refine WL_y (Y_assign (.int .i64 (IntKind.wrap .i64 (x1 + 140737488355328))) rfl) ?_
  refine WL_nil (nm_then ?_)
  refine W_seq ?_
  refine W_reg ?_
  refine WL_y (Y_assign (.string (⟨#[]⟩ : ByteArray)) rfl) ?_
  refine WL_nil (nm_then ?_)
  refine W_seq ?_
  refine W_seq ?_
  refine W_reg ?_
  refine WL_y (Y_move (.int .i64 0) rfl) ?_
  refine WL_nil (nm_then ?_)
  refine W_block ?_
  refine W_loop (fun k9 T' w' => ∃ M3 y5 s6 y7, Mm.ext w.heap.size noX M M3 ∧ St w noX M3 [] w' ∧ T' 0 = .int .i64 y5 ∧ T' 3 = .string s6 ∧ T' 6 = .int .i64 y7 ∧ sixBytes_l1 k9 y5 s6 y7 = some r) fu ?_ ?_ ?_
  · exact ⟨M, (IntKind.wrap .i64 (x1 + 140737488355328)), (⟨#[]⟩ : ByteArray), (0 : Int), (Mm.ext.refl _ _ _), hS, rfl, rfl, rfl, hz⟩
  · rintro T' w' ⟨_, _, _, _, _, _, _, _, _, hz⟩
    rw [sixBytes_l1] at hz
    cases hz
  · intro k9
    rintro T4 w2 ⟨M3, y5, s6, y7, hx11, hS, hT4_0, hT4_3, hT4_6, hz⟩
    replace hE := Mm.ext.trans hE hx11
    have hF10 := hx11
    rw [sixBytes_l1] at hz
    obtain ⟨rec8, hrec8⟩ : ∃ f, f = sixBytes_l1 k9 := ⟨_, rfl⟩
    rw [← hrec8] at hz
    refine W_seq ?_
    refine W_reg ?_
    refine WL_y (Y_lss hT4_6 rfl) ?_
    refine WL_nil (nm_then ?_)
    refine W_seq ?_
    refine W_cond rfl (fun hc12 => ?_) (fun hc12 => ?_)
    · replace hz := bif_ok_t hz hc12
      refine W_skip (nm_then ?_)
      refine W_seq ?_
      refine W_block ?_
      refine W_seq ?_
      refine W_reg ?_
      refine WL_y (Y_move (.int .i64 y5) hT4_0) ?_
      refine WL_y (Y_rem rfl rfl (by decide)) ?_
      obtain ⟨r15, hr14, hz⟩ := bind_ok hz
      replace hr14 := Option.some.inj hr14
      refine WL_c (O_val (vs := [.int .i64 (Int.tmod y5 256)]) (v := .string r15) cb73 (args1 rfl) hS (hr14 ▸ (c_byteOf)) ?_)
      intro w13 hS
      refine WL_y (Y_move (.string s6) hT4_3) ?_
      obtain ⟨s16, hx17, hz⟩ := bind_ok hz
      obtain ⟨hx17a, hx17⟩ := cat_some hx17
      refine WL_y ((hx17 ▸ Y_cat rfl rfl hx17a)) ?_
      refine WL_y (Y_assign (.string s16) rfl) ?_
      refine WL_nil (nm_then ?_)
      refine W_reg ?_
      refine WL_y (Y_move (.int .i64 y5) hT4_0) ?_
      refine WL_y (Y_quo rfl rfl (by decide)) ?_
      refine WL_y (Y_assign (.int .i64 (IntKind.wrap .i64 (Int.tdiv y5 256))) rfl) ?_
      refine WL_nil (nm_blk ?_)
      refine (nm_then ?_)
      refine W_reg ?_
      refine WL_y (Y_add hT4_6 rfl) ?_
      refine WL_y (Y_move (.int .i64 (IntKind.wrap .i64 (y7 + 1))) rfl) ?_
      refine WL_nil (nm_then ?_)
      exact ⟨M3, (IntKind.wrap .i64 (Int.tdiv y5 256)), s16, (IntKind.wrap .i64 (y7 + 1)), hF10, hS, rfl, rfl, rfl, (by rw [← hrec8]; exact hz)⟩
    · replace hz := bif_ok_f hz hc12
      refine W_exit ?_
      refine ex_then ?_
      refine ex_then ?_
      refine ex_hit ?_
      refine (nm_then ?_)
      refine W_seq ?_
      refine W_reg ?_
      refine WL_y (Y_move (.string s6) hT4_3) ?_
      refine WL_y (Y_assign (.string s6) rfl) ?_
      refine WL_nil (nm_then ?_)
      cases hz
      exact W_ret (R_t1 rfl rfl ⟨rfl, hS.kept⟩)

def encode_l3 (fu : Nat) (x1 : GFrame) : Nat → (List Byt) → Int → Option (ByteArray × Int)
  | 0, _, _ => none
  | n + 1, l88, y90 =>
    (bif decide (y90 < (x1.at_.length : Int)) then
    (idx x1.at_ y90).bind fun x97 =>
    (idx x1.vals y90).bind fun x103 =>
    (app l88 ([⟨IntKind.wrap .u8 x97⟩] : List Byt)).bind fun l109 =>
    (numberD fu l109 x103).bind fun r113 =>
    (encode_l3 fu x1 n) r113 (IntKind.wrap .i64 (y90 + 1))
    else
    some (strOfNums (l88.map Byt.val), 0))

def encode_l2 (fu : Nat) (x1 : GFrame) : Nat → (List Byt) → Int → Option (ByteArray × Int)
  | 0, _, _ => none
  | n + 1, l61, y63 =>
    (bif decide (y63 < (x1.deps.length : Int)) then
    (idx x1.deps y63).bind fun x70 =>
    (app l61 ([⟨IntKind.wrap .u8 x70⟩] : List Byt)).bind fun l75 =>
    (encode_l2 fu x1 n) l75 (IntKind.wrap .i64 (y63 + 1))
    else
    (app l61 ([⟨IntKind.wrap .u8 (x1.at_.length : Int)⟩] : List Byt)).bind fun l82 =>
    encode_l3 fu x1 fu l82 0)

def encode_l1 (fu : Nat) (x1 : GFrame) : Nat → (List Byt) → Int → Option (ByteArray × Int)
  | 0, _, _ => none
  | n + 1, l19, y21 =>
    (bif decide (y21 < (x1.ops.length : Int)) then
    (idx x1.ops y21).bind fun x28 =>
    (some x28).bind fun d34 =>
    (app l19 ([⟨IntKind.wrap .u8 d34.kind⟩, ⟨IntKind.wrap .u8 d34.key⟩] : List Byt)).bind fun l43 =>
    (numberD fu l43 d34.n).bind fun r47 =>
    (encode_l1 fu x1 n) r47 (IntKind.wrap .i64 (y21 + 1))
    else
    (app l19 ([⟨IntKind.wrap .u8 (x1.deps.length : Int)⟩] : List Byt)).bind fun l55 =>
    encode_l2 fu x1 fu l55 0)

def encodeD (fu : Nat) (x1 : GFrame) : Option (ByteArray × Int) :=
    (some (frameZ x1)).bind fun r7 =>
    (bif r7 != 0 then
    some ((⟨#[]⟩ : ByteArray), r7)
    else
    encode_l1 fu x1 fu ([⟨IntKind.wrap .u8 x1.kind⟩, ⟨IntKind.wrap .u8 x1.node⟩, ⟨IntKind.wrap .u8 x1.id⟩, ⟨IntKind.wrap .u8 (x1.ops.length : Int)⟩] : List Byt) 0)

set_option maxRecDepth 100000 in
set_option maxHeartbeats 4000000 in
theorem encode_ok {M : Mm} {w : World} {cx1 : List Value} {x1 : GFrame} {fu : Nat} {r : ByteArray × Int} (hA : Agree M w) (hcx1 : rep M cx1 x1) (hz : encodeD fu x1 = some r) :
    Calls Try.prog 44 #[.agg cx1.toArray] w (GivesV w (.tuple #[.string r.1, .int .i64 r.2])) := by
  refine calls_W Try.func44 rfl 100 rfl rfl (by kernel_rfl) fun T hT => ?_
  have hT_0 : T 0 = .agg cx1.toArray := hT 0
  clear hT
  have hE := Mm.ext.refl w.heap.size noX M
  have hS : St w noX M [] w := St.start hA
  rw [encodeD] at hz
  refine W_seq ?_
  refine W_reg ?_
  refine WL_c (O_box (v := .agg cx1.toArray) (cs := cx1) hT_0 rfl hS ?_)
  intro b3 w2 hb3 hS
  replace hS : St w noX M [.box b3 cx1 50] w2 := hS
  refine WL_y (Y_assign (.string (⟨#[]⟩ : ByteArray)) rfl) ?_
  refine WL_y (Y_assign (.int .i64 0) rfl) ?_
  refine WL_nil (nm_then ?_)
  refine W_seq ?_
  refine W_seq ?_
  refine W_reg ?_
  have ha4 := (rep_root (k := 7) rfl hcx1)
  refine WL_y (Y_ldn ta50 rfl (hS.bvB 0 rfl) (Rep.len ha4)) ?_
  obtain ⟨r7, hr6, hz⟩ := bind_ok hz
  replace hr6 := Option.some.inj hr6
  refine WL_c (O_val (vs := [.agg (sl cx1 (0) 7).toArray]) (v := .int .i64 r7) cb47 (args1 rfl) hS (hr6 ▸ (c_good hS.agree ha4)) ?_)
  intro w5 hS
  refine WL_y (Y_assign (.int .i64 r7) rfl) ?_
  refine WL_nil (nm_then ?_)
  refine W_seq ?_
  refine W_reg ?_
  refine WL_y (Y_move (.int .i64 r7) rfl) ?_
  refine WL_y (Y_neq rfl rfl) ?_
  refine WL_nil (nm_then ?_)
  refine W_cond rfl (fun hc8 => ?_) (fun hc8 => ?_)
  · replace hz := bif_ok_t hz hc8
    refine W_seq ?_
    refine W_reg ?_
    refine WL_y (Y_move (.int .i64 r7) rfl) ?_
    refine WL_y (Y_assign (.string (⟨#[]⟩ : ByteArray)) rfl) ?_
    refine WL_y (Y_assign (.int .i64 r7) rfl) ?_
    refine WL_nil (nm_then ?_)
    cases hz
    exact W_ret (rt_then (R_t2 rfl rfl rfl ⟨rfl, (St.dropB hS hb3).kept⟩))
  · replace hz := bif_ok_f hz hc8
    refine W_skip (nm_then ?_)
    refine W_seq ?_
    refine W_reg ?_
    refine WL_y (Y_fa fa50_0 rfl) ?_
    refine WL_y (Y_ld1 (.int .i64 x1.kind) ts3 rfl (hS.bvB 0 rfl) (GFrame.p0 (rep_root (k := 7) rfl hcx1))) ?_
    refine WL_y (Y_conv ⟨_, Try.underlying3⟩ Try.underlying5 rfl) ?_
    refine WL_y (Y_fa fa50_1 rfl) ?_
    refine WL_y (Y_ld1 (.int .i64 x1.node) ts3 rfl (hS.bvB 0 rfl) (GFrame.p1 (rep_root (k := 7) rfl hcx1))) ?_
    refine WL_y (Y_conv ⟨_, Try.underlying3⟩ Try.underlying5 rfl) ?_
    refine WL_y (Y_fa fa50_2 rfl) ?_
    refine WL_y (Y_ld1 (.int .i64 x1.id) ts3 rfl (hS.bvB 0 rfl) (GFrame.p2 (rep_root (k := 7) rfl hcx1))) ?_
    refine WL_y (Y_conv ⟨_, Try.underlying3⟩ Try.underlying5 rfl) ?_
    refine WL_y (Y_fa fa50_3 rfl) ?_
    obtain ⟨v9, ev9, hv9⟩ := (GFrame.p3 (rep_root (k := 7) rfl hcx1))
    refine WL_y (Y_ld1 v9 ts40 rfl (hS.bvB 0 rfl) ev9) ?_
    obtain ⟨a10, c10, hv10, _⟩ := repL_shape hv9
    refine WL_y (Y_lenL Try.underlying40 (tr2 hv10 rfl)) ?_
    refine WL_y (Y_conv ⟨_, Try.underlying3⟩ Try.underlying5 rfl) ?_
    refine WL_c (O_bsliceR (α := Byt) (l := ([⟨IntKind.wrap .u8 x1.kind⟩, ⟨IntKind.wrap .u8 x1.node⟩, ⟨IntKind.wrap .u8 x1.id⟩, ⟨IntKind.wrap .u8 (x1.ops.length : Int)⟩] : List Byt)) [.int .u8 (IntKind.wrap .u8 x1.kind), .int .u8 (IntKind.wrap .u8 x1.node), .int .u8 (IntKind.wrap .u8 x1.id), .int .u8 (IntKind.wrap .u8 (x1.ops.length : Int))] tp100 (bpc rfl (bpc rfl (bpc rfl (bpc rfl bp0)))) rfl rfl (by decide) (by decide) (by decide) hS (brc (show rep M [Value.int .u8 (IntKind.wrap .u8 x1.kind)] (⟨IntKind.wrap .u8 x1.kind⟩ : Byt) from rfl) (brc (show rep M [Value.int .u8 (IntKind.wrap .u8 x1.node)] (⟨IntKind.wrap .u8 x1.node⟩ : Byt) from rfl) (brc (show rep M [Value.int .u8 (IntKind.wrap .u8 x1.id)] (⟨IntKind.wrap .u8 x1.id⟩ : Byt) from rfl) (brc (show rep M [Value.int .u8 (IntKind.wrap .u8 (x1.ops.length : Int))] (⟨IntKind.wrap .u8 (x1.ops.length : Int)⟩ : Byt) from rfl) br0)))) ?_)
    intro v12 M12 w11 hx12 hv12 hS
    replace hcx1 := Rep.mono hx12.1 hcx1
    replace hv9 := repL.mono hx12.1 hv9
    replace hE := Mm.ext.trans hE hx12
    replace hS : St w noX M12 [.row v12 5 1, .box b3 cx1 50] w11 := hS
    refine WL_y (Y_assign (v12) rfl) ?_
    refine WL_nil (nm_then ?_)
    refine W_seq ?_
    refine W_seq ?_
    refine W_reg ?_
    refine WL_y (Y_fa fa50_3 rfl) ?_
    obtain ⟨v14, ev14, hv14⟩ := (GFrame.p3 (rep_root (k := 7) rfl hcx1))
    refine WL_y (Y_ld1 v14 ts40 rfl (hS.bvB 1 rfl) ev14) ?_
    obtain ⟨a15, c15, hv15, _⟩ := repL_shape hv14
    refine WL_y (Y_lenL Try.underlying40 (tr2 hv15 rfl)) ?_
    refine WL_y (Y_move (.int .i64 0) rfl) ?_
    refine WL_nil (nm_then ?_)
    refine W_block ?_
    refine W_loop (fun k23 T' w' => ∃ M17 v20 l19 y21, Mm.ext w.heap.size noX M12 M17 ∧ St w noX M17 [.row v20 5 1, .box b3 cx1 50] w' ∧ repL M17 v20 l19 ∧ T' 1 = .pointer (some ⟨b3, 0, none⟩) ∧ T' 5 = v20 ∧ T' 32 = v14 ∧ T' 33 = .int .i64 (x1.ops.length : Int) ∧ T' 34 = .int .i64 y21 ∧ encode_l1 fu x1 k23 l19 y21 = some r) fu ?_ ?_ ?_
    · exact ⟨M12, v12, ([⟨IntKind.wrap .u8 x1.kind⟩, ⟨IntKind.wrap .u8 x1.node⟩, ⟨IntKind.wrap .u8 x1.id⟩, ⟨IntKind.wrap .u8 (x1.ops.length : Int)⟩] : List Byt), (0 : Int), (Mm.ext.refl _ _ _), hS, hv12, rfl, rfl, rfl, rfl, rfl, hz⟩
    · rintro T' w' ⟨_, _, _, _, _, _, _, _, _, _, _, _, hz⟩
      rw [encode_l1] at hz
      cases hz
    · intro k23
      rintro T18 w16 ⟨M17, v20, l19, y21, hx25, hS, hv20, hT18_1, hT18_5, hT18_32, hT18_33, hT18_34, hz⟩
      replace hcx1 := Rep.mono hx25.1 hcx1
      replace hv14 := repL.mono hx25.1 hv14
      replace hE := Mm.ext.trans hE hx25
      have hF24 := hx25
      rw [encode_l1] at hz
      obtain ⟨rec22, hrec22⟩ : ∃ f, f = encode_l1 fu x1 k23 := ⟨_, rfl⟩
      rw [← hrec22] at hz
      refine W_seq ?_
      refine W_reg ?_
      refine WL_y (Y_lss hT18_34 hT18_33) ?_
      refine WL_nil (nm_then ?_)
      refine W_seq ?_
      refine W_cond rfl (fun hc26 => ?_) (fun hc26 => ?_)
      · replace hz := bif_ok_t hz hc26
        refine W_skip (nm_then ?_)
        refine W_seq ?_
        refine W_block ?_
        refine W_seq ?_
        refine W_reg ?_
        obtain ⟨x28, hx27, hz⟩ := bind_ok hz
        obtain ⟨b27, o27, c27, p27, hv27, hi27, hj27, hM27, hr27⟩ := repL_at hv14 hx27
        replace hr27 : rep _ (sl p27 (o27 + Int.toNat y21 * 3) 3) x28 := hr27
        refine WL_y (Y_ixL il40 hT18_32 hv27 hT18_34 hi27 hj27) ?_
        have ha29 := hr27
        refine WL_y (Y_ldn ta46 rfl (hS.bvM hM27) (Rep.len ha29)) ?_
        refine WL_c (O_alloc tz46 hS ?_)
        intro b31 w30 hb31 hS
        replace hS : St w noX M17 [.box b31 (Zr.zc GOp) 46, .row v20 5 1, .box b3 cx1 50] w30 := hS
        have zb31 : rep M17 (Zr.zc GOp) (Zr.zd : GOp) := Zr.zr
        have hw33 : ((sl p27 (o27 + Int.toNat y21 * 3) 3) : List Value).length = 3 := Rep.len ha29
        have hl33 : ((Zr.zc GOp)).length = 3 := Rep.len zb31
        obtain ⟨d34, hd33, hz⟩ := bind_ok hz
        have hb33 : rep M17 (pt (Zr.zc GOp) (0) (sl p27 (o27 + Int.toNat y21 * 3) 3)) d34 := rep_eq (rep_whole (k := 3) (by rw [pt_length (by omega)]; exact hl33) (rep_leaf rfl ha29 (by omega))) hd33
        generalize hg33 : (pt (Zr.zc GOp) (0) (sl p27 (o27 + Int.toNat y21 * 3) 3)) = cs33 at hb33
        refine WL_c (O_st (j := 0) (v := .agg (sl p27 (o27 + Int.toNat y21 * 3) 3).toArray) (ws := (sl p27 (o27 + Int.toNat y21 * 3) 3)) hS rfl (by kernel_rfl) rfl rfl rfl hw33 (Rep.one ha29) (by omega) ?_)
        rw [hg33]
        clear hg33
        intro w32 hS
        replace hS : St w noX M17 [.box b31 cs33 46, .row v20 5 1, .box b3 cx1 50] w32 := hS
        refine WL_nil (nm_then ?_)
        refine W_drawB (Rd M17 [.box b31 cs33 46]) (inL []) mixed hS fun w35 hS => ?_
        have hG36 := Mm.ext.refl w.heap.size noX M17
        have hR37 : Rd M17 [.box b31 cs33 46] w35 := Rd.of hS hG36 (by simp)
        refine WB_y (i := 0) rfl (by kernel_rfl) rfl (Y_move (v20) hT18_5) (fun _ => hR37) ?_
        refine WB_y (i := 1) rfl (by kernel_rfl) rfl (Y_fa fa46_0 rfl) (fun _ => hR37) ?_
        refine WB_ld (i := 2) rfl (by kernel_rfl) rfl (inL_lt rfl) (by kernel_rfl) (by kernel_rfl) (Y_ld1 (.int .i64 d34.kind) ts3 rfl (bvR 0 rfl) (GOp.p0 (rep_root (k := 3) rfl hb33))) hR37 ?_
        refine WB_y (i := 3) rfl (by kernel_rfl) rfl (Y_conv ⟨_, Try.underlying3⟩ Try.underlying5 rfl) (fun _ => hR37) ?_
        refine WB_y (i := 4) rfl (by kernel_rfl) rfl (Y_fa fa46_1 rfl) (fun _ => hR37) ?_
        refine WB_ld (i := 5) rfl (by kernel_rfl) rfl (inL_lt rfl) (by kernel_rfl) (by kernel_rfl) (Y_ld1 (.int .i64 d34.key) ts3 rfl (bvR 0 rfl) (GOp.p1 (rep_root (k := 3) rfl hb33))) hR37 ?_
        refine WB_y (i := 6) rfl (by kernel_rfl) rfl (Y_conv ⟨_, Try.underlying3⟩ Try.underlying5 rfl) (fun _ => hR37) ?_
        refine WB_y (i := 9) rfl (by kernel_rfl) rfl (Y_fa fa46_2 rfl) (fun _ => hR37) ?_
        refine WB_ld (i := 10) rfl (by kernel_rfl) rfl (inL_lt rfl) (by kernel_rfl) (by kernel_rfl) (Y_ld1 (.int .i64 d34.n) ts3 rfl (bvR 0 rfl) (GOp.p2 (rep_root (k := 3) rfl hb33))) hR37 ?_
        refine WB_one (i := 7) (by kernel_rfl) rfl (O_bslice (α := Byt) (l := ([⟨IntKind.wrap .u8 d34.kind⟩, ⟨IntKind.wrap .u8 d34.key⟩] : List Byt)) [.int .u8 (IntKind.wrap .u8 d34.kind), .int .u8 (IntKind.wrap .u8 d34.key)] tl100 (bpc rfl (bpc rfl bp0)) rfl rfl (by decide) (by decide) (by decide) hS (brc (show rep M17 [Value.int .u8 (IntKind.wrap .u8 d34.kind)] (⟨IntKind.wrap .u8 d34.kind⟩ : Byt) from rfl) (brc (show rep M17 [Value.int .u8 (IntKind.wrap .u8 d34.key)] (⟨IntKind.wrap .u8 d34.key⟩ : Byt) from rfl) br0)) ?_)
        intro v39 M39 w38 hx39 hv39 hS
        replace hcx1 := Rep.mono hx39.1 hcx1
        replace hv14 := repL.mono hx39.1 hv14
        replace hv20 := repL.mono hx39.1 hv20
        replace hb33 := Rep.mono hx39.1 hb33
        replace hE := Mm.ext.trans hE hx39
        replace hF24 := Mm.ext.trans hF24 hx39
        replace hG36 := Mm.ext.trans hG36 hx39
        have hR40 : Rd M17 [.box b31 cs33 46] w38 := Rd.of hS hG36 (by simp)
        refine ⟨fun _ => hR40, ?_⟩
        obtain ⟨l43, hr42, hz⟩ := bind_ok hz
        obtain ⟨hy42, hr42⟩ := app_some hr42
        refine WB_one (i := 8) (by kernel_rfl) rfl (O_app (α := Byt) (j := 1) tp100 hS rfl rfl rfl hv20 hv39 hy42 ?_)
        intro v42 M42 w41 hx42 hv42 hS
        rw [← hr42] at hv42
        clear hr42
        replace hcx1 := Rep.mono hx42.1 hcx1
        replace hv14 := repL.mono hx42.1 hv14
        replace hv20 := repL.mono hx42.1 hv20
        replace hb33 := Rep.mono hx42.1 hb33
        replace hv39 := repL.mono hx42.1 hv39
        replace hE := Mm.ext.trans hE hx42
        replace hF24 := Mm.ext.trans hF24 hx42
        replace hG36 := Mm.ext.trans hG36 hx42
        replace hS : St w noX M42 [.box b31 cs33 46, .row v42 5 1, .box b3 cx1 50] w41 := hS
        have hR44 : Rd M17 [.box b31 cs33 46] w41 := Rd.of hS hG36 (by simp)
        refine ⟨fun _ => hR44, ?_⟩
        obtain ⟨r47, hr46, hz⟩ := bind_ok hz
        refine WB_one (i := 11) (by kernel_rfl) rfl (O_lend (vs := [v42, .int .i64 d34.n]) (L := [.row v42 5 1]) (R := [.box b31 cs33 46, .box b3 cx1 50]) (rv := (fun M' u L' => ∃ v0, u = v0 ∧ L' = [.row v0 5 1] ∧ repL M' v0 r47)) cb77 (args2 rfl rfl) hS (hS.sel [1, 0, 2] (by decide) rfl) (fun hS => number_ok hS hv42 hr46) ?_)
        rintro u46 M46 w45 L46 hx46 ⟨v0_46, rfl, hL46, f46_0⟩ hS
        replace hS := hS _ hL46
        replace hcx1 := Rep.mono hx46.1 hcx1
        replace hv14 := repL.mono hx46.1 hv14
        replace hv20 := repL.mono hx46.1 hv20
        replace hb33 := Rep.mono hx46.1 hb33
        replace hv39 := repL.mono hx46.1 hv39
        replace hv42 := repL.mono hx46.1 hv42
        replace hE := Mm.ext.trans hE hx46
        replace hF24 := Mm.ext.trans hF24 hx46
        replace hG36 := Mm.ext.trans hG36 hx46
        replace hS : St w noX M46 [.row u46 5 1, .box b31 cs33 46, .box b3 cx1 50] w45 := hS
        have hR48 : Rd M17 [.box b31 cs33 46] w45 := Rd.of hS hG36 (by simp)
        refine ⟨fun _ => hR48, ?_⟩
        refine WB_y (i := 12) rfl (by kernel_rfl) rfl (Y_assign (u46) rfl) (fun _ => hR48) ?_
        refine WB_done (by kernel_rfl) (nm_blk ?_)
        refine (nm_then ?_)
        refine W_reg ?_
        refine WL_y (Y_add hT18_34 rfl) ?_
        refine WL_y (Y_move (.int .i64 (IntKind.wrap .i64 (y21 + 1))) rfl) ?_
        refine WL_nil (nm_then ?_)
        exact ⟨M46, u46, r47, (IntKind.wrap .i64 (y21 + 1)), hF24, (hS.sel (H' := [.row u46 5 1, .box b3 cx1 50]) [0, 2] (by decide) rfl), f46_0, hT18_1, rfl, hT18_32, hT18_33, rfl, (by rw [← hrec22]; exact hz)⟩
      · replace hz := bif_ok_f hz hc26
        refine W_exit ?_
        refine ex_then ?_
        refine ex_then ?_
        refine ex_hit ?_
        refine (nm_then ?_)
        refine W_seq ?_
        refine W_reg ?_
        refine WL_y (Y_move (v20) hT18_5) ?_
        refine WL_y (Y_fa fa50_4 hT18_1) ?_
        obtain ⟨v49, ev49, hv49⟩ := (GFrame.p4 (rep_root (k := 7) rfl hcx1))
        refine WL_y (Y_ld1 v49 ts34 rfl (hS.bvB 1 rfl) ev49) ?_
        obtain ⟨a50, c50, hv50, _⟩ := repL_shape hv49
        refine WL_y (Y_lenL Try.underlying34 (tr2 hv50 rfl)) ?_
        refine WL_y (Y_conv ⟨_, Try.underlying3⟩ Try.underlying5 rfl) ?_
        refine WL_c (O_bslice (α := Byt) (l := ([⟨IntKind.wrap .u8 (x1.deps.length : Int)⟩] : List Byt)) [.int .u8 (IntKind.wrap .u8 (x1.deps.length : Int))] tl100 (bpc rfl bp0) rfl rfl (by decide) (by decide) (by decide) hS (brc (show rep M17 [Value.int .u8 (IntKind.wrap .u8 (x1.deps.length : Int))] (⟨IntKind.wrap .u8 (x1.deps.length : Int)⟩ : Byt) from rfl) br0) ?_)
        intro v52 M52 w51 hx52 hv52 hS
        replace hcx1 := Rep.mono hx52.1 hcx1
        replace hv20 := repL.mono hx52.1 hv20
        replace hv49 := repL.mono hx52.1 hv49
        replace hE := Mm.ext.trans hE hx52
        replace hF24 := Mm.ext.trans hF24 hx52
        obtain ⟨l55, hr54, hz⟩ := bind_ok hz
        obtain ⟨hy54, hr54⟩ := app_some hr54
        refine WL_c (O_app (α := Byt) (j := 0) tp100 hS rfl rfl rfl hv20 hv52 hy54 ?_)
        intro v54 M54 w53 hx54 hv54 hS
        rw [← hr54] at hv54
        clear hr54
        replace hcx1 := Rep.mono hx54.1 hcx1
        replace hv20 := repL.mono hx54.1 hv20
        replace hv49 := repL.mono hx54.1 hv49
        replace hv52 := repL.mono hx54.1 hv52
        replace hE := Mm.ext.trans hE hx54
        replace hF24 := Mm.ext.trans hF24 hx54
        replace hS : St w noX M54 [.row v54 5 1, .box b3 cx1 50] w53 := hS
        refine WL_y (Y_assign (v54) rfl) ?_
        refine WL_nil (nm_then ?_)
        refine W_seq ?_
        refine W_seq ?_
        refine W_reg ?_
        refine WL_y (Y_fa fa50_4 hT18_1) ?_
        obtain ⟨v56, ev56, hv56⟩ := (GFrame.p4 (rep_root (k := 7) rfl hcx1))
        refine WL_y (Y_ld1 v56 ts34 rfl (hS.bvB 1 rfl) ev56) ?_
        obtain ⟨a57, c57, hv57, _⟩ := repL_shape hv56
        refine WL_y (Y_lenL Try.underlying34 (tr2 hv57 rfl)) ?_
        refine WL_y (Y_move (.int .i64 0) rfl) ?_
        refine WL_nil (nm_then ?_)
        refine W_block ?_
        refine W_loop (fun k65 T' w' => ∃ M59 v62 l61 y63, Mm.ext w.heap.size noX M54 M59 ∧ St w noX M59 [.row v62 5 1, .box b3 cx1 50] w' ∧ repL M59 v62 l61 ∧ T' 1 = .pointer (some ⟨b3, 0, none⟩) ∧ T' 5 = v62 ∧ T' 59 = v56 ∧ T' 60 = .int .i64 (x1.deps.length : Int) ∧ T' 61 = .int .i64 y63 ∧ encode_l2 fu x1 k65 l61 y63 = some r) fu ?_ ?_ ?_
        · exact ⟨M54, v54, l55, (0 : Int), (Mm.ext.refl _ _ _), hS, hv54, hT18_1, rfl, rfl, rfl, rfl, hz⟩
        · rintro T' w' ⟨_, _, _, _, _, _, _, _, _, _, _, _, hz⟩
          rw [encode_l2] at hz
          cases hz
        · intro k65
          rintro T60 w58 ⟨M59, v62, l61, y63, hx67, hS, hv62, hT60_1, hT60_5, hT60_59, hT60_60, hT60_61, hz⟩
          replace hcx1 := Rep.mono hx67.1 hcx1
          replace hv56 := repL.mono hx67.1 hv56
          replace hE := Mm.ext.trans hE hx67
          replace hF24 := Mm.ext.trans hF24 hx67
          have hF66 := hx67
          rw [encode_l2] at hz
          obtain ⟨rec64, hrec64⟩ : ∃ f, f = encode_l2 fu x1 k65 := ⟨_, rfl⟩
          rw [← hrec64] at hz
          refine W_seq ?_
          refine W_reg ?_
          refine WL_y (Y_lss hT60_61 hT60_60) ?_
          refine WL_nil (nm_then ?_)
          refine W_seq ?_
          refine W_cond rfl (fun hc68 => ?_) (fun hc68 => ?_)
          · replace hz := bif_ok_t hz hc68
            refine W_skip (nm_then ?_)
            refine W_seq ?_
            refine W_block ?_
            refine W_seq ?_
            refine W_reg ?_
            obtain ⟨x70, hx69, hz⟩ := bind_ok hz
            obtain ⟨b69, o69, c69, p69, hv69, hi69, hj69, hM69, hr69⟩ := repL_at hv56 hx69
            replace hr69 : rep _ (sl p69 (o69 + Int.toNat y63 * 1) 1) x70 := hr69
            refine WL_y (Y_ixL il34 hT60_59 hv69 hT60_61 hi69 hj69) ?_
            refine WL_y (Y_ld1 (.int .i64 x70) ts3 rfl (hS.bvM hM69) hr69) ?_
            refine WL_y (Y_assign (.int .i64 x70) rfl) ?_
            refine WL_nil (nm_then ?_)
            refine W_reg ?_
            refine WL_y (Y_move (v62) hT60_5) ?_
            refine WL_y (Y_move (.int .i64 x70) rfl) ?_
            refine WL_y (Y_conv ⟨_, Try.underlying3⟩ Try.underlying5 rfl) ?_
            refine WL_c (O_bslice (α := Byt) (l := ([⟨IntKind.wrap .u8 x70⟩] : List Byt)) [.int .u8 (IntKind.wrap .u8 x70)] tl100 (bpc rfl bp0) rfl rfl (by decide) (by decide) (by decide) hS (brc (show rep M59 [Value.int .u8 (IntKind.wrap .u8 x70)] (⟨IntKind.wrap .u8 x70⟩ : Byt) from rfl) br0) ?_)
            intro v72 M72 w71 hx72 hv72 hS
            replace hcx1 := Rep.mono hx72.1 hcx1
            replace hv56 := repL.mono hx72.1 hv56
            replace hv62 := repL.mono hx72.1 hv62
            replace hE := Mm.ext.trans hE hx72
            replace hF24 := Mm.ext.trans hF24 hx72
            replace hF66 := Mm.ext.trans hF66 hx72
            obtain ⟨l75, hr74, hz⟩ := bind_ok hz
            obtain ⟨hy74, hr74⟩ := app_some hr74
            refine WL_c (O_app (α := Byt) (j := 0) tp100 hS rfl rfl rfl hv62 hv72 hy74 ?_)
            intro v74 M74 w73 hx74 hv74 hS
            rw [← hr74] at hv74
            clear hr74
            replace hcx1 := Rep.mono hx74.1 hcx1
            replace hv56 := repL.mono hx74.1 hv56
            replace hv62 := repL.mono hx74.1 hv62
            replace hv72 := repL.mono hx74.1 hv72
            replace hE := Mm.ext.trans hE hx74
            replace hF24 := Mm.ext.trans hF24 hx74
            replace hF66 := Mm.ext.trans hF66 hx74
            replace hS : St w noX M74 [.row v74 5 1, .box b3 cx1 50] w73 := hS
            refine WL_y (Y_assign (v74) rfl) ?_
            refine WL_nil (nm_blk ?_)
            refine (nm_then ?_)
            refine W_reg ?_
            refine WL_y (Y_add hT60_61 rfl) ?_
            refine WL_y (Y_move (.int .i64 (IntKind.wrap .i64 (y63 + 1))) rfl) ?_
            refine WL_nil (nm_then ?_)
            exact ⟨M74, v74, l75, (IntKind.wrap .i64 (y63 + 1)), hF66, hS, hv74, hT60_1, rfl, hT60_59, hT60_60, rfl, (by rw [← hrec64]; exact hz)⟩
          · replace hz := bif_ok_f hz hc68
            refine W_exit ?_
            refine ex_then ?_
            refine ex_then ?_
            refine ex_hit ?_
            refine (nm_then ?_)
            refine W_seq ?_
            refine W_reg ?_
            refine WL_y (Y_move (v62) hT60_5) ?_
            refine WL_y (Y_fa fa50_5 hT60_1) ?_
            obtain ⟨v76, ev76, hv76⟩ := (GFrame.p5 (rep_root (k := 7) rfl hcx1))
            refine WL_y (Y_ld1 v76 ts34 rfl (hS.bvB 1 rfl) ev76) ?_
            obtain ⟨a77, c77, hv77, _⟩ := repL_shape hv76
            refine WL_y (Y_lenL Try.underlying34 (tr2 hv77 rfl)) ?_
            refine WL_y (Y_conv ⟨_, Try.underlying3⟩ Try.underlying5 rfl) ?_
            refine WL_c (O_bslice (α := Byt) (l := ([⟨IntKind.wrap .u8 (x1.at_.length : Int)⟩] : List Byt)) [.int .u8 (IntKind.wrap .u8 (x1.at_.length : Int))] tl100 (bpc rfl bp0) rfl rfl (by decide) (by decide) (by decide) hS (brc (show rep M59 [Value.int .u8 (IntKind.wrap .u8 (x1.at_.length : Int))] (⟨IntKind.wrap .u8 (x1.at_.length : Int)⟩ : Byt) from rfl) br0) ?_)
            intro v79 M79 w78 hx79 hv79 hS
            replace hcx1 := Rep.mono hx79.1 hcx1
            replace hv62 := repL.mono hx79.1 hv62
            replace hv76 := repL.mono hx79.1 hv76
            replace hE := Mm.ext.trans hE hx79
            replace hF24 := Mm.ext.trans hF24 hx79
            replace hF66 := Mm.ext.trans hF66 hx79
            obtain ⟨l82, hr81, hz⟩ := bind_ok hz
            obtain ⟨hy81, hr81⟩ := app_some hr81
            refine WL_c (O_app (α := Byt) (j := 0) tp100 hS rfl rfl rfl hv62 hv79 hy81 ?_)
            intro v81 M81 w80 hx81 hv81 hS
            rw [← hr81] at hv81
            clear hr81
            replace hcx1 := Rep.mono hx81.1 hcx1
            replace hv62 := repL.mono hx81.1 hv62
            replace hv76 := repL.mono hx81.1 hv76
            replace hv79 := repL.mono hx81.1 hv79
            replace hE := Mm.ext.trans hE hx81
            replace hF24 := Mm.ext.trans hF24 hx81
            replace hF66 := Mm.ext.trans hF66 hx81
            replace hS : St w noX M81 [.row v81 5 1, .box b3 cx1 50] w80 := hS
            refine WL_y (Y_assign (v81) rfl) ?_
            refine WL_nil (nm_then ?_)
            refine W_seq ?_
            refine W_seq ?_
            refine W_reg ?_
            refine WL_y (Y_fa fa50_5 hT60_1) ?_
            obtain ⟨v83, ev83, hv83⟩ := (GFrame.p5 (rep_root (k := 7) rfl hcx1))
            refine WL_y (Y_ld1 v83 ts34 rfl (hS.bvB 1 rfl) ev83) ?_
            obtain ⟨a84, c84, hv84, _⟩ := repL_shape hv83
            refine WL_y (Y_lenL Try.underlying34 (tr2 hv84 rfl)) ?_
            refine WL_y (Y_move (.int .i64 0) rfl) ?_
            refine WL_nil (nm_then ?_)
            refine W_block ?_
            refine W_loop (fun k92 T' w' => ∃ M86 v89 l88 y90, Mm.ext w.heap.size noX M81 M86 ∧ St w noX M86 [.row v89 5 1, .box b3 cx1 50] w' ∧ repL M86 v89 l88 ∧ T' 1 = .pointer (some ⟨b3, 0, none⟩) ∧ T' 5 = v89 ∧ T' 79 = v83 ∧ T' 80 = .int .i64 (x1.at_.length : Int) ∧ T' 81 = .int .i64 y90 ∧ encode_l3 fu x1 k92 l88 y90 = some r) fu ?_ ?_ ?_
            · exact ⟨M81, v81, l82, (0 : Int), (Mm.ext.refl _ _ _), hS, hv81, hT60_1, rfl, rfl, rfl, rfl, hz⟩
            · rintro T' w' ⟨_, _, _, _, _, _, _, _, _, _, _, _, hz⟩
              rw [encode_l3] at hz
              cases hz
            · intro k92
              rintro T87 w85 ⟨M86, v89, l88, y90, hx94, hS, hv89, hT87_1, hT87_5, hT87_79, hT87_80, hT87_81, hz⟩
              replace hcx1 := Rep.mono hx94.1 hcx1
              replace hv83 := repL.mono hx94.1 hv83
              replace hE := Mm.ext.trans hE hx94
              replace hF24 := Mm.ext.trans hF24 hx94
              replace hF66 := Mm.ext.trans hF66 hx94
              have hF93 := hx94
              rw [encode_l3] at hz
              obtain ⟨rec91, hrec91⟩ : ∃ f, f = encode_l3 fu x1 k92 := ⟨_, rfl⟩
              rw [← hrec91] at hz
              refine W_seq ?_
              refine W_reg ?_
              refine WL_y (Y_lss hT87_81 hT87_80) ?_
              refine WL_nil (nm_then ?_)
              refine W_seq ?_
              refine W_cond rfl (fun hc95 => ?_) (fun hc95 => ?_)
              · replace hz := bif_ok_t hz hc95
                refine W_skip (nm_then ?_)
                refine W_seq ?_
                refine W_block ?_
                refine W_seq ?_
                refine W_reg ?_
                refine WL_y (Y_move (.int .i64 y90) hT87_81) ?_
                obtain ⟨x97, hx96, hz⟩ := bind_ok hz
                obtain ⟨b96, o96, c96, p96, hv96, hi96, hj96, hM96, hr96⟩ := repL_at hv83 hx96
                replace hr96 : rep _ (sl p96 (o96 + Int.toNat y90 * 1) 1) x97 := hr96
                refine WL_y (Y_ixL il34 hT87_79 hv96 hT87_81 hi96 hj96) ?_
                refine WL_y (Y_ld1 (.int .i64 x97) ts3 rfl (hS.bvM hM96) hr96) ?_
                refine WL_y (Y_assign (.int .i64 y90) rfl) ?_
                refine WL_y (Y_assign (.int .i64 x97) rfl) ?_
                refine WL_nil (nm_then ?_)
                refine W_drawB (Rd M86 [.box b3 cx1 50]) (inL []) mixed hS fun w98 hS => ?_
                have hG99 := Mm.ext.refl w.heap.size noX M86
                have hR100 : Rd M86 [.box b3 cx1 50] w98 := Rd.of hS hG99 (by simp)
                refine WB_y (i := 0) rfl (by kernel_rfl) rfl (Y_move (v89) hT87_5) (fun _ => hR100) ?_
                refine WB_y (i := 1) rfl (by kernel_rfl) rfl (Y_move (.int .i64 x97) rfl) (fun _ => hR100) ?_
                refine WB_y (i := 2) rfl (by kernel_rfl) rfl (Y_conv ⟨_, Try.underlying3⟩ Try.underlying5 rfl) (fun _ => hR100) ?_
                refine WB_y (i := 5) rfl (by kernel_rfl) rfl (Y_fa fa50_6 hT87_1) (fun _ => hR100) ?_
                obtain ⟨v101, ev101, hv101⟩ := (GFrame.p6 (rep_root (k := 7) rfl hcx1))
                refine WB_ld (i := 6) rfl (by kernel_rfl) rfl (inL_lt rfl) (by kernel_rfl) (by kernel_rfl) (Y_ld1 v101 ts34 rfl (bvR 0 rfl) ev101) hR100 ?_
                refine WB_y (i := 7) rfl (by kernel_rfl) rfl (Y_move (.int .i64 y90) rfl) (fun _ => hR100) ?_
                obtain ⟨x103, hx102, hz⟩ := bind_ok hz
                obtain ⟨b102, o102, c102, p102, hv102, hi102, hj102, hM102, hr102⟩ := repL_at hv101 hx102
                replace hr102 : rep _ (sl p102 (o102 + Int.toNat y90 * 1) 1) x103 := hr102
                refine WB_y (i := 8) rfl (by kernel_rfl) rfl (Y_ixL il34 rfl hv102 rfl hi102 hj102) (fun _ => hR100) ?_
                refine WB_ld (i := 9) rfl (by kernel_rfl) rfl (inL_lt rfl) (by kernel_rfl) (by kernel_rfl) (Y_ld1 (.int .i64 x103) ts3 rfl (bvRM hM102) hr102) hR100 ?_
                refine WB_one (i := 3) (by kernel_rfl) rfl (O_bslice (α := Byt) (l := ([⟨IntKind.wrap .u8 x97⟩] : List Byt)) [.int .u8 (IntKind.wrap .u8 x97)] tl100 (bpc rfl bp0) rfl rfl (by decide) (by decide) (by decide) hS (brc (show rep M86 [Value.int .u8 (IntKind.wrap .u8 x97)] (⟨IntKind.wrap .u8 x97⟩ : Byt) from rfl) br0) ?_)
                intro v105 M105 w104 hx105 hv105 hS
                replace hcx1 := Rep.mono hx105.1 hcx1
                replace hv83 := repL.mono hx105.1 hv83
                replace hv89 := repL.mono hx105.1 hv89
                replace hv101 := repL.mono hx105.1 hv101
                replace hE := Mm.ext.trans hE hx105
                replace hF24 := Mm.ext.trans hF24 hx105
                replace hF66 := Mm.ext.trans hF66 hx105
                replace hF93 := Mm.ext.trans hF93 hx105
                replace hG99 := Mm.ext.trans hG99 hx105
                have hR106 : Rd M86 [.box b3 cx1 50] w104 := Rd.of hS hG99 (by simp)
                refine ⟨fun _ => hR106, ?_⟩
                obtain ⟨l109, hr108, hz⟩ := bind_ok hz
                obtain ⟨hy108, hr108⟩ := app_some hr108
                refine WB_one (i := 4) (by kernel_rfl) rfl (O_app (α := Byt) (j := 0) tp100 hS rfl rfl rfl hv89 hv105 hy108 ?_)
                intro v108 M108 w107 hx108 hv108 hS
                rw [← hr108] at hv108
                clear hr108
                replace hcx1 := Rep.mono hx108.1 hcx1
                replace hv83 := repL.mono hx108.1 hv83
                replace hv89 := repL.mono hx108.1 hv89
                replace hv101 := repL.mono hx108.1 hv101
                replace hv105 := repL.mono hx108.1 hv105
                replace hE := Mm.ext.trans hE hx108
                replace hF24 := Mm.ext.trans hF24 hx108
                replace hF66 := Mm.ext.trans hF66 hx108
                replace hF93 := Mm.ext.trans hF93 hx108
                replace hG99 := Mm.ext.trans hG99 hx108
                replace hS : St w noX M108 [.row v108 5 1, .box b3 cx1 50] w107 := hS
                have hR110 : Rd M86 [.box b3 cx1 50] w107 := Rd.of hS hG99 (by simp)
                refine ⟨fun _ => hR110, ?_⟩
                obtain ⟨r113, hr112, hz⟩ := bind_ok hz
                refine WB_one (i := 10) (by kernel_rfl) rfl (O_lend (vs := [v108, .int .i64 x103]) (L := [.row v108 5 1]) (R := [.box b3 cx1 50]) (rv := (fun M' u L' => ∃ v0, u = v0 ∧ L' = [.row v0 5 1] ∧ repL M' v0 r113)) cb77 (args2 rfl rfl) hS (hS.sel [0, 1] (by decide) rfl) (fun hS => number_ok hS hv108 hr112) ?_)
                rintro u112 M112 w111 L112 hx112 ⟨v0_112, rfl, hL112, f112_0⟩ hS
                replace hS := hS _ hL112
                replace hcx1 := Rep.mono hx112.1 hcx1
                replace hv83 := repL.mono hx112.1 hv83
                replace hv89 := repL.mono hx112.1 hv89
                replace hv101 := repL.mono hx112.1 hv101
                replace hv105 := repL.mono hx112.1 hv105
                replace hv108 := repL.mono hx112.1 hv108
                replace hE := Mm.ext.trans hE hx112
                replace hF24 := Mm.ext.trans hF24 hx112
                replace hF66 := Mm.ext.trans hF66 hx112
                replace hF93 := Mm.ext.trans hF93 hx112
                replace hG99 := Mm.ext.trans hG99 hx112
                replace hS : St w noX M112 [.row u112 5 1, .box b3 cx1 50] w111 := hS
                have hR114 : Rd M86 [.box b3 cx1 50] w111 := Rd.of hS hG99 (by simp)
                refine ⟨fun _ => hR114, ?_⟩
                refine WB_y (i := 11) rfl (by kernel_rfl) rfl (Y_assign (u112) rfl) (fun _ => hR114) ?_
                refine WB_done (by kernel_rfl) (nm_blk ?_)
                refine (nm_then ?_)
                refine W_reg ?_
                refine WL_y (Y_add hT87_81 rfl) ?_
                refine WL_y (Y_move (.int .i64 (IntKind.wrap .i64 (y90 + 1))) rfl) ?_
                refine WL_nil (nm_then ?_)
                exact ⟨M112, u112, r113, (IntKind.wrap .i64 (y90 + 1)), hF93, hS, f112_0, hT87_1, rfl, hT87_79, hT87_80, rfl, (by rw [← hrec91]; exact hz)⟩
              · replace hz := bif_ok_f hz hc95
                refine W_exit ?_
                refine ex_then ?_
                refine ex_then ?_
                refine ex_hit ?_
                refine (nm_then ?_)
                refine W_seq ?_
                refine W_reg ?_
                refine WL_y (Y_move (v89) hT87_5) ?_
                refine WL_y (Y_b2s hS.agree Try.underlying100 Try.underlying5 Try.underlying9 rfl hv89) ?_
                refine WL_y (Y_assign (.string (strOfNums (l88.map Byt.val))) rfl) ?_
                refine WL_y (Y_assign (.int .i64 0) rfl) ?_
                refine WL_nil (nm_then ?_)
                cases hz
                exact W_ret (R_t2 rfl rfl rfl ⟨rfl, (St.dropB (St.drop hS) hb3).kept⟩)

def encodeFrame_l3 (fu : Nat) (x1 : GFrame) : Nat → ByteArray → Int → Option (ByteArray × Int)
  | 0, _, _ => none
  | n + 1, s115, y116 =>
    (bif decide (y116 < (x1.at_.length : Int)) then
    (idx x1.at_ y116).bind fun x127 =>
    (idx x1.vals y116).bind fun x130 =>
    (some (strOfNums [x127 % 256])).bind fun r133 =>
    (sixBytesD fu x130).bind fun r137 =>
    (cat r133 r137).bind fun s139 =>
    (cat s115 s139).bind fun s141 =>
    (encodeFrame_l3 fu x1 n) s141 (IntKind.wrap .i64 (y116 + 1))
    else
    some (s115, 0))

def encodeFrame_l2 (fu : Nat) (x1 : GFrame) : Nat → ByteArray → Int → Option (ByteArray × Int)
  | 0, _, _ => none
  | n + 1, s89, y90 =>
    (bif decide (y90 < (x1.deps.length : Int)) then
    (idx x1.deps y90).bind fun x97 =>
    (some (strOfNums [x97 % 256])).bind fun r100 =>
    (cat s89 r100).bind fun s101 =>
    (encodeFrame_l2 fu x1 n) s101 (IntKind.wrap .i64 (y90 + 1))
    else
    (some (strOfNums [(x1.at_.length : Int) % 256])).bind fun r107 =>
    (cat s89 r107).bind fun s108 =>
    encodeFrame_l3 fu x1 fu s108 0)

def encodeFrame_l1 (fu : Nat) (x1 : GFrame) : Nat → ByteArray → Int → Option (ByteArray × Int)
  | 0, _, _ => none
  | n + 1, s41, y42 =>
    (bif decide (y42 < (x1.ops.length : Int)) then
    (idx x1.ops y42).bind fun x49 =>
    (some x49).bind fun d55 =>
    (some (strOfNums [d55.kind % 256])).bind fun r61 =>
    (some (strOfNums [d55.key % 256])).bind fun r65 =>
    (cat r61 r65).bind fun s67 =>
    (sixBytesD fu d55.n).bind fun r71 =>
    (cat s67 r71).bind fun s73 =>
    (cat s41 s73).bind fun s75 =>
    (encodeFrame_l1 fu x1 n) s75 (IntKind.wrap .i64 (y42 + 1))
    else
    (some (strOfNums [(x1.deps.length : Int) % 256])).bind fun r81 =>
    (cat s41 r81).bind fun s82 =>
    encodeFrame_l2 fu x1 fu s82 0)

def encodeFrameD (fu : Nat) (x1 : GFrame) : Option (ByteArray × Int) :=
    (some (frameZ x1)).bind fun r7 =>
    (bif r7 != 0 then
    some ((⟨#[]⟩ : ByteArray), r7)
    else
    (some (strOfNums [x1.kind % 256])).bind fun r16 =>
    (some (strOfNums [x1.node % 256])).bind fun r20 =>
    (cat r16 r20).bind fun s22 =>
    (some (strOfNums [x1.id % 256])).bind fun r26 =>
    (cat s22 r26).bind fun s28 =>
    (some (strOfNums [(x1.ops.length : Int) % 256])).bind fun r32 =>
    (cat s28 r32).bind fun s34 =>
    encodeFrame_l1 fu x1 fu s34 0)

set_option maxRecDepth 100000 in
set_option maxHeartbeats 4000000 in
theorem encodeFrame_ok {M : Mm} {w : World} {cx1 : List Value} {x1 : GFrame} {fu : Nat} {r : ByteArray × Int} (hA : Agree M w) (hcx1 : rep M cx1 x1) (hz : encodeFrameD fu x1 = some r) :
    Calls Try.prog 46 #[.agg cx1.toArray] w (GivesV w (.tuple #[.string r.1, .int .i64 r.2])) := by
  refine calls_W Try.func46 rfl 100 rfl rfl (by kernel_rfl) fun T hT => ?_
  have hT_0 : T 0 = .agg cx1.toArray := hT 0
  clear hT
  have hE := Mm.ext.refl w.heap.size noX M
  have hS : St w noX M [] w := St.start hA
  rw [encodeFrameD] at hz
  refine W_seq ?_
  refine W_reg ?_
  refine WL_c (O_box (v := .agg cx1.toArray) (cs := cx1) hT_0 rfl hS ?_)
  intro b3 w2 hb3 hS
  replace hS : St w noX M [.box b3 cx1 50] w2 := hS
  refine WL_y (Y_assign (.string (⟨#[]⟩ : ByteArray)) rfl) ?_
  refine WL_y (Y_assign (.int .i64 0) rfl) ?_
  refine WL_nil (nm_then ?_)
  refine W_seq ?_
  refine W_seq ?_
  refine W_reg ?_
  have ha4 := (rep_root (k := 7) rfl hcx1)
  refine WL_y (Y_ldn ta50 rfl (hS.bvB 0 rfl) (Rep.len ha4)) ?_
  obtain ⟨r7, hr6, hz⟩ := bind_ok hz
  replace hr6 := Option.some.inj hr6
  refine WL_c (O_val (vs := [.agg (sl cx1 (0) 7).toArray]) (v := .int .i64 r7) cb48 (args1 rfl) hS (hr6 ▸ (c_isFrame hS.agree ha4)) ?_)
  intro w5 hS
  refine WL_y (Y_assign (.int .i64 r7) rfl) ?_
  refine WL_nil (nm_then ?_)
  refine W_seq ?_
  refine W_reg ?_
  refine WL_y (Y_move (.int .i64 r7) rfl) ?_
  refine WL_y (Y_neq rfl rfl) ?_
  refine WL_nil (nm_then ?_)
  refine W_cond rfl (fun hc8 => ?_) (fun hc8 => ?_)
  · replace hz := bif_ok_t hz hc8
    refine W_seq ?_
    refine W_reg ?_
    refine WL_y (Y_move (.int .i64 r7) rfl) ?_
    refine WL_y (Y_assign (.string (⟨#[]⟩ : ByteArray)) rfl) ?_
    refine WL_y (Y_assign (.int .i64 r7) rfl) ?_
    refine WL_nil (nm_then ?_)
    cases hz
    exact W_ret (rt_then (R_t2 rfl rfl rfl ⟨rfl, (St.dropB hS hb3).kept⟩))
  · replace hz := bif_ok_f hz hc8
    refine W_skip (nm_then ?_)
    refine W_seq ?_
    refine W_drawB (Rd M [.box b3 cx1 50]) (inL []) mixed hS fun w9 hS => ?_
    have hG10 := Mm.ext.refl w.heap.size noX M
    have hR11 : Rd M [.box b3 cx1 50] w9 := Rd.of hS hG10 (by simp)
    refine WB_y (i := 0) rfl (by kernel_rfl) rfl (Y_fa fa50_0 rfl) (fun _ => hR11) ?_
    refine WB_ld (i := 1) rfl (by kernel_rfl) rfl (inL_lt rfl) (by kernel_rfl) (by kernel_rfl) (Y_ld1 (.int .i64 x1.kind) ts3 rfl (bvR 0 rfl) (GFrame.p0 (rep_root (k := 7) rfl hcx1))) hR11 ?_
    refine WB_y (i := 3) rfl (by kernel_rfl) rfl (Y_fa fa50_1 rfl) (fun _ => hR11) ?_
    refine WB_ld (i := 4) rfl (by kernel_rfl) rfl (inL_lt rfl) (by kernel_rfl) (by kernel_rfl) (Y_ld1 (.int .i64 x1.node) ts3 rfl (bvR 0 rfl) (GFrame.p1 (rep_root (k := 7) rfl hcx1))) hR11 ?_
    refine WB_y (i := 7) rfl (by kernel_rfl) rfl (Y_fa fa50_2 rfl) (fun _ => hR11) ?_
    refine WB_ld (i := 8) rfl (by kernel_rfl) rfl (inL_lt rfl) (by kernel_rfl) (by kernel_rfl) (Y_ld1 (.int .i64 x1.id) ts3 rfl (bvR 0 rfl) (GFrame.p2 (rep_root (k := 7) rfl hcx1))) hR11 ?_
    refine WB_y (i := 11) rfl (by kernel_rfl) rfl (Y_fa fa50_3 rfl) (fun _ => hR11) ?_
    obtain ⟨v12, ev12, hv12⟩ := (GFrame.p3 (rep_root (k := 7) rfl hcx1))
    refine WB_ld (i := 12) rfl (by kernel_rfl) rfl (inL_lt rfl) (by kernel_rfl) (by kernel_rfl) (Y_ld1 v12 ts40 rfl (bvR 0 rfl) ev12) hR11 ?_
    obtain ⟨a13, c13, hv13, _⟩ := repL_shape hv12
    refine WB_y (i := 13) rfl (by kernel_rfl) rfl (Y_lenL Try.underlying40 (tr2 hv13 rfl)) (fun _ => hR11) ?_
    obtain ⟨r16, hr15, hz⟩ := bind_ok hz
    replace hr15 := Option.some.inj hr15
    refine WB_one (i := 2) (by kernel_rfl) rfl (O_val (vs := [.int .i64 x1.kind]) (v := .string r16) cb73 (args1 rfl) hS (hr15 ▸ (c_byteOf)) ?_)
    intro w14 hS
    have hR17 : Rd M [.box b3 cx1 50] w14 := Rd.of hS hG10 (by simp)
    refine ⟨fun _ => hR17, ?_⟩
    obtain ⟨r20, hr19, hz⟩ := bind_ok hz
    replace hr19 := Option.some.inj hr19
    refine WB_one (i := 5) (by kernel_rfl) rfl (O_val (vs := [.int .i64 x1.node]) (v := .string r20) cb73 (args1 rfl) hS (hr19 ▸ (c_byteOf)) ?_)
    intro w18 hS
    have hR21 : Rd M [.box b3 cx1 50] w18 := Rd.of hS hG10 (by simp)
    refine ⟨fun _ => hR21, ?_⟩
    obtain ⟨s22, hx23, hz⟩ := bind_ok hz
    obtain ⟨hx23a, hx23⟩ := cat_some hx23
    refine WB_y (i := 6) rfl (by kernel_rfl) rfl ((hx23 ▸ Y_cat rfl rfl hx23a)) (fun _ => hR21) ?_
    obtain ⟨r26, hr25, hz⟩ := bind_ok hz
    replace hr25 := Option.some.inj hr25
    refine WB_one (i := 9) (by kernel_rfl) rfl (O_val (vs := [.int .i64 x1.id]) (v := .string r26) cb73 (args1 rfl) hS (hr25 ▸ (c_byteOf)) ?_)
    intro w24 hS
    have hR27 : Rd M [.box b3 cx1 50] w24 := Rd.of hS hG10 (by simp)
    refine ⟨fun _ => hR27, ?_⟩
    obtain ⟨s28, hx29, hz⟩ := bind_ok hz
    obtain ⟨hx29a, hx29⟩ := cat_some hx29
    refine WB_y (i := 10) rfl (by kernel_rfl) rfl ((hx29 ▸ Y_cat rfl rfl hx29a)) (fun _ => hR27) ?_
    obtain ⟨r32, hr31, hz⟩ := bind_ok hz
    replace hr31 := Option.some.inj hr31
    refine WB_one (i := 14) (by kernel_rfl) rfl (O_val (vs := [.int .i64 (x1.ops.length : Int)]) (v := .string r32) cb73 (args1 rfl) hS (hr31 ▸ (c_byteOf)) ?_)
    intro w30 hS
    have hR33 : Rd M [.box b3 cx1 50] w30 := Rd.of hS hG10 (by simp)
    refine ⟨fun _ => hR33, ?_⟩
    obtain ⟨s34, hx35, hz⟩ := bind_ok hz
    obtain ⟨hx35a, hx35⟩ := cat_some hx35
    refine WB_y (i := 15) rfl (by kernel_rfl) rfl ((hx35 ▸ Y_cat rfl rfl hx35a)) (fun _ => hR33) ?_
    refine WB_y (i := 16) rfl (by kernel_rfl) rfl (Y_assign (.string s34) rfl) (fun _ => hR33) ?_
    refine WB_done (by kernel_rfl) (nm_then ?_)
    refine W_seq ?_
    refine W_seq ?_
    refine W_reg ?_
    refine WL_y (Y_fa fa50_3 rfl) ?_
    obtain ⟨v36, ev36, hv36⟩ := (GFrame.p3 (rep_root (k := 7) rfl hcx1))
    refine WL_y (Y_ld1 v36 ts40 rfl (hS.bvB 0 rfl) ev36) ?_
    obtain ⟨a37, c37, hv37, _⟩ := repL_shape hv36
    refine WL_y (Y_lenL Try.underlying40 (tr2 hv37 rfl)) ?_
    refine WL_y (Y_move (.int .i64 0) rfl) ?_
    refine WL_nil (nm_then ?_)
    refine W_block ?_
    refine W_loop (fun k44 T' w' => ∃ M39 s41 y42, Mm.ext w.heap.size noX M M39 ∧ St w noX M39 [.box b3 cx1 50] w' ∧ T' 1 = .pointer (some ⟨b3, 0, none⟩) ∧ T' 5 = .string s41 ∧ T' 33 = v36 ∧ T' 34 = .int .i64 (x1.ops.length : Int) ∧ T' 35 = .int .i64 y42 ∧ encodeFrame_l1 fu x1 k44 s41 y42 = some r) fu ?_ ?_ ?_
    · exact ⟨M, s34, (0 : Int), (Mm.ext.refl _ _ _), hS, rfl, rfl, rfl, rfl, rfl, hz⟩
    · rintro T' w' ⟨_, _, _, _, _, _, _, _, _, _, hz⟩
      rw [encodeFrame_l1] at hz
      cases hz
    · intro k44
      rintro T40 w38 ⟨M39, s41, y42, hx46, hS, hT40_1, hT40_5, hT40_33, hT40_34, hT40_35, hz⟩
      replace hcx1 := Rep.mono hx46.1 hcx1
      replace hv36 := repL.mono hx46.1 hv36
      replace hE := Mm.ext.trans hE hx46
      have hF45 := hx46
      rw [encodeFrame_l1] at hz
      obtain ⟨rec43, hrec43⟩ : ∃ f, f = encodeFrame_l1 fu x1 k44 := ⟨_, rfl⟩
      rw [← hrec43] at hz
      refine W_seq ?_
      refine W_reg ?_
      refine WL_y (Y_lss hT40_35 hT40_34) ?_
      refine WL_nil (nm_then ?_)
      refine W_seq ?_
      refine W_cond rfl (fun hc47 => ?_) (fun hc47 => ?_)
      · replace hz := bif_ok_t hz hc47
        refine W_skip (nm_then ?_)
        refine W_seq ?_
        refine W_block ?_
        refine W_seq ?_
        refine W_reg ?_
        obtain ⟨x49, hx48, hz⟩ := bind_ok hz
        obtain ⟨b48, o48, c48, p48, hv48, hi48, hj48, hM48, hr48⟩ := repL_at hv36 hx48
        replace hr48 : rep _ (sl p48 (o48 + Int.toNat y42 * 3) 3) x49 := hr48
        refine WL_y (Y_ixL il40 hT40_33 hv48 hT40_35 hi48 hj48) ?_
        have ha50 := hr48
        refine WL_y (Y_ldn ta46 rfl (hS.bvM hM48) (Rep.len ha50)) ?_
        refine WL_c (O_alloc tz46 hS ?_)
        intro b52 w51 hb52 hS
        replace hS : St w noX M39 [.box b52 (Zr.zc GOp) 46, .box b3 cx1 50] w51 := hS
        have zb52 : rep M39 (Zr.zc GOp) (Zr.zd : GOp) := Zr.zr
        have hw54 : ((sl p48 (o48 + Int.toNat y42 * 3) 3) : List Value).length = 3 := Rep.len ha50
        have hl54 : ((Zr.zc GOp)).length = 3 := Rep.len zb52
        obtain ⟨d55, hd54, hz⟩ := bind_ok hz
        have hb54 : rep M39 (pt (Zr.zc GOp) (0) (sl p48 (o48 + Int.toNat y42 * 3) 3)) d55 := rep_eq (rep_whole (k := 3) (by rw [pt_length (by omega)]; exact hl54) (rep_leaf rfl ha50 (by omega))) hd54
        generalize hg54 : (pt (Zr.zc GOp) (0) (sl p48 (o48 + Int.toNat y42 * 3) 3)) = cs54 at hb54
        refine WL_c (O_st (j := 0) (v := .agg (sl p48 (o48 + Int.toNat y42 * 3) 3).toArray) (ws := (sl p48 (o48 + Int.toNat y42 * 3) 3)) hS rfl (by kernel_rfl) rfl rfl rfl hw54 (Rep.one ha50) (by omega) ?_)
        rw [hg54]
        clear hg54
        intro w53 hS
        replace hS : St w noX M39 [.box b52 cs54 46, .box b3 cx1 50] w53 := hS
        refine WL_nil (nm_then ?_)
        refine W_drawB (Rd M39 [.box b52 cs54 46]) (inL []) mixed hS fun w56 hS => ?_
        have hG57 := Mm.ext.refl w.heap.size noX M39
        have hR58 : Rd M39 [.box b52 cs54 46] w56 := Rd.of hS hG57 (by simp)
        refine WB_y (i := 0) rfl (by kernel_rfl) rfl (Y_move (.string s41) hT40_5) (fun _ => hR58) ?_
        refine WB_y (i := 1) rfl (by kernel_rfl) rfl (Y_fa fa46_0 rfl) (fun _ => hR58) ?_
        refine WB_ld (i := 2) rfl (by kernel_rfl) rfl (inL_lt rfl) (by kernel_rfl) (by kernel_rfl) (Y_ld1 (.int .i64 d55.kind) ts3 rfl (bvR 0 rfl) (GOp.p0 (rep_root (k := 3) rfl hb54))) hR58 ?_
        refine WB_y (i := 4) rfl (by kernel_rfl) rfl (Y_fa fa46_1 rfl) (fun _ => hR58) ?_
        refine WB_ld (i := 5) rfl (by kernel_rfl) rfl (inL_lt rfl) (by kernel_rfl) (by kernel_rfl) (Y_ld1 (.int .i64 d55.key) ts3 rfl (bvR 0 rfl) (GOp.p1 (rep_root (k := 3) rfl hb54))) hR58 ?_
        refine WB_y (i := 8) rfl (by kernel_rfl) rfl (Y_fa fa46_2 rfl) (fun _ => hR58) ?_
        refine WB_ld (i := 9) rfl (by kernel_rfl) rfl (inL_lt rfl) (by kernel_rfl) (by kernel_rfl) (Y_ld1 (.int .i64 d55.n) ts3 rfl (bvR 0 rfl) (GOp.p2 (rep_root (k := 3) rfl hb54))) hR58 ?_
        obtain ⟨r61, hr60, hz⟩ := bind_ok hz
        replace hr60 := Option.some.inj hr60
        refine WB_one (i := 3) (by kernel_rfl) rfl (O_val (vs := [.int .i64 d55.kind]) (v := .string r61) cb73 (args1 rfl) hS (hr60 ▸ (c_byteOf)) ?_)
        intro w59 hS
        have hR62 : Rd M39 [.box b52 cs54 46] w59 := Rd.of hS hG57 (by simp)
        refine ⟨fun _ => hR62, ?_⟩
        obtain ⟨r65, hr64, hz⟩ := bind_ok hz
        replace hr64 := Option.some.inj hr64
        refine WB_one (i := 6) (by kernel_rfl) rfl (O_val (vs := [.int .i64 d55.key]) (v := .string r65) cb73 (args1 rfl) hS (hr64 ▸ (c_byteOf)) ?_)
        intro w63 hS
        have hR66 : Rd M39 [.box b52 cs54 46] w63 := Rd.of hS hG57 (by simp)
        refine ⟨fun _ => hR66, ?_⟩
        obtain ⟨s67, hx68, hz⟩ := bind_ok hz
        obtain ⟨hx68a, hx68⟩ := cat_some hx68
        refine WB_y (i := 7) rfl (by kernel_rfl) rfl ((hx68 ▸ Y_cat rfl rfl hx68a)) (fun _ => hR66) ?_
        obtain ⟨r71, hr70, hz⟩ := bind_ok hz
        refine WB_one (i := 10) (by kernel_rfl) rfl (O_val (vs := [.int .i64 d55.n]) (v := .string r71) cb78 (args1 rfl) hS (sixBytes_ok hS.agree hr70) ?_)
        intro w69 hS
        have hR72 : Rd M39 [.box b52 cs54 46] w69 := Rd.of hS hG57 (by simp)
        refine ⟨fun _ => hR72, ?_⟩
        obtain ⟨s73, hx74, hz⟩ := bind_ok hz
        obtain ⟨hx74a, hx74⟩ := cat_some hx74
        refine WB_y (i := 11) rfl (by kernel_rfl) rfl ((hx74 ▸ Y_cat rfl rfl hx74a)) (fun _ => hR72) ?_
        obtain ⟨s75, hx76, hz⟩ := bind_ok hz
        obtain ⟨hx76a, hx76⟩ := cat_some hx76
        refine WB_y (i := 12) rfl (by kernel_rfl) rfl ((hx76 ▸ Y_cat rfl rfl hx76a)) (fun _ => hR72) ?_
        refine WB_y (i := 13) rfl (by kernel_rfl) rfl (Y_assign (.string s75) rfl) (fun _ => hR72) ?_
        refine WB_done (by kernel_rfl) (nm_blk ?_)
        refine (nm_then ?_)
        refine W_reg ?_
        refine WL_y (Y_add hT40_35 rfl) ?_
        refine WL_y (Y_move (.int .i64 (IntKind.wrap .i64 (y42 + 1))) rfl) ?_
        refine WL_nil (nm_then ?_)
        exact ⟨M39, s75, (IntKind.wrap .i64 (y42 + 1)), hF45, (St.dropB hS hb52), hT40_1, rfl, hT40_33, hT40_34, rfl, (by rw [← hrec43]; exact hz)⟩
      · replace hz := bif_ok_f hz hc47
        refine W_exit ?_
        refine ex_then ?_
        refine ex_then ?_
        refine ex_hit ?_
        refine (nm_then ?_)
        refine W_seq ?_
        refine W_reg ?_
        refine WL_y (Y_move (.string s41) hT40_5) ?_
        refine WL_y (Y_fa fa50_4 hT40_1) ?_
        obtain ⟨v77, ev77, hv77⟩ := (GFrame.p4 (rep_root (k := 7) rfl hcx1))
        refine WL_y (Y_ld1 v77 ts34 rfl (hS.bvB 0 rfl) ev77) ?_
        obtain ⟨a78, c78, hv78, _⟩ := repL_shape hv77
        refine WL_y (Y_lenL Try.underlying34 (tr2 hv78 rfl)) ?_
        obtain ⟨r81, hr80, hz⟩ := bind_ok hz
        replace hr80 := Option.some.inj hr80
        refine WL_c (O_val (vs := [.int .i64 (x1.deps.length : Int)]) (v := .string r81) cb73 (args1 rfl) hS (hr80 ▸ (c_byteOf)) ?_)
        intro w79 hS
        obtain ⟨s82, hx83, hz⟩ := bind_ok hz
        obtain ⟨hx83a, hx83⟩ := cat_some hx83
        refine WL_y ((hx83 ▸ Y_cat rfl rfl hx83a)) ?_
        refine WL_y (Y_assign (.string s82) rfl) ?_
        refine WL_nil (nm_then ?_)
        refine W_seq ?_
        refine W_seq ?_
        refine W_reg ?_
        refine WL_y (Y_fa fa50_4 hT40_1) ?_
        obtain ⟨v84, ev84, hv84⟩ := (GFrame.p4 (rep_root (k := 7) rfl hcx1))
        refine WL_y (Y_ld1 v84 ts34 rfl (hS.bvB 0 rfl) ev84) ?_
        obtain ⟨a85, c85, hv85, _⟩ := repL_shape hv84
        refine WL_y (Y_lenL Try.underlying34 (tr2 hv85 rfl)) ?_
        refine WL_y (Y_move (.int .i64 0) rfl) ?_
        refine WL_nil (nm_then ?_)
        refine W_block ?_
        refine W_loop (fun k92 T' w' => ∃ M87 s89 y90, Mm.ext w.heap.size noX M39 M87 ∧ St w noX M87 [.box b3 cx1 50] w' ∧ T' 1 = .pointer (some ⟨b3, 0, none⟩) ∧ T' 5 = .string s89 ∧ T' 60 = v84 ∧ T' 61 = .int .i64 (x1.deps.length : Int) ∧ T' 62 = .int .i64 y90 ∧ encodeFrame_l2 fu x1 k92 s89 y90 = some r) fu ?_ ?_ ?_
        · exact ⟨M39, s82, (0 : Int), (Mm.ext.refl _ _ _), hS, hT40_1, rfl, rfl, rfl, rfl, hz⟩
        · rintro T' w' ⟨_, _, _, _, _, _, _, _, _, _, hz⟩
          rw [encodeFrame_l2] at hz
          cases hz
        · intro k92
          rintro T88 w86 ⟨M87, s89, y90, hx94, hS, hT88_1, hT88_5, hT88_60, hT88_61, hT88_62, hz⟩
          replace hcx1 := Rep.mono hx94.1 hcx1
          replace hv84 := repL.mono hx94.1 hv84
          replace hE := Mm.ext.trans hE hx94
          replace hF45 := Mm.ext.trans hF45 hx94
          have hF93 := hx94
          rw [encodeFrame_l2] at hz
          obtain ⟨rec91, hrec91⟩ : ∃ f, f = encodeFrame_l2 fu x1 k92 := ⟨_, rfl⟩
          rw [← hrec91] at hz
          refine W_seq ?_
          refine W_reg ?_
          refine WL_y (Y_lss hT88_62 hT88_61) ?_
          refine WL_nil (nm_then ?_)
          refine W_seq ?_
          refine W_cond rfl (fun hc95 => ?_) (fun hc95 => ?_)
          · replace hz := bif_ok_t hz hc95
            refine W_skip (nm_then ?_)
            refine W_seq ?_
            refine W_block ?_
            refine W_seq ?_
            refine W_reg ?_
            obtain ⟨x97, hx96, hz⟩ := bind_ok hz
            obtain ⟨b96, o96, c96, p96, hv96, hi96, hj96, hM96, hr96⟩ := repL_at hv84 hx96
            replace hr96 : rep _ (sl p96 (o96 + Int.toNat y90 * 1) 1) x97 := hr96
            refine WL_y (Y_ixL il34 hT88_60 hv96 hT88_62 hi96 hj96) ?_
            refine WL_y (Y_ld1 (.int .i64 x97) ts3 rfl (hS.bvM hM96) hr96) ?_
            refine WL_y (Y_assign (.int .i64 x97) rfl) ?_
            refine WL_nil (nm_then ?_)
            refine W_reg ?_
            refine WL_y (Y_move (.string s89) hT88_5) ?_
            refine WL_y (Y_move (.int .i64 x97) rfl) ?_
            obtain ⟨r100, hr99, hz⟩ := bind_ok hz
            replace hr99 := Option.some.inj hr99
            refine WL_c (O_val (vs := [.int .i64 x97]) (v := .string r100) cb73 (args1 rfl) hS (hr99 ▸ (c_byteOf)) ?_)
            intro w98 hS
            obtain ⟨s101, hx102, hz⟩ := bind_ok hz
            obtain ⟨hx102a, hx102⟩ := cat_some hx102
            refine WL_y ((hx102 ▸ Y_cat rfl rfl hx102a)) ?_
            refine WL_y (Y_assign (.string s101) rfl) ?_
            refine WL_nil (nm_blk ?_)
            refine (nm_then ?_)
            refine W_reg ?_
            refine WL_y (Y_add hT88_62 rfl) ?_
            refine WL_y (Y_move (.int .i64 (IntKind.wrap .i64 (y90 + 1))) rfl) ?_
            refine WL_nil (nm_then ?_)
            exact ⟨M87, s101, (IntKind.wrap .i64 (y90 + 1)), hF93, hS, hT88_1, rfl, hT88_60, hT88_61, rfl, (by rw [← hrec91]; exact hz)⟩
          · replace hz := bif_ok_f hz hc95
            refine W_exit ?_
            refine ex_then ?_
            refine ex_then ?_
            refine ex_hit ?_
            refine (nm_then ?_)
            refine W_seq ?_
            refine W_reg ?_
            refine WL_y (Y_move (.string s89) hT88_5) ?_
            refine WL_y (Y_fa fa50_5 hT88_1) ?_
            obtain ⟨v103, ev103, hv103⟩ := (GFrame.p5 (rep_root (k := 7) rfl hcx1))
            refine WL_y (Y_ld1 v103 ts34 rfl (hS.bvB 0 rfl) ev103) ?_
            obtain ⟨a104, c104, hv104, _⟩ := repL_shape hv103
            refine WL_y (Y_lenL Try.underlying34 (tr2 hv104 rfl)) ?_
            obtain ⟨r107, hr106, hz⟩ := bind_ok hz
            replace hr106 := Option.some.inj hr106
            refine WL_c (O_val (vs := [.int .i64 (x1.at_.length : Int)]) (v := .string r107) cb73 (args1 rfl) hS (hr106 ▸ (c_byteOf)) ?_)
            intro w105 hS
            obtain ⟨s108, hx109, hz⟩ := bind_ok hz
            obtain ⟨hx109a, hx109⟩ := cat_some hx109
            refine WL_y ((hx109 ▸ Y_cat rfl rfl hx109a)) ?_
            refine WL_y (Y_assign (.string s108) rfl) ?_
            refine WL_nil (nm_then ?_)
            refine W_seq ?_
            refine W_seq ?_
            refine W_reg ?_
            refine WL_y (Y_fa fa50_5 hT88_1) ?_
            obtain ⟨v110, ev110, hv110⟩ := (GFrame.p5 (rep_root (k := 7) rfl hcx1))
            refine WL_y (Y_ld1 v110 ts34 rfl (hS.bvB 0 rfl) ev110) ?_
            obtain ⟨a111, c111, hv111, _⟩ := repL_shape hv110
            refine WL_y (Y_lenL Try.underlying34 (tr2 hv111 rfl)) ?_
            refine WL_y (Y_move (.int .i64 0) rfl) ?_
            refine WL_nil (nm_then ?_)
            refine W_block ?_
            refine W_loop (fun k118 T' w' => ∃ M113 s115 y116, Mm.ext w.heap.size noX M87 M113 ∧ St w noX M113 [.box b3 cx1 50] w' ∧ T' 1 = .pointer (some ⟨b3, 0, none⟩) ∧ T' 5 = .string s115 ∧ T' 79 = .int .i64 (x1.at_.length : Int) ∧ T' 80 = .int .i64 y116 ∧ encodeFrame_l3 fu x1 k118 s115 y116 = some r) fu ?_ ?_ ?_
            · exact ⟨M87, s108, (0 : Int), (Mm.ext.refl _ _ _), hS, hT88_1, rfl, rfl, rfl, hz⟩
            · rintro T' w' ⟨_, _, _, _, _, _, _, _, _, hz⟩
              rw [encodeFrame_l3] at hz
              cases hz
            · intro k118
              rintro T114 w112 ⟨M113, s115, y116, hx120, hS, hT114_1, hT114_5, hT114_79, hT114_80, hz⟩
              replace hcx1 := Rep.mono hx120.1 hcx1
              replace hE := Mm.ext.trans hE hx120
              replace hF45 := Mm.ext.trans hF45 hx120
              replace hF93 := Mm.ext.trans hF93 hx120
              have hF119 := hx120
              rw [encodeFrame_l3] at hz
              obtain ⟨rec117, hrec117⟩ : ∃ f, f = encodeFrame_l3 fu x1 k118 := ⟨_, rfl⟩
              rw [← hrec117] at hz
              refine W_seq ?_
              refine W_reg ?_
              refine WL_y (Y_lss hT114_80 hT114_79) ?_
              refine WL_nil (nm_then ?_)
              refine W_seq ?_
              refine W_cond rfl (fun hc121 => ?_) (fun hc121 => ?_)
              · replace hz := bif_ok_t hz hc121
                refine W_skip (nm_then ?_)
                refine W_seq ?_
                refine W_block ?_
                refine W_seq ?_
                refine W_reg ?_
                refine WL_y (Y_move (.int .i64 y116) hT114_80) ?_
                refine WL_y (Y_assign (.int .i64 y116) rfl) ?_
                refine WL_nil (nm_then ?_)
                refine W_drawB (Rd M113 [.box b3 cx1 50]) (inL []) mixed hS fun w122 hS => ?_
                have hG123 := Mm.ext.refl w.heap.size noX M113
                have hR124 : Rd M113 [.box b3 cx1 50] w122 := Rd.of hS hG123 (by simp)
                refine WB_y (i := 0) rfl (by kernel_rfl) rfl (Y_move (.string s115) hT114_5) (fun _ => hR124) ?_
                refine WB_y (i := 1) rfl (by kernel_rfl) rfl (Y_fa fa50_5 hT114_1) (fun _ => hR124) ?_
                obtain ⟨v125, ev125, hv125⟩ := (GFrame.p5 (rep_root (k := 7) rfl hcx1))
                refine WB_ld (i := 2) rfl (by kernel_rfl) rfl (inL_lt rfl) (by kernel_rfl) (by kernel_rfl) (Y_ld1 v125 ts34 rfl (bvR 0 rfl) ev125) hR124 ?_
                refine WB_y (i := 3) rfl (by kernel_rfl) rfl (Y_move (.int .i64 y116) rfl) (fun _ => hR124) ?_
                obtain ⟨x127, hx126, hz⟩ := bind_ok hz
                obtain ⟨b126, o126, c126, p126, hv126, hi126, hj126, hM126, hr126⟩ := repL_at hv125 hx126
                replace hr126 : rep _ (sl p126 (o126 + Int.toNat y116 * 1) 1) x127 := hr126
                refine WB_y (i := 4) rfl (by kernel_rfl) rfl (Y_ixL il34 rfl hv126 rfl hi126 hj126) (fun _ => hR124) ?_
                refine WB_ld (i := 5) rfl (by kernel_rfl) rfl (inL_lt rfl) (by kernel_rfl) (by kernel_rfl) (Y_ld1 (.int .i64 x127) ts3 rfl (bvRM hM126) hr126) hR124 ?_
                refine WB_y (i := 7) rfl (by kernel_rfl) rfl (Y_fa fa50_6 hT114_1) (fun _ => hR124) ?_
                obtain ⟨v128, ev128, hv128⟩ := (GFrame.p6 (rep_root (k := 7) rfl hcx1))
                refine WB_ld (i := 8) rfl (by kernel_rfl) rfl (inL_lt rfl) (by kernel_rfl) (by kernel_rfl) (Y_ld1 v128 ts34 rfl (bvR 0 rfl) ev128) hR124 ?_
                refine WB_y (i := 9) rfl (by kernel_rfl) rfl (Y_move (.int .i64 y116) rfl) (fun _ => hR124) ?_
                obtain ⟨x130, hx129, hz⟩ := bind_ok hz
                obtain ⟨b129, o129, c129, p129, hv129, hi129, hj129, hM129, hr129⟩ := repL_at hv128 hx129
                replace hr129 : rep _ (sl p129 (o129 + Int.toNat y116 * 1) 1) x130 := hr129
                refine WB_y (i := 10) rfl (by kernel_rfl) rfl (Y_ixL il34 rfl hv129 rfl hi129 hj129) (fun _ => hR124) ?_
                refine WB_ld (i := 11) rfl (by kernel_rfl) rfl (inL_lt rfl) (by kernel_rfl) (by kernel_rfl) (Y_ld1 (.int .i64 x130) ts3 rfl (bvRM hM129) hr129) hR124 ?_
                obtain ⟨r133, hr132, hz⟩ := bind_ok hz
                replace hr132 := Option.some.inj hr132
                refine WB_one (i := 6) (by kernel_rfl) rfl (O_val (vs := [.int .i64 x127]) (v := .string r133) cb73 (args1 rfl) hS (hr132 ▸ (c_byteOf)) ?_)
                intro w131 hS
                have hR134 : Rd M113 [.box b3 cx1 50] w131 := Rd.of hS hG123 (by simp)
                refine ⟨fun _ => hR134, ?_⟩
                obtain ⟨r137, hr136, hz⟩ := bind_ok hz
                refine WB_one (i := 12) (by kernel_rfl) rfl (O_val (vs := [.int .i64 x130]) (v := .string r137) cb78 (args1 rfl) hS (sixBytes_ok hS.agree hr136) ?_)
                intro w135 hS
                have hR138 : Rd M113 [.box b3 cx1 50] w135 := Rd.of hS hG123 (by simp)
                refine ⟨fun _ => hR138, ?_⟩
                obtain ⟨s139, hx140, hz⟩ := bind_ok hz
                obtain ⟨hx140a, hx140⟩ := cat_some hx140
                refine WB_y (i := 13) rfl (by kernel_rfl) rfl ((hx140 ▸ Y_cat rfl rfl hx140a)) (fun _ => hR138) ?_
                obtain ⟨s141, hx142, hz⟩ := bind_ok hz
                obtain ⟨hx142a, hx142⟩ := cat_some hx142
                refine WB_y (i := 14) rfl (by kernel_rfl) rfl ((hx142 ▸ Y_cat rfl rfl hx142a)) (fun _ => hR138) ?_
                refine WB_y (i := 15) rfl (by kernel_rfl) rfl (Y_assign (.string s141) rfl) (fun _ => hR138) ?_
                refine WB_done (by kernel_rfl) (nm_blk ?_)
                refine (nm_then ?_)
                refine W_reg ?_
                refine WL_y (Y_add hT114_80 rfl) ?_
                refine WL_y (Y_move (.int .i64 (IntKind.wrap .i64 (y116 + 1))) rfl) ?_
                refine WL_nil (nm_then ?_)
                exact ⟨M113, s141, (IntKind.wrap .i64 (y116 + 1)), hF119, hS, hT114_1, rfl, hT114_79, rfl, (by rw [← hrec117]; exact hz)⟩
              · replace hz := bif_ok_f hz hc121
                refine W_exit ?_
                refine ex_then ?_
                refine ex_then ?_
                refine ex_hit ?_
                refine (nm_then ?_)
                refine W_seq ?_
                refine W_reg ?_
                refine WL_y (Y_move (.string s115) hT114_5) ?_
                refine WL_y (Y_assign (.string s115) rfl) ?_
                refine WL_y (Y_assign (.int .i64 0) rfl) ?_
                refine WL_nil (nm_then ?_)
                cases hz
                exact W_ret (R_t2 rfl rfl rfl ⟨rfl, (St.dropB hS hb3).kept⟩)

def lawFrameD (fu : Nat) (x1 : GFrame) : Option GFrame :=
    (app ([] : List GOp) x1.ops).bind fun l14 =>
    (app ([] : List Int) x1.deps).bind fun l19 =>
    (some ({ x1 with ops := l14 } : GFrame)).bind fun d23 =>
    (some ({ d23 with deps := l19 } : GFrame)).bind fun d26 =>
    (app ([] : List Int) d26.at_).bind fun l35 =>
    (app ([] : List Int) d26.vals).bind fun l40 =>
    (some ({ d26 with at_ := l35 } : GFrame)).bind fun d44 =>
    (some ({ d44 with vals := l40 } : GFrame)).bind fun d47 =>
    (some d47).bind fun d51 =>
    some d51

set_option maxRecDepth 100000 in
set_option maxHeartbeats 4000000 in
theorem lawFrame_ok {M : Mm} {w : World} {cx1 : List Value} {x1 : GFrame} {fu : Nat} {r : GFrame} (hA : Agree M w) (hcx1 : rep M cx1 x1) (hz : lawFrameD fu x1 = some r) :
    Calls Try.prog 45 #[.agg cx1.toArray] w (Gives M w (fun M' u => ∃ cs, u = .agg cs.toArray ∧ rep M' cs r)) := by
  refine calls_W Try.func45 rfl 20 rfl rfl (by kernel_rfl) fun T hT => ?_
  have hT_0 : T 0 = .agg cx1.toArray := hT 0
  clear hT
  have hE := Mm.ext.refl w.heap.size noX M
  have hS : St w noX M [] w := St.start hA
  rw [lawFrameD] at hz
  refine W_seq ?_
  refine W_reg ?_
  refine WL_c (O_box (v := .agg cx1.toArray) (cs := cx1) hT_0 rfl hS ?_)
  intro b3 w2 hb3 hS
  replace hS : St w noX M [.box b3 cx1 50] w2 := hS
  refine WL_c (O_alloc tz50 hS ?_)
  intro b5 w4 hb5 hS
  replace hS : St w noX M [.box b5 (Zr.zc GFrame) 50, .box b3 cx1 50] w4 := hS
  have zb5 : rep M (Zr.zc GFrame) (Zr.zd : GFrame) := Zr.zr
  refine WL_nil (nm_then ?_)
  refine W_seq ?_
  refine W_drawB (Rd M [.box b3 cx1 50]) (inL [7, 9]) mixed hS fun w6 hS => ?_
  have hG7 := Mm.ext.refl w.heap.size noX M
  have hR8 : Rd M [.box b3 cx1 50] w6 := Rd.of hS hG7 (by simp)
  refine WB_y (i := 0) rfl (by kernel_rfl) rfl (Y_fa fa50_3 rfl) (fun _ => hR8) ?_
  obtain ⟨v9, ev9, hv9⟩ := (GFrame.p3 (rep_root (k := 7) rfl hcx1))
  refine WB_ld (i := 1) rfl (by kernel_rfl) rfl (inL_lt rfl) (by kernel_rfl) (by kernel_rfl) (Y_ld1 v9 ts40 rfl (bvR 0 rfl) ev9) hR8 ?_
  refine WB_y (i := 3) rfl (by kernel_rfl) rfl (Y_fa fa50_4 rfl) (fun _ => hR8) ?_
  obtain ⟨v10, ev10, hv10⟩ := (GFrame.p4 (rep_root (k := 7) rfl hcx1))
  refine WB_ld (i := 4) rfl (by kernel_rfl) rfl (inL_lt rfl) (by kernel_rfl) (by kernel_rfl) (Y_ld1 v10 ts34 rfl (bvR 0 rfl) ev10) hR8 ?_
  replace hS := hS.nilRow 46 3
  replace hS : St w noX M [.row (.slice none 0 0) 46 3, .box b5 (Zr.zc GFrame) 50, .box b3 cx1 50] w6 := hS
  obtain ⟨l14, hr13, hz⟩ := bind_ok hz
  obtain ⟨hy13, hr13⟩ := app_some hr13
  refine WB_one (i := 2) (by kernel_rfl) rfl (O_app (α := GOp) (j := 0) tp40 hS rfl rfl rfl (repL_nil _) hv9 hy13 ?_)
  intro v13 M13 w11 hx13 hv13 hS
  rw [← hr13] at hv13
  clear hr13
  replace hcx1 := Rep.mono hx13.1 hcx1
  replace zb5 := Rep.mono hx13.1 zb5
  replace hv9 := repL.mono hx13.1 hv9
  replace hv10 := repL.mono hx13.1 hv10
  replace hE := Mm.ext.trans hE hx13
  replace hG7 := Mm.ext.trans hG7 hx13
  replace hS : St w noX M13 [.row v13 46 3, .box b5 (Zr.zc GFrame) 50, .box b3 cx1 50] w11 := hS
  have hR15 : Rd M [.box b3 cx1 50] w11 := Rd.of hS hG7 (by simp)
  refine ⟨fun _ => hR15, ?_⟩
  refine WB_y (i := 6) rfl (by kernel_rfl) rfl (Y_fa fa50_3 rfl) (fun _ => hR15) ?_
  replace hS := hS.nilRow 3 1
  replace hS : St w noX M13 [.row (.slice none 0 0) 3 1, .row v13 46 3, .box b5 (Zr.zc GFrame) 50, .box b3 cx1 50] w11 := hS
  obtain ⟨l19, hr18, hz⟩ := bind_ok hz
  obtain ⟨hy18, hr18⟩ := app_some hr18
  refine WB_one (i := 5) (by kernel_rfl) rfl (O_app (α := Int) (j := 0) tp34 hS rfl rfl rfl (repL_nil _) hv10 hy18 ?_)
  intro v18 M18 w16 hx18 hv18 hS
  rw [← hr18] at hv18
  clear hr18
  replace hcx1 := Rep.mono hx18.1 hcx1
  replace zb5 := Rep.mono hx18.1 zb5
  replace hv9 := repL.mono hx18.1 hv9
  replace hv10 := repL.mono hx18.1 hv10
  replace hv13 := repL.mono hx18.1 hv13
  replace hE := Mm.ext.trans hE hx18
  replace hG7 := Mm.ext.trans hG7 hx18
  replace hS : St w noX M18 [.row v18 3 1, .row v13 46 3, .box b5 (Zr.zc GFrame) 50, .box b3 cx1 50] w16 := hS
  have hR20 : Rd M [.box b3 cx1 50] w16 := Rd.of hS hG7 (by simp)
  refine ⟨fun _ => hR20, ?_⟩
  have hw22 : ([v13] : List Value).length = 1 := Rep.len (repL_rep hv13)
  have hl22 : (cx1).length = 7 := Rep.len hcx1
  obtain ⟨d23, hd22, hz⟩ := bind_ok hz
  have hb22 : rep M18 (pt cx1 (0 + 3) [v13]) d23 := rep_eq (rep_whole (k := 7) (by rw [pt_length (by omega)]; exact hl22) (GFrame.s3 (rep_root (k := 7) rfl hcx1) (rep_leaf rfl (repL_rep hv13) (by omega)) (by omega) (by omega) (by omega))) hd22
  generalize hg22 : (pt cx1 (0 + 3) [v13]) = cs22 at hb22
  refine WB_one (i := 7) (by kernel_rfl) rfl (O_st (j := 3) (v := v13) (ws := [v13]) hS rfl (by kernel_rfl) rfl rfl (repL_cells hv13) hw22 (Rep.one (repL_rep hv13)) (by omega) ?_)
  rw [hg22]
  clear hg22
  intro w21 hS
  replace hS : St w noX M18 [.row v18 3 1, .row v13 46 3, .box b5 (Zr.zc GFrame) 50, .box b3 cs22 50] w21 := hS
  refine ⟨fun h => Bool.noConfusion (show false = true from h), ?_⟩
  refine WB_y (i := 8) rfl (by kernel_rfl) rfl (Y_fa fa50_4 rfl) (fun h => Bool.noConfusion (show false = true from h)) ?_
  have hw25 : ([v18] : List Value).length = 1 := Rep.len (repL_rep hv18)
  have hl25 : (cs22).length = 7 := Rep.len hb22
  obtain ⟨d26, hd25, hz⟩ := bind_ok hz
  have hb25 : rep M18 (pt cs22 (0 + 4) [v18]) d26 := rep_eq (rep_whole (k := 7) (by rw [pt_length (by omega)]; exact hl25) (GFrame.s4 (rep_root (k := 7) rfl hb22) (rep_leaf rfl (repL_rep hv18) (by omega)) (by omega) (by omega) (by omega))) hd25
  generalize hg25 : (pt cs22 (0 + 4) [v18]) = cs25 at hb25
  refine WB_one (i := 9) (by kernel_rfl) rfl (O_st (j := 3) (v := v18) (ws := [v18]) hS rfl (by kernel_rfl) rfl rfl (repL_cells hv18) hw25 (Rep.one (repL_rep hv18)) (by omega) ?_)
  rw [hg25]
  clear hg25
  intro w24 hS
  replace hS : St w noX M18 [.row v18 3 1, .row v13 46 3, .box b5 (Zr.zc GFrame) 50, .box b3 cs25 50] w24 := hS
  refine ⟨fun h => Bool.noConfusion (show false = true from h), ?_⟩
  refine WB_done (by kernel_rfl) (nm_then ?_)
  refine W_seq ?_
  refine W_drawB (Rd M18 [.box b3 cs25 50]) (inL [7, 9]) mixed hS fun w27 hS => ?_
  have hG28 := Mm.ext.refl w.heap.size noX M18
  have hR29 : Rd M18 [.box b3 cs25 50] w27 := Rd.of hS hG28 (by simp)
  refine WB_y (i := 0) rfl (by kernel_rfl) rfl (Y_fa fa50_5 rfl) (fun _ => hR29) ?_
  obtain ⟨v30, ev30, hv30⟩ := (GFrame.p5 (rep_root (k := 7) rfl hb25))
  refine WB_ld (i := 1) rfl (by kernel_rfl) rfl (inL_lt rfl) (by kernel_rfl) (by kernel_rfl) (Y_ld1 v30 ts34 rfl (bvR 0 rfl) ev30) hR29 ?_
  refine WB_y (i := 3) rfl (by kernel_rfl) rfl (Y_fa fa50_6 rfl) (fun _ => hR29) ?_
  obtain ⟨v31, ev31, hv31⟩ := (GFrame.p6 (rep_root (k := 7) rfl hb25))
  refine WB_ld (i := 4) rfl (by kernel_rfl) rfl (inL_lt rfl) (by kernel_rfl) (by kernel_rfl) (Y_ld1 v31 ts34 rfl (bvR 0 rfl) ev31) hR29 ?_
  replace hS := hS.nilRow 3 1
  replace hS : St w noX M18 [.row (.slice none 0 0) 3 1, .row v18 3 1, .row v13 46 3, .box b5 (Zr.zc GFrame) 50, .box b3 cs25 50] w27 := hS
  obtain ⟨l35, hr34, hz⟩ := bind_ok hz
  obtain ⟨hy34, hr34⟩ := app_some hr34
  refine WB_one (i := 2) (by kernel_rfl) rfl (O_app (α := Int) (j := 0) tp34 hS rfl rfl rfl (repL_nil _) hv30 hy34 ?_)
  intro v34 M34 w32 hx34 hv34 hS
  rw [← hr34] at hv34
  clear hr34
  replace zb5 := Rep.mono hx34.1 zb5
  replace hb25 := Rep.mono hx34.1 hb25
  replace hv30 := repL.mono hx34.1 hv30
  replace hv31 := repL.mono hx34.1 hv31
  replace hE := Mm.ext.trans hE hx34
  replace hG28 := Mm.ext.trans hG28 hx34
  replace hS : St w noX M34 [.row v34 3 1, .row v18 3 1, .row v13 46 3, .box b5 (Zr.zc GFrame) 50, .box b3 cs25 50] w32 := hS
  have hR36 : Rd M18 [.box b3 cs25 50] w32 := Rd.of hS hG28 (by simp)
  refine ⟨fun _ => hR36, ?_⟩
  refine WB_y (i := 6) rfl (by kernel_rfl) rfl (Y_fa fa50_5 rfl) (fun _ => hR36) ?_
  replace hS := hS.nilRow 3 1
  replace hS : St w noX M34 [.row (.slice none 0 0) 3 1, .row v34 3 1, .row v18 3 1, .row v13 46 3, .box b5 (Zr.zc GFrame) 50, .box b3 cs25 50] w32 := hS
  obtain ⟨l40, hr39, hz⟩ := bind_ok hz
  obtain ⟨hy39, hr39⟩ := app_some hr39
  refine WB_one (i := 5) (by kernel_rfl) rfl (O_app (α := Int) (j := 0) tp34 hS rfl rfl rfl (repL_nil _) hv31 hy39 ?_)
  intro v39 M39 w37 hx39 hv39 hS
  rw [← hr39] at hv39
  clear hr39
  replace zb5 := Rep.mono hx39.1 zb5
  replace hb25 := Rep.mono hx39.1 hb25
  replace hv30 := repL.mono hx39.1 hv30
  replace hv31 := repL.mono hx39.1 hv31
  replace hv34 := repL.mono hx39.1 hv34
  replace hE := Mm.ext.trans hE hx39
  replace hG28 := Mm.ext.trans hG28 hx39
  replace hS : St w noX M39 [.row v39 3 1, .row v34 3 1, .row v18 3 1, .row v13 46 3, .box b5 (Zr.zc GFrame) 50, .box b3 cs25 50] w37 := hS
  have hR41 : Rd M18 [.box b3 cs25 50] w37 := Rd.of hS hG28 (by simp)
  refine ⟨fun _ => hR41, ?_⟩
  have hw43 : ([v34] : List Value).length = 1 := Rep.len (repL_rep hv34)
  have hl43 : (cs25).length = 7 := Rep.len hb25
  obtain ⟨d44, hd43, hz⟩ := bind_ok hz
  have hb43 : rep M39 (pt cs25 (0 + 5) [v34]) d44 := rep_eq (rep_whole (k := 7) (by rw [pt_length (by omega)]; exact hl43) (GFrame.s5 (rep_root (k := 7) rfl hb25) (rep_leaf rfl (repL_rep hv34) (by omega)) (by omega) (by omega) (by omega))) hd43
  generalize hg43 : (pt cs25 (0 + 5) [v34]) = cs43 at hb43
  refine WB_one (i := 7) (by kernel_rfl) rfl (O_st (j := 5) (v := v34) (ws := [v34]) hS rfl (by kernel_rfl) rfl rfl (repL_cells hv34) hw43 (Rep.one (repL_rep hv34)) (by omega) ?_)
  rw [hg43]
  clear hg43
  intro w42 hS
  replace hS : St w noX M39 [.row v39 3 1, .row v34 3 1, .row v18 3 1, .row v13 46 3, .box b5 (Zr.zc GFrame) 50, .box b3 cs43 50] w42 := hS
  refine ⟨fun h => Bool.noConfusion (show false = true from h), ?_⟩
  refine WB_y (i := 8) rfl (by kernel_rfl) rfl (Y_fa fa50_6 rfl) (fun h => Bool.noConfusion (show false = true from h)) ?_
  have hw46 : ([v39] : List Value).length = 1 := Rep.len (repL_rep hv39)
  have hl46 : (cs43).length = 7 := Rep.len hb43
  obtain ⟨d47, hd46, hz⟩ := bind_ok hz
  have hb46 : rep M39 (pt cs43 (0 + 6) [v39]) d47 := rep_eq (rep_whole (k := 7) (by rw [pt_length (by omega)]; exact hl46) (GFrame.s6 (rep_root (k := 7) rfl hb43) (rep_leaf rfl (repL_rep hv39) (by omega)) (by omega) (by omega) (by omega))) hd46
  generalize hg46 : (pt cs43 (0 + 6) [v39]) = cs46 at hb46
  refine WB_one (i := 9) (by kernel_rfl) rfl (O_st (j := 5) (v := v39) (ws := [v39]) hS rfl (by kernel_rfl) rfl rfl (repL_cells hv39) hw46 (Rep.one (repL_rep hv39)) (by omega) ?_)
  rw [hg46]
  clear hg46
  intro w45 hS
  replace hS : St w noX M39 [.row v39 3 1, .row v34 3 1, .row v18 3 1, .row v13 46 3, .box b5 (Zr.zc GFrame) 50, .box b3 cs46 50] w45 := hS
  refine ⟨fun h => Bool.noConfusion (show false = true from h), ?_⟩
  refine WB_done (by kernel_rfl) (nm_then ?_)
  refine W_seq ?_
  refine W_reg ?_
  have ha48 := (rep_root (k := 7) rfl hb46)
  refine WL_y (Y_ldn ta50 rfl (hS.bvB 5 rfl) (Rep.len ha48)) ?_
  have hw50 : ((sl cs46 (0) 7) : List Value).length = 7 := Rep.len ha48
  have hl50 : ((Zr.zc GFrame)).length = 7 := Rep.len zb5
  obtain ⟨d51, hd50, hz⟩ := bind_ok hz
  have hb50 : rep M39 (pt (Zr.zc GFrame) (0) (sl cs46 (0) 7)) d51 := rep_eq (rep_whole (k := 7) (by rw [pt_length (by omega)]; exact hl50) (rep_leaf rfl ha48 (by omega))) hd50
  generalize hg50 : (pt (Zr.zc GFrame) (0) (sl cs46 (0) 7)) = cs50 at hb50
  refine WL_c (O_st (j := 4) (v := .agg (sl cs46 (0) 7).toArray) (ws := (sl cs46 (0) 7)) hS rfl (by kernel_rfl) rfl rfl rfl hw50 (Rep.one ha48) (by omega) ?_)
  rw [hg50]
  clear hg50
  intro w49 hS
  replace hS : St w noX M39 [.row v39 3 1, .row v34 3 1, .row v18 3 1, .row v13 46 3, .box b5 cs50 50, .box b3 cs46 50] w49 := hS
  refine WL_nil (nm_then ?_)
  cases hz
  exact W_ret (R_c (j := 4) rfl rfl (by rw [Rep.len hb50]; exact ta50) hS rfl (Gives.mk (St.dropB (St.dropB (St.drop (St.drop (St.drop (St.drop hS)))) hb5) hb3) hE ⟨_, rfl, hb50⟩))

def lawFrames_j1 (c9 : Bool) : Option Bool :=
    some c9

def lawFramesD (fu : Nat) : Option Bool :=
    (some ({ kind := 4, node := 2, id := 7, ops := Zr.zd, deps := Zr.zd, at_ := Zr.zd, vals := Zr.zd } : GFrame)).bind fun d2 =>
    (encodeD fu d2).bind fun r5 =>
    (bif r5.2 == 0 then
    lawFrames_j1 (r5.1.toList == (⟨#[4, 2, 7, 0, 0, 0]⟩ : ByteArray).toList)
    else
    lawFrames_j1 false)

set_option maxRecDepth 100000 in
set_option maxHeartbeats 4000000 in
theorem lawFrames_ok {M : Mm} {w : World} {fu : Nat} {r : Bool} (hA : Agree M w)  (hz : lawFramesD fu = some r) :
    Calls Try.prog 49 #[] w (GivesV w (.bool r)) := by
  refine calls_W Try.func49 rfl 14 rfl rfl (by kernel_rfl) fun T hT => ?_
  clear hT
  have hE := Mm.ext.refl w.heap.size noX M
  have hS : St w noX M [] w := St.start hA
  rw [lawFramesD] at hz
  refine W_seq ?_
  refine W_reg ?_
  refine WL_y (Y_assign (.bool false) rfl) ?_
  refine WL_nil (nm_then ?_)
  refine W_seq ?_
  refine W_reg ?_
  have k1_0 := GFrame.w0 (Zr.zr : rep M (Zr.zc GFrame) (Zr.zd : GFrame)) (show rep M [Value.int .i64 4] (4 : Int) from rfl)
  have k1_1 := GFrame.w1 k1_0 (show rep M [Value.int .i64 2] (2 : Int) from rfl)
  have k1_2 := GFrame.w2 k1_1 (show rep M [Value.int .i64 7] (7 : Int) from rfl)
  obtain ⟨d2, hd1, hz⟩ := bind_ok hz
  obtain ⟨cs1, hf1, ha1⟩ : ∃ cs, fillZ (([(0, 1), (1, 1), (2, 1), (3, 1), (4, 1), (5, 1), (6, 1)] : List (Nat × Nat))[·]?) (Zr.zc GFrame) [(0, .int .i64 4), (1, .int .i64 2), (2, .int .i64 7)] = some cs ∧ rep M cs d2 := ⟨_, (fz_cons (Zr.zr : rep M (Zr.zc GFrame) (Zr.zd : GFrame)) rfl rfl (Rep.len (show rep M [Value.int .i64 4] (4 : Int) from rfl)) (by decide) (fz_cons k1_0 rfl rfl (Rep.len (show rep M [Value.int .i64 2] (2 : Int) from rfl)) (by decide) (fz_cons k1_1 rfl rfl (Rep.len (show rep M [Value.int .i64 7] (7 : Int) from rfl)) (by decide) fz_nil))), rep_eq (x := ({ kind := 4, node := 2, id := 7, ops := Zr.zd, deps := Zr.zd, at_ := Zr.zd, vals := Zr.zd } : GFrame)) k1_2 hd1⟩
  refine WL_y (Y_build [(0, .int .i64 4), (1, .int .i64 2), (2, .int .i64 7)] tb50 (bpc rfl (bpc rfl (bpc rfl bp0))) hf1) ?_
  obtain ⟨r5, hr4, hz⟩ := bind_ok hz
  refine WL_c (O_val (vs := [.agg cs1.toArray]) (v := .tuple #[.string r5.1, .int .i64 r5.2]) cb44 (args1 rfl) hS (encode_ok hS.agree ha1 hr4) ?_)
  intro w3 hS
  refine WL_y (Y_move (.tuple #[.string r5.1, .int .i64 r5.2]) rfl) ?_
  refine WL_y (Y_extract (v := .string r5.1) rfl rfl) ?_
  refine WL_y (Y_extract (v := .int .i64 r5.2) rfl rfl) ?_
  refine WL_y (Y_assign (.string r5.1) rfl) ?_
  refine WL_y (Y_assign (.int .i64 r5.2) rfl) ?_
  refine WL_nil (nm_then ?_)
  refine W_seqJ (fun T' w' => ∃ M7 c9, Mm.ext w.heap.size noX M M7 ∧ St w noX M7 [] w' ∧ T' 0 = .bool c9 ∧ lawFrames_j1 c9 = some r) ?_ ?_
  · have hF11 := Mm.ext.refl w.heap.size noX M
    refine W_reg ?_
    refine WL_y (Y_move (.int .i64 r5.2) rfl) ?_
    refine WL_y (Y_eql rfl rfl) ?_
    refine WL_y (Y_move (.bool (r5.2 == 0)) rfl) ?_
    rcases Bool.eq_false_or_eq_true (r5.2 == 0) with hc12 | hc12
    · replace hz := bif_ok_t hz hc12
      refine WL_gy rfl (bt hc12 rfl) (Y_move (.string r5.1) rfl) ?_
      refine WL_gy rfl (bt hc12 rfl) (Y_eqS rfl rfl) ?_
      refine WL_y (Y_pick_t (.bool (r5.1.toList == (⟨#[4, 2, 7, 0, 0, 0]⟩ : ByteArray).toList)) (bt hc12 rfl) rfl) ?_
      refine WL_y (Y_assign (.bool (r5.1.toList == (⟨#[4, 2, 7, 0, 0, 0]⟩ : ByteArray).toList)) rfl) ?_
      refine WL_nil (nm_then ?_)
      exact ⟨M, (r5.1.toList == (⟨#[4, 2, 7, 0, 0, 0]⟩ : ByteArray).toList), hF11, hS, rfl, hz⟩
    · replace hz := bif_ok_f hz hc12
      refine WL_s (j := 2) rfl (bf hc12 rfl) rfl ?_
      refine WL_s (j := 2) rfl (bf hc12 rfl) rfl ?_
      refine WL_y (Y_pick_f (.bool false) (bf hc12 rfl) rfl) ?_
      refine WL_y (Y_assign (.bool false) rfl) ?_
      refine WL_nil (nm_then ?_)
      exact ⟨M, false, hF11, hS, rfl, hz⟩
  · rintro T8 w6 ⟨M7, c9, hx10, hS, hT8_0, hz⟩
    replace hE := Mm.ext.trans hE hx10
    rw [lawFrames_j1] at hz
    cases hz
    exact W_ret (R_t1 rfl hT8_0 ⟨rfl, hS.kept⟩)

def wireFrames_j1 (c18 : Bool) : Option Bool :=
    some c18

def wireFramesD (fu : Nat) (x1 : GFrame) : Option Bool :=
    (lawFrameD fu x1).bind fun r7 =>
    (encodeD fu r7).bind fun r10 =>
    (encodeFrameD fu x1).bind fun r14 =>
    (bif r10.1.toList == r14.1.toList then
    (bif r10.2 == r14.2 then
    (lawFrameD fu x1).bind fun r30 =>
    (some (frameZ r30)).bind fun r34 =>
    (some (frameZ x1)).bind fun r38 =>
    (bif r34 == r38 then
    (lawFramesD fu).bind fun r43 =>
    wireFrames_j1 r43
    else
    wireFrames_j1 false)
    else
    wireFrames_j1 false)
    else
    wireFrames_j1 false)

set_option maxRecDepth 100000 in
set_option maxHeartbeats 4000000 in
theorem wireFrames_ok {M : Mm} {w : World} {cx1 : List Value} {x1 : GFrame} {fu : Nat} {r : Bool} (hA : Agree M w) (hcx1 : rep M cx1 x1) (hz : wireFramesD fu x1 = some r) :
    Calls Try.prog 11 #[.agg cx1.toArray] w (GivesV w (.bool r)) := by
  refine calls_W Try.func11 rfl 37 rfl rfl (by kernel_rfl) fun T hT => ?_
  have hT_0 : T 0 = .agg cx1.toArray := hT 0
  clear hT
  have hE := Mm.ext.refl w.heap.size noX M
  have hS : St w noX M [] w := St.start hA
  rw [wireFramesD] at hz
  refine W_seq ?_
  refine W_reg ?_
  refine WL_c (O_box (v := .agg cx1.toArray) (cs := cx1) hT_0 rfl hS ?_)
  intro b3 w2 hb3 hS
  replace hS : St w noX M [.box b3 cx1 50] w2 := hS
  refine WL_y (Y_assign (.bool false) rfl) ?_
  refine WL_nil (nm_then ?_)
  refine W_seq ?_
  refine W_reg ?_
  have ha4 := (rep_root (k := 7) rfl hcx1)
  refine WL_y (Y_ldn ta50 rfl (hS.bvB 0 rfl) (Rep.len ha4)) ?_
  obtain ⟨r7, hr6, hz⟩ := bind_ok hz
  refine WL_c (O_mem (vs := [.agg (sl cx1 (0) 7).toArray]) (rv := (fun M' u => ∃ cs, u = .agg cs.toArray ∧ rep M' cs r7)) cb45 (args1 rfl) hS (lawFrame_ok hS.agree ha4 hr6) ?_)
  intro u6 M6 w5 hx6 hu6 hS
  obtain ⟨c6, hq6, f6⟩ := hu6
  subst hq6
  replace hcx1 := Rep.mono hx6.1 hcx1
  replace ha4 := Rep.mono hx6.1 ha4
  replace hE := Mm.ext.trans hE hx6
  obtain ⟨r10, hr9, hz⟩ := bind_ok hz
  refine WL_c (O_val (vs := [.agg c6.toArray]) (v := .tuple #[.string r10.1, .int .i64 r10.2]) cb44 (args1 rfl) hS (encode_ok hS.agree f6 hr9) ?_)
  intro w8 hS
  refine WL_y (Y_move (.tuple #[.string r10.1, .int .i64 r10.2]) rfl) ?_
  refine WL_y (Y_extract (v := .string r10.1) rfl rfl) ?_
  refine WL_y (Y_extract (v := .int .i64 r10.2) rfl rfl) ?_
  refine WL_y (Y_assign (.string r10.1) rfl) ?_
  refine WL_y (Y_assign (.int .i64 r10.2) rfl) ?_
  refine WL_nil (nm_then ?_)
  refine W_seq ?_
  refine W_reg ?_
  have ha11 := (rep_root (k := 7) rfl hcx1)
  refine WL_y (Y_ldn ta50 rfl (hS.bvB 0 rfl) (Rep.len ha11)) ?_
  obtain ⟨r14, hr13, hz⟩ := bind_ok hz
  refine WL_c (O_val (vs := [.agg (sl cx1 (0) 7).toArray]) (v := .tuple #[.string r14.1, .int .i64 r14.2]) cb46 (args1 rfl) hS (encodeFrame_ok hS.agree ha11 hr13) ?_)
  intro w12 hS
  refine WL_y (Y_move (.tuple #[.string r14.1, .int .i64 r14.2]) rfl) ?_
  refine WL_y (Y_extract (v := .string r14.1) rfl rfl) ?_
  refine WL_y (Y_extract (v := .int .i64 r14.2) rfl rfl) ?_
  refine WL_y (Y_assign (.string r14.1) rfl) ?_
  refine WL_y (Y_assign (.int .i64 r14.2) rfl) ?_
  refine WL_nil (nm_then ?_)
  refine W_seqJ (fun T' w' => ∃ M16 c18, Mm.ext w.heap.size noX M6 M16 ∧ St w noX M16 [.box b3 cx1 50] w' ∧ T' 2 = .bool c18 ∧ wireFrames_j1 c18 = some r) ?_ ?_
  · have hF20 := Mm.ext.refl w.heap.size noX M6
    refine W_drawB (Rd M6 [.box b3 cx1 50]) (inL []) mixed hS fun w21 hS => ?_
    have hG22 := Mm.ext.refl w.heap.size noX M6
    have hR23 : Rd M6 [.box b3 cx1 50] w21 := Rd.of hS hG22 (by simp)
    refine WB_y (i := 0) rfl (by kernel_rfl) rfl (Y_move (.string r10.1) rfl) (fun _ => hR23) ?_
    refine WB_y (i := 1) rfl (by kernel_rfl) rfl (Y_move (.string r14.1) rfl) (fun _ => hR23) ?_
    refine WB_y (i := 2) rfl (by kernel_rfl) rfl (Y_eqS rfl rfl) (fun _ => hR23) ?_
    refine WB_y (i := 3) rfl (by kernel_rfl) rfl (Y_move (.bool (r10.1.toList == r14.1.toList)) rfl) (fun _ => hR23) ?_
    rcases Bool.eq_false_or_eq_true (r10.1.toList == r14.1.toList) with hc24 | hc24
    · replace hz := bif_ok_t hz hc24
      refine WB_gy (i := 4) rfl (by kernel_rfl) rfl rfl (bt hc24 rfl) (Y_move (.int .i64 r10.2) rfl) (fun _ => hR23) ?_
      refine WB_gy (i := 5) rfl (by kernel_rfl) rfl rfl (bt hc24 rfl) (Y_move (.int .i64 r14.2) rfl) (fun _ => hR23) ?_
      refine WB_gy (i := 6) rfl (by kernel_rfl) rfl rfl (bt hc24 rfl) (Y_eql rfl rfl) (fun _ => hR23) ?_
      refine WB_y (i := 7) rfl (by kernel_rfl) rfl (Y_pick_t (.bool (r10.2 == r14.2)) (bt hc24 rfl) rfl) (fun _ => hR23) ?_
      refine WB_y (i := 8) rfl (by kernel_rfl) rfl (Y_move (.bool (r10.2 == r14.2)) rfl) (fun _ => hR23) ?_
      rcases Bool.eq_false_or_eq_true (r10.2 == r14.2) with hc25 | hc25
      · replace hz := bif_ok_t hz hc25
        have ha26 := (rep_root (k := 7) rfl hcx1)
        refine WB_gld (i := 9) rfl (by kernel_rfl) rfl (inL_lt rfl) (by kernel_rfl) (by kernel_rfl) rfl (bt hc25 rfl) (Y_ldn ta50 rfl (bvR 0 rfl) (Rep.len ha26)) hR23 ?_
        have ha27 := (rep_root (k := 7) rfl hcx1)
        refine WB_gld (i := 12) rfl (by kernel_rfl) rfl (inL_lt rfl) (by kernel_rfl) (by kernel_rfl) rfl (bt hc25 rfl) (Y_ldn ta50 rfl (bvR 0 rfl) (Rep.len ha27)) hR23 ?_
        obtain ⟨r30, hr29, hz⟩ := bind_ok hz
        refine WB_one_g (i := 10) (by kernel_rfl) rfl rfl (bt hc25 rfl) (O_mem (vs := [.agg (sl cx1 (0) 7).toArray]) (rv := (fun M' u => ∃ cs, u = .agg cs.toArray ∧ rep M' cs r30)) cb45 (args1 rfl) hS (lawFrame_ok hS.agree ha26 hr29) ?_)
        intro u29 M29 w28 hx29 hu29 hS
        obtain ⟨c29, hq29, f29⟩ := hu29
        subst hq29
        replace hcx1 := Rep.mono hx29.1 hcx1
        replace ha26 := Rep.mono hx29.1 ha26
        replace ha27 := Rep.mono hx29.1 ha27
        replace hE := Mm.ext.trans hE hx29
        replace hF20 := Mm.ext.trans hF20 hx29
        replace hG22 := Mm.ext.trans hG22 hx29
        have hR31 : Rd M6 [.box b3 cx1 50] w28 := Rd.of hS hG22 (by simp)
        refine ⟨fun _ => hR31, ?_⟩
        obtain ⟨r34, hr33, hz⟩ := bind_ok hz
        replace hr33 := Option.some.inj hr33
        refine WB_one_g (i := 11) (by kernel_rfl) rfl rfl (bt hc25 rfl) (O_val (vs := [.agg c29.toArray]) (v := .int .i64 r34) cb47 (args1 rfl) hS (hr33 ▸ (c_good hS.agree f29)) ?_)
        intro w32 hS
        have hR35 : Rd M6 [.box b3 cx1 50] w32 := Rd.of hS hG22 (by simp)
        refine ⟨fun _ => hR35, ?_⟩
        obtain ⟨r38, hr37, hz⟩ := bind_ok hz
        replace hr37 := Option.some.inj hr37
        refine WB_one_g (i := 13) (by kernel_rfl) rfl rfl (bt hc25 rfl) (O_val (vs := [.agg (sl cx1 (0) 7).toArray]) (v := .int .i64 r38) cb48 (args1 rfl) hS (hr37 ▸ (c_isFrame hS.agree ha27)) ?_)
        intro w36 hS
        have hR39 : Rd M6 [.box b3 cx1 50] w36 := Rd.of hS hG22 (by simp)
        refine ⟨fun _ => hR39, ?_⟩
        refine WB_gy (i := 14) rfl (by kernel_rfl) rfl rfl (bt hc25 rfl) (Y_eql rfl rfl) (fun _ => hR39) ?_
        refine WB_y (i := 15) rfl (by kernel_rfl) rfl (Y_pick_t (.bool (r34 == r38)) (bt hc25 rfl) rfl) (fun _ => hR39) ?_
        refine WB_y (i := 16) rfl (by kernel_rfl) rfl (Y_move (.bool (r34 == r38)) rfl) (fun _ => hR39) ?_
        rcases Bool.eq_false_or_eq_true (r34 == r38) with hc40 | hc40
        · replace hz := bif_ok_t hz hc40
          obtain ⟨r43, hr42, hz⟩ := bind_ok hz
          refine WB_one_g (i := 17) (by kernel_rfl) rfl rfl (bt hc40 rfl) (O_val (vs := []) (v := .bool r43) cb49 args0 hS (lawFrames_ok hS.agree hr42) ?_)
          intro w41 hS
          have hR44 : Rd M6 [.box b3 cx1 50] w41 := Rd.of hS hG22 (by simp)
          refine ⟨fun _ => hR44, ?_⟩
          refine WB_y (i := 18) rfl (by kernel_rfl) rfl (Y_pick_t (.bool r43) (bt hc40 rfl) rfl) (fun _ => hR44) ?_
          refine WB_y (i := 19) rfl (by kernel_rfl) rfl (Y_assign (.bool r43) rfl) (fun _ => hR44) ?_
          refine WB_done (by kernel_rfl) (nm_then ?_)
          exact ⟨M29, r43, hF20, hS, rfl, hz⟩
        · replace hz := bif_ok_f hz hc40
          refine WB_s (i := 17) (j := 16) rfl (by kernel_rfl) rfl rfl (bf hc40 rfl) rfl (fun _ => hR39) ?_
          refine WB_y (i := 18) rfl (by kernel_rfl) rfl (Y_pick_f (.bool false) (bf hc40 rfl) rfl) (fun _ => hR39) ?_
          refine WB_y (i := 19) rfl (by kernel_rfl) rfl (Y_assign (.bool false) rfl) (fun _ => hR39) ?_
          refine WB_done (by kernel_rfl) (nm_then ?_)
          exact ⟨M29, false, hF20, hS, rfl, hz⟩
      · replace hz := bif_ok_f hz hc25
        refine WB_s (i := 9) (j := 8) rfl (by kernel_rfl) rfl rfl (bf hc25 rfl) rfl (fun _ => hR23) ?_
        refine WB_s (i := 10) (j := 8) rfl (by kernel_rfl) rfl rfl (bf hc25 rfl) rfl (fun _ => hR23) ?_
        refine WB_s (i := 11) (j := 8) rfl (by kernel_rfl) rfl rfl (bf hc25 rfl) rfl (fun _ => hR23) ?_
        refine WB_s (i := 12) (j := 8) rfl (by kernel_rfl) rfl rfl (bf hc25 rfl) rfl (fun _ => hR23) ?_
        refine WB_s (i := 13) (j := 8) rfl (by kernel_rfl) rfl rfl (bf hc25 rfl) rfl (fun _ => hR23) ?_
        refine WB_s (i := 14) (j := 8) rfl (by kernel_rfl) rfl rfl (bf hc25 rfl) rfl (fun _ => hR23) ?_
        refine WB_y (i := 15) rfl (by kernel_rfl) rfl (Y_pick_f (.bool false) (bf hc25 rfl) rfl) (fun _ => hR23) ?_
        refine WB_y (i := 16) rfl (by kernel_rfl) rfl (Y_move (.bool false) rfl) (fun _ => hR23) ?_
        refine WB_s (i := 17) (j := 16) rfl (by kernel_rfl) rfl rfl rfl rfl (fun _ => hR23) ?_
        refine WB_y (i := 18) rfl (by kernel_rfl) rfl (Y_pick_f (.bool false) rfl rfl) (fun _ => hR23) ?_
        refine WB_y (i := 19) rfl (by kernel_rfl) rfl (Y_assign (.bool false) rfl) (fun _ => hR23) ?_
        refine WB_done (by kernel_rfl) (nm_then ?_)
        exact ⟨M6, false, hF20, hS, rfl, hz⟩
    · replace hz := bif_ok_f hz hc24
      refine WB_s (i := 4) (j := 3) rfl (by kernel_rfl) rfl rfl (bf hc24 rfl) rfl (fun _ => hR23) ?_
      refine WB_s (i := 5) (j := 3) rfl (by kernel_rfl) rfl rfl (bf hc24 rfl) rfl (fun _ => hR23) ?_
      refine WB_s (i := 6) (j := 3) rfl (by kernel_rfl) rfl rfl (bf hc24 rfl) rfl (fun _ => hR23) ?_
      refine WB_y (i := 7) rfl (by kernel_rfl) rfl (Y_pick_f (.bool false) (bf hc24 rfl) rfl) (fun _ => hR23) ?_
      refine WB_y (i := 8) rfl (by kernel_rfl) rfl (Y_move (.bool false) rfl) (fun _ => hR23) ?_
      refine WB_s (i := 9) (j := 8) rfl (by kernel_rfl) rfl rfl rfl rfl (fun _ => hR23) ?_
      refine WB_s (i := 10) (j := 8) rfl (by kernel_rfl) rfl rfl rfl rfl (fun _ => hR23) ?_
      refine WB_s (i := 11) (j := 8) rfl (by kernel_rfl) rfl rfl rfl rfl (fun _ => hR23) ?_
      refine WB_s (i := 12) (j := 8) rfl (by kernel_rfl) rfl rfl rfl rfl (fun _ => hR23) ?_
      refine WB_s (i := 13) (j := 8) rfl (by kernel_rfl) rfl rfl rfl rfl (fun _ => hR23) ?_
      refine WB_s (i := 14) (j := 8) rfl (by kernel_rfl) rfl rfl rfl rfl (fun _ => hR23) ?_
      refine WB_y (i := 15) rfl (by kernel_rfl) rfl (Y_pick_f (.bool false) rfl rfl) (fun _ => hR23) ?_
      refine WB_y (i := 16) rfl (by kernel_rfl) rfl (Y_move (.bool false) rfl) (fun _ => hR23) ?_
      refine WB_s (i := 17) (j := 16) rfl (by kernel_rfl) rfl rfl rfl rfl (fun _ => hR23) ?_
      refine WB_y (i := 18) rfl (by kernel_rfl) rfl (Y_pick_f (.bool false) rfl rfl) (fun _ => hR23) ?_
      refine WB_y (i := 19) rfl (by kernel_rfl) rfl (Y_assign (.bool false) rfl) (fun _ => hR23) ?_
      refine WB_done (by kernel_rfl) (nm_then ?_)
      exact ⟨M6, false, hF20, hS, rfl, hz⟩
  · rintro T17 w15 ⟨M16, c18, hx19, hS, hT17_2, hz⟩
    replace hcx1 := Rep.mono hx19.1 hcx1
    replace hE := Mm.ext.trans hE hx19
    rw [wireFrames_j1] at hz
    cases hz
    exact W_ret (R_t1 rfl hT17_2 ⟨rfl, (St.dropB hS hb3).kept⟩)

end Go.Proofs.Ytnfdgjdnlikepaa
