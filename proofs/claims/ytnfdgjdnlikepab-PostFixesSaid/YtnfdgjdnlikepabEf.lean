/- What functions compute, and that they do. (Written by dc.py.) -/
import Derived.Test.YtnfdgjdnlikepabEt
import Derived.Test.YtnfdgjdnlikepabEk
namespace Go.Proofs.Ytnfdgjdnlikepab
open Go.RowKit
open Rep (rep)
set_option linter.unusedVariables false

def keepPosts_j1 (c18 : Bool) : Option Bool :=
    some c18

def keepPostsD (fu : Nat) : Option Bool :=
    (some ({ kind := 1, key := 2, n := Zr.zd } : GOp)).bind fun d2 =>
    (some ({ id := 3, ops := ([d2] : List GOp) } : GTxn)).bind fun d6 =>
    (postBeginD fu d6).bind fun r9 =>
    (some r9.1).bind fun d14 =>
    (bif r9.2.2 == 0 then
    (bif d14.begun then
    (bif (r9.2.1.length : Int) == 3 then
    (idx r9.2.1 2).bind fun x26 =>
    keepPosts_j1 (x26.node == 2)
    else
    keepPosts_j1 false)
    else
    keepPosts_j1 false)
    else
    keepPosts_j1 false)

set_option maxRecDepth 100000 in
set_option maxHeartbeats 4000000 in
theorem keepPosts_ok {M : Mm} {w : World} {fu : Nat} {r : Bool} (hA : Agree M w)  (hz : keepPostsD fu = some r) :
    Calls Try.prog 46 #[] w (GivesV w (.bool r)) := by
  refine calls_W Try.func46 rfl 30 rfl rfl (by kernel_rfl) fun T hT => ?_
  clear hT
  have hE := Mm.ext.refl w.heap.size noX M
  have hS : St w noX M [] w := St.start hA
  rw [keepPostsD] at hz
  refine W_seq ?_
  refine W_reg ?_
  refine WL_y (Y_assign (.bool false) rfl) ?_
  refine WL_nil (nm_then ?_)
  refine W_seq ?_
  refine W_reg ?_
  have k1_0 := GOp.w0 (Zr.zr : rep M (Zr.zc GOp) (Zr.zd : GOp)) (show rep M [Value.int .i64 1] (1 : Int) from rfl)
  have k1_1 := GOp.w1 k1_0 (show rep M [Value.int .i64 2] (2 : Int) from rfl)
  obtain ⟨d2, hd1, hz⟩ := bind_ok hz
  obtain ⟨cs1, hf1, ha1⟩ : ∃ cs, fillZ (([(0, 1), (1, 1), (2, 1)] : List (Nat × Nat))[·]?) (Zr.zc GOp) [(0, .int .i64 1), (1, .int .i64 2)] = some cs ∧ rep M cs d2 := ⟨_, (fz_cons (Zr.zr : rep M (Zr.zc GOp) (Zr.zd : GOp)) rfl rfl (Rep.len (show rep M [Value.int .i64 1] (1 : Int) from rfl)) (by decide) (fz_cons k1_0 rfl rfl (Rep.len (show rep M [Value.int .i64 2] (2 : Int) from rfl)) (by decide) fz_nil)), rep_eq (x := ({ kind := 1, key := 2, n := Zr.zd } : GOp)) k1_1 hd1⟩
  refine WL_y (Y_build [(0, .int .i64 1), (1, .int .i64 2)] tb114 (bpc rfl (bpc rfl bp0)) hf1) ?_
  refine WL_c (O_bslice (α := GOp) (l := ([d2] : List GOp)) [.agg cs1.toArray] tl40 (bpc rfl bp0) rfl rfl (by decide) (by decide) (by decide) hS (brc ha1 br0) ?_)
  intro v4 M4 w3 hx4 hv4 hS
  replace ha1 := Rep.mono hx4.1 ha1
  replace hE := Mm.ext.trans hE hx4
  have k5_0 := GTxn.w0 (Zr.zr : rep M4 (Zr.zc GTxn) (Zr.zd : GTxn)) (show rep M4 [Value.int .i64 3] (3 : Int) from rfl)
  have k5_1 := GTxn.w1 k5_0 (repL_rep hv4)
  obtain ⟨d6, hd5, hz⟩ := bind_ok hz
  obtain ⟨cs5, hf5, ha5⟩ : ∃ cs, fillZ (([(0, 1), (1, 1)] : List (Nat × Nat))[·]?) (Zr.zc GTxn) [(0, .int .i64 3), (1, v4)] = some cs ∧ rep M4 cs d6 := ⟨_, (fz_cons (Zr.zr : rep M4 (Zr.zc GTxn) (Zr.zd : GTxn)) rfl rfl (Rep.len (show rep M4 [Value.int .i64 3] (3 : Int) from rfl)) (by decide) (fz_cons k5_0 rfl (repL_cells hv4) (Rep.len (repL_rep hv4)) (by decide) fz_nil)), rep_eq (x := ({ id := 3, ops := ([d2] : List GOp) } : GTxn)) k5_1 hd5⟩
  refine WL_y (Y_build [(0, .int .i64 3), (1, v4)] tb85 (bpc rfl (bpc rfl bp0)) hf5) ?_
  obtain ⟨r9, hr8, hz⟩ := bind_ok hz
  refine WL_c (O_mem (vs := [.agg cs5.toArray]) (rv := (fun M' u => ∃ c0 v1, u = .tuple #[.agg c0.toArray, v1, .int .i64 r9.2.2] ∧ rep M' c0 r9.1 ∧ repL M' v1 r9.2.1)) cb45 (args1 rfl) hS (postBegin_ok hS.agree ha5 hr8) ?_)
  intro u8 M8 w7 hx8 hu8 hS
  obtain ⟨c8_0, v8_1, hq8, f8_0, f8_1⟩ := hu8
  subst hq8
  replace ha1 := Rep.mono hx8.1 ha1
  replace hv4 := repL.mono hx8.1 hv4
  replace ha5 := Rep.mono hx8.1 ha5
  replace hE := Mm.ext.trans hE hx8
  refine WL_y (Y_move (.tuple #[.agg c8_0.toArray, v8_1, .int .i64 r9.2.2]) rfl) ?_
  refine WL_y (Y_extract (v := .agg c8_0.toArray) rfl rfl) ?_
  refine WL_y (Y_extract (v := v8_1) rfl rfl) ?_
  refine WL_y (Y_extract (v := .int .i64 r9.2.2) rfl rfl) ?_
  refine WL_c (O_alloc tz45 hS ?_)
  intro b11 w10 hb11 hS
  replace hS : St w noX M8 [.box b11 (Zr.zc GCase) 45] w10 := hS
  have zb11 : rep M8 (Zr.zc GCase) (Zr.zd : GCase) := Zr.zr
  have hw13 : (c8_0 : List Value).length = 24 := Rep.len f8_0
  have hl13 : ((Zr.zc GCase)).length = 24 := Rep.len zb11
  obtain ⟨d14, hd13, hz⟩ := bind_ok hz
  have hb13 : rep M8 (pt (Zr.zc GCase) (0) c8_0) d14 := rep_eq (rep_whole (k := 24) (by rw [pt_length (by omega)]; exact hl13) (rep_leaf rfl f8_0 (by omega))) hd13
  generalize hg13 : (pt (Zr.zc GCase) (0) c8_0) = cs13 at hb13
  refine WL_c (O_st (j := 0) (v := .agg c8_0.toArray) (ws := c8_0) hS rfl (by kernel_rfl) rfl rfl rfl hw13 (Rep.one f8_0) (by omega) ?_)
  rw [hg13]
  clear hg13
  intro w12 hS
  replace hS : St w noX M8 [.box b11 cs13 45] w12 := hS
  refine WL_y (Y_assign (v8_1) rfl) ?_
  refine WL_y (Y_assign (.int .i64 r9.2.2) rfl) ?_
  refine WL_nil (nm_then ?_)
  refine W_seqJ (fun T' w' => ∃ M16 c18, Mm.ext w.heap.size noX M8 M16 ∧ St w noX M16 [.box b11 cs13 45] w' ∧ T' 0 = .bool c18 ∧ keepPosts_j1 c18 = some r) ?_ ?_
  · have hF20 := Mm.ext.refl w.heap.size noX M8
    refine W_reg ?_
    refine WL_y (Y_move (.int .i64 r9.2.2) rfl) ?_
    refine WL_y (Y_eql rfl rfl) ?_
    refine WL_y (Y_move (.bool (r9.2.2 == 0)) rfl) ?_
    rcases Bool.eq_false_or_eq_true (r9.2.2 == 0) with hc21 | hc21
    · replace hz := bif_ok_t hz hc21
      refine WL_gy rfl (bt hc21 rfl) (Y_fa fa45_0 rfl) ?_
      refine WL_gy rfl (bt hc21 rfl) (Y_ld1 (.bool d14.begun) ts4 rfl (hS.bvB 0 rfl) (GCase.p0 (rep_root (k := 24) rfl hb13))) ?_
      refine WL_y (Y_pick_t (.bool d14.begun) (bt hc21 rfl) rfl) ?_
      refine WL_y (Y_move (.bool d14.begun) rfl) ?_
      rcases Bool.eq_false_or_eq_true d14.begun with hc22 | hc22
      · replace hz := bif_ok_t hz hc22
        refine WL_gy rfl (bt hc22 rfl) (Y_move (v8_1) rfl) ?_
        obtain ⟨a23, c23, hv23, _⟩ := repL_shape f8_1
        refine WL_gy rfl (bt hc22 rfl) (Y_lenL Try.underlying62 (tr2 hv23 rfl)) ?_
        refine WL_gy rfl (bt hc22 rfl) (Y_eql rfl rfl) ?_
        refine WL_y (Y_pick_t (.bool ((r9.2.1.length : Int) == 3)) (bt hc22 rfl) rfl) ?_
        refine WL_y (Y_move (.bool ((r9.2.1.length : Int) == 3)) rfl) ?_
        rcases Bool.eq_false_or_eq_true ((r9.2.1.length : Int) == 3) with hc24 | hc24
        · replace hz := bif_ok_t hz hc24
          refine WL_gy rfl (bt hc24 rfl) (Y_move (v8_1) rfl) ?_
          obtain ⟨x26, hx25, hz⟩ := bind_ok hz
          obtain ⟨b25, o25, c25, p25, hv25, hi25, hj25, hM25, hr25⟩ := repL_at f8_1 hx25
          replace hr25 : rep _ (sl p25 (o25 + Int.toNat 2 * 7) 7) x26 := hr25
          refine WL_gy rfl (bt hc24 rfl) (Y_ixL il62 rfl hv25 rfl hi25 hj25) ?_
          refine WL_gy rfl (bt hc24 rfl) (Y_fa fa50_1 rfl) ?_
          refine WL_gy rfl (bt hc24 rfl) (Y_ld1 (.int .i64 x26.node) ts3 rfl (hS.bvM hM25) (GFrame.p1 hr25)) ?_
          refine WL_gy rfl (bt hc24 rfl) (Y_eql rfl rfl) ?_
          refine WL_y (Y_pick_t (.bool (x26.node == 2)) (bt hc24 rfl) rfl) ?_
          refine WL_y (Y_assign (.bool (x26.node == 2)) rfl) ?_
          refine WL_nil (nm_then ?_)
          exact ⟨M8, (x26.node == 2), hF20, hS, rfl, hz⟩
        · replace hz := bif_ok_f hz hc24
          refine WL_s (j := 11) rfl (bf hc24 rfl) rfl ?_
          refine WL_s (j := 11) rfl (bf hc24 rfl) rfl ?_
          refine WL_s (j := 11) rfl (bf hc24 rfl) rfl ?_
          refine WL_s (j := 11) rfl (bf hc24 rfl) rfl ?_
          refine WL_s (j := 11) rfl (bf hc24 rfl) rfl ?_
          refine WL_y (Y_pick_f (.bool false) (bf hc24 rfl) rfl) ?_
          refine WL_y (Y_assign (.bool false) rfl) ?_
          refine WL_nil (nm_then ?_)
          exact ⟨M8, false, hF20, hS, rfl, hz⟩
      · replace hz := bif_ok_f hz hc22
        refine WL_s (j := 6) rfl (bf hc22 rfl) rfl ?_
        refine WL_s (j := 6) rfl (bf hc22 rfl) rfl ?_
        refine WL_s (j := 6) rfl (bf hc22 rfl) rfl ?_
        refine WL_y (Y_pick_f (.bool false) (bf hc22 rfl) rfl) ?_
        refine WL_y (Y_move (.bool false) rfl) ?_
        refine WL_s (j := 11) rfl rfl rfl ?_
        refine WL_s (j := 11) rfl rfl rfl ?_
        refine WL_s (j := 11) rfl rfl rfl ?_
        refine WL_s (j := 11) rfl rfl rfl ?_
        refine WL_s (j := 11) rfl rfl rfl ?_
        refine WL_y (Y_pick_f (.bool false) rfl rfl) ?_
        refine WL_y (Y_assign (.bool false) rfl) ?_
        refine WL_nil (nm_then ?_)
        exact ⟨M8, false, hF20, hS, rfl, hz⟩
    · replace hz := bif_ok_f hz hc21
      refine WL_s (j := 2) rfl (bf hc21 rfl) rfl ?_
      refine WL_s (j := 2) rfl (bf hc21 rfl) rfl ?_
      refine WL_y (Y_pick_f (.bool false) (bf hc21 rfl) rfl) ?_
      refine WL_y (Y_move (.bool false) rfl) ?_
      refine WL_s (j := 6) rfl rfl rfl ?_
      refine WL_s (j := 6) rfl rfl rfl ?_
      refine WL_s (j := 6) rfl rfl rfl ?_
      refine WL_y (Y_pick_f (.bool false) rfl rfl) ?_
      refine WL_y (Y_move (.bool false) rfl) ?_
      refine WL_s (j := 11) rfl rfl rfl ?_
      refine WL_s (j := 11) rfl rfl rfl ?_
      refine WL_s (j := 11) rfl rfl rfl ?_
      refine WL_s (j := 11) rfl rfl rfl ?_
      refine WL_s (j := 11) rfl rfl rfl ?_
      refine WL_y (Y_pick_f (.bool false) rfl rfl) ?_
      refine WL_y (Y_assign (.bool false) rfl) ?_
      refine WL_nil (nm_then ?_)
      exact ⟨M8, false, hF20, hS, rfl, hz⟩
  · rintro T17 w15 ⟨M16, c18, hx19, hS, hT17_0, hz⟩
    replace hb13 := Rep.mono hx19.1 hb13
    replace hE := Mm.ext.trans hE hx19
    rw [keepPosts_j1] at hz
    cases hz
    exact W_ret (R_t1 rfl hT17_0 ⟨rfl, (St.dropB hS hb11).kept⟩)

def postFixes_j3 (y29 : Int) (rec30 : (Vector Bool 6) → GCase → (List Int) → Int → Option Bool) (d42 : Vector Bool 6) (d44 : GCase) (l45 : List Int) : Option Bool :=
    rec30 d42 d44 l45 (IntKind.wrap .i64 (y29 + 1))

def postFixes_j5 (y29 : Int) (rec30 : (Vector Bool 6) → GCase → (List Int) → Int → Option Bool) (d77 : GCase) (d82 : Vector Bool 6) (l83 : List Int) (c89 : Bool) : Option Bool :=
    (bif c89 then
    some false
    else
    postFixes_j3 y29 rec30 d82 d77 l83)

def postFixes_j4 (fu : Nat) (y29 : Int) (rec30 : (Vector Bool 6) → GCase → (List Int) → Int → Option Bool) (d62 : GCase) (r67 : GCase × (List GFrame) × Int) (d77 : GCase) (d82 : Vector Bool 6) (l83 : List Int) : Option Bool :=
    (bif d62.fixed then
    (bif !d77.fixed then
    postFixes_j5 y29 rec30 d77 d82 l83 true
    else
    (keepSameNumbersD fu d62.deps d77.deps).bind fun r99 =>
    (bif !r99 then
    postFixes_j5 y29 rec30 d77 d82 l83 true
    else
    (bif decide ((r67.2.1.length : Int) > 0) then
    (bif d62.fixed then
    postFixes_j5 y29 rec30 d77 d82 l83 true
    else
    postFixes_j5 y29 rec30 d77 d82 l83 (!d77.fixed))
    else
    postFixes_j5 y29 rec30 d77 d82 l83 false)))
    else
    (bif decide ((r67.2.1.length : Int) > 0) then
    (bif d62.fixed then
    postFixes_j5 y29 rec30 d77 d82 l83 true
    else
    postFixes_j5 y29 rec30 d77 d82 l83 (!d77.fixed))
    else
    postFixes_j5 y29 rec30 d77 d82 l83 false))

def postFixes_j6 (fu : Nat) (d24 : Vector Bool 6) (l27 : List Int) (y29 : Int) (rec30 : (Vector Bool 6) → GCase → (List Int) → Int → Option Bool) (d56 : GFrame) (d62 : GCase) (r67 : GCase × (List GFrame) × Int) (d77 : GCase) (c111 : Bool) : Option Bool :=
    (bif c111 then
    (inR d56.node 6).bind fun _ =>
    (idxV d24 d56.node).bind fun x118 =>
    (setV d24 d56.node true).bind fun a121 =>
    (some a121).bind fun d123 =>
    (some (unionZ l27 d56.deps)).bind fun r127 =>
    postFixes_j4 fu y29 rec30 d62 r67 d77 d123 r127
    else
    postFixes_j4 fu y29 rec30 d62 r67 d77 d24 l27)

def postFixes_j2 (fu : Nat) (x1 : GTxn) (x2 : List GFrame) (d24 : Vector Bool 6) (d26 : GCase) (l27 : List Int) (y29 : Int) (rec30 : (Vector Bool 6) → GCase → (List Int) → Int → Option Bool) : Option Bool :=
    (idx x2 y29).bind fun x50 =>
    (some x50).bind fun d56 =>
    (some d26).bind fun d62 =>
    (postTakeD fu d26 x1.id d56).bind fun r67 =>
    (some r67.1).bind fun d72 =>
    (bif r67.2.2 != 0 then
    postFixes_j3 y29 rec30 d24 d26 l27
    else
    (some d72).bind fun d77 =>
    (bif d56.kind == 2 then
    (bif !d62.fixed then
    (inR d56.node 6).bind fun _ =>
    (idxV d24 d56.node).bind fun x136 =>
    (bif !x136 then
    (some (ofZ d56.node)).bind fun r142 =>
    (some (touchesZ x1.ops r142)).bind fun r146 =>
    postFixes_j6 fu d24 l27 y29 rec30 d56 d62 r67 d77 r146
    else
    postFixes_j6 fu d24 l27 y29 rec30 d56 d62 r67 d77 false)
    else
    postFixes_j6 fu d24 l27 y29 rec30 d56 d62 r67 d77 false)
    else
    postFixes_j6 fu d24 l27 y29 rec30 d56 d62 r67 d77 false))

def postFixes_j8 (y158 : Int) (rec159 : Int → Option Bool) : Option Bool :=
    rec159 (IntKind.wrap .i64 (y158 + 1))

def postFixes_j9 (y173 : Int) (rec174 : Int → Int → Option Bool) (y182 : Int) : Option Bool :=
    rec174 y182 (IntKind.wrap .i64 (y173 + 1))

def postFixes_j10 (y158 : Int) (rec159 : Int → Option Bool) (c193 : Bool) : Option Bool :=
    (bif c193 then
    some false
    else
    postFixes_j8 y158 rec159)

def postFixes_l3 (x1 : GTxn) (d24 : Vector Bool 6) (d26 : GCase) (y158 : Int) (rec159 : Int → Option Bool) : Nat → Int → Int → Option Bool
  | 0, _, _ => none
  | n + 1, y172, y173 =>
    (bif decide (y173 < 3) then
    (inR (IntKind.wrap .i64 ((IntKind.wrap .i64 (y158 * 3)) + y173)) 6).bind fun _ =>
    (idxV d24 (IntKind.wrap .i64 ((IntKind.wrap .i64 (y158 * 3)) + y173))).bind fun x187 =>
    (bif x187 then
    postFixes_j9 y173 (postFixes_l3 x1 d24 d26 y158 rec159 n) (IntKind.wrap .i64 (y172 + 1))
    else
    postFixes_j9 y173 (postFixes_l3 x1 d24 d26 y158 rec159 n) y172)
    else
    (bif d26.fixed then
    (some (touchesZ x1.ops y158)).bind fun r201 =>
    (bif r201 then
    postFixes_j10 y158 rec159 (decide (y172 < 2))
    else
    postFixes_j10 y158 rec159 false)
    else
    postFixes_j10 y158 rec159 false))

def postFixes_l2 (fu : Nat) (x1 : GTxn) (d24 : Vector Bool 6) (d26 : GCase) (l27 : List Int) : Nat → Int → Option Bool
  | 0, _ => none
  | n + 1, y158 =>
    (bif decide (y158 < 2) then
    postFixes_l3 x1 d24 d26 y158 (postFixes_l2 fu x1 d24 d26 l27 n) fu 0 0
    else
    (keepSameNumbersD fu d26.deps l27).bind fun r206 =>
    some r206)

def postFixes_j7 (fu : Nat) (x1 : GTxn) (x2 : List GFrame) (d24 : Vector Bool 6) (d26 : GCase) (l27 : List Int) (y29 : Int) (rec30 : (Vector Bool 6) → GCase → (List Int) → Int → Option Bool) (c152 : Bool) : Option Bool :=
    (bif c152 then
    postFixes_j2 fu x1 x2 d24 d26 l27 y29 rec30
    else
    postFixes_l2 fu x1 d24 d26 l27 fu 0)

def postFixes_l1 (fu : Nat) (x1 : GTxn) (x2 : List GFrame) : Nat → (Vector Bool 6) → GCase → (List Int) → Int → Option Bool
  | 0, _, _, _, _ => none
  | n + 1, d24, d26, l27, y29 =>
    (bif decide (y29 < (x2.length : Int)) then
    postFixes_j7 fu x1 x2 d24 d26 l27 y29 (postFixes_l1 fu x1 x2 n) (decide (y29 < 40))
    else
    postFixes_j7 fu x1 x2 d24 d26 l27 y29 (postFixes_l1 fu x1 x2 n) false)

def postFixes_j1 (fu : Nat) (x1 : GTxn) (x2 : List GFrame) (d13 : GCase) : Option Bool :=
    postFixes_l1 fu x1 x2 fu (Zr.zd : Vector Bool 6) d13 [] 0

def postFixes_j11 (fu : Nat) (x1 : GTxn) (x2 : List GFrame) (d13 : GCase) (c214 : Bool) : Option Bool :=
    (bif c214 then
    (keepPostsD fu).bind fun r219 =>
    some r219
    else
    postFixes_j1 fu x1 x2 d13)

def postFixesD (fu : Nat) (x1 : GTxn) (x2 : List GFrame) : Option Bool :=
    (postBeginD fu x1).bind fun r8 =>
    (some r8.1).bind fun d13 =>
    (bif r8.2.2 != 0 then
    postFixes_j11 fu x1 x2 d13 true
    else
    (keepPostsD fu).bind fun r224 =>
    postFixes_j11 fu x1 x2 d13 (!r224))

set_option maxRecDepth 100000 in
set_option maxHeartbeats 4000000 in
theorem postFixes_ok {M : Mm} {w : World} {cx1 : List Value} {vx2 : Value} {x1 : GTxn} {x2 : List GFrame} {fu : Nat} {r : Bool} (hA : Agree M w) (hcx1 : rep M cx1 x1) (hvx2 : repL M vx2 x2) (hz : postFixesD fu x1 x2 = some r) :
    Calls Try.prog 12 #[.agg cx1.toArray, vx2] w (GivesV w (.bool r)) := by
  refine calls_W Try.func12 rfl 150 rfl rfl (by kernel_rfl) fun T hT => ?_
  have hT_0 : T 0 = .agg cx1.toArray := hT 0
  have hT_1 : T 1 = vx2 := hT 1
  clear hT
  have hE := Mm.ext.refl w.heap.size noX M
  have hS : St w noX M [] w := St.start hA
  rw [postFixesD] at hz
  refine W_seq ?_
  refine W_reg ?_
  refine WL_c (O_box (v := .agg cx1.toArray) (cs := cx1) hT_0 rfl hS ?_)
  intro b4 w3 hb4 hS
  replace hS : St w noX M [.box b4 cx1 85] w3 := hS
  refine WL_y (Y_assign (.bool false) rfl) ?_
  refine WL_nil (nm_then ?_)
  refine W_seq ?_
  refine W_reg ?_
  have ha5 := (rep_root (k := 2) rfl hcx1)
  refine WL_y (Y_ldn ta85 rfl (hS.bvB 0 rfl) (Rep.len ha5)) ?_
  obtain ⟨r8, hr7, hz⟩ := bind_ok hz
  refine WL_c (O_mem (vs := [.agg (sl cx1 (0) 2).toArray]) (rv := (fun M' u => ∃ c0 v1, u = .tuple #[.agg c0.toArray, v1, .int .i64 r8.2.2] ∧ rep M' c0 r8.1 ∧ repL M' v1 r8.2.1)) cb45 (args1 rfl) hS (postBegin_ok hS.agree ha5 hr7) ?_)
  intro u7 M7 w6 hx7 hu7 hS
  obtain ⟨c7_0, v7_1, hq7, f7_0, f7_1⟩ := hu7
  subst hq7
  replace hcx1 := Rep.mono hx7.1 hcx1
  replace hvx2 := repL.mono hx7.1 hvx2
  replace ha5 := Rep.mono hx7.1 ha5
  replace hE := Mm.ext.trans hE hx7
  refine WL_y (Y_move (.tuple #[.agg c7_0.toArray, v7_1, .int .i64 r8.2.2]) rfl) ?_
  refine WL_y (Y_extract (v := .agg c7_0.toArray) rfl rfl) ?_
  refine WL_y (Y_extract (v := v7_1) rfl rfl) ?_
  refine WL_y (Y_extract (v := .int .i64 r8.2.2) rfl rfl) ?_
  refine WL_c (O_alloc tz45 hS ?_)
  intro b10 w9 hb10 hS
  replace hS : St w noX M7 [.box b10 (Zr.zc GCase) 45, .box b4 cx1 85] w9 := hS
  have zb10 : rep M7 (Zr.zc GCase) (Zr.zd : GCase) := Zr.zr
  have hw12 : (c7_0 : List Value).length = 24 := Rep.len f7_0
  have hl12 : ((Zr.zc GCase)).length = 24 := Rep.len zb10
  obtain ⟨d13, hd12, hz⟩ := bind_ok hz
  have hb12 : rep M7 (pt (Zr.zc GCase) (0) c7_0) d13 := rep_eq (rep_whole (k := 24) (by rw [pt_length (by omega)]; exact hl12) (rep_leaf rfl f7_0 (by omega))) hd12
  generalize hg12 : (pt (Zr.zc GCase) (0) c7_0) = cs12 at hb12
  refine WL_c (O_st (j := 0) (v := .agg c7_0.toArray) (ws := c7_0) hS rfl (by kernel_rfl) rfl rfl rfl hw12 (Rep.one f7_0) (by omega) ?_)
  rw [hg12]
  clear hg12
  intro w11 hS
  replace hS : St w noX M7 [.box b10 cs12 45, .box b4 cx1 85] w11 := hS
  refine WL_y (Y_assign (v7_1) rfl) ?_
  refine WL_y (Y_assign (.int .i64 r8.2.2) rfl) ?_
  refine WL_nil (nm_then ?_)
  refine W_seqJ (fun T' w' => ∃ M15, Mm.ext w.heap.size noX M7 M15 ∧ St w noX M15 [.box b10 cs12 45, .box b4 cx1 85] w' ∧ T' 1 = vx2 ∧ T' 2 = .pointer (some ⟨b4, 0, none⟩) ∧ T' 5 = .pointer (some ⟨b10, 0, none⟩) ∧ postFixes_j1 fu x1 x2 d13 = some r) ?_ ?_
  · have hF210 := Mm.ext.refl w.heap.size noX M7
    refine W_seqJ (fun T' w' => ∃ M212 c214, Mm.ext w.heap.size noX M7 M212 ∧ St w noX M212 [.box b10 cs12 45, .box b4 cx1 85] w' ∧ T' 1 = vx2 ∧ T' 2 = .pointer (some ⟨b4, 0, none⟩) ∧ T' 5 = .pointer (some ⟨b10, 0, none⟩) ∧ T' 30 = .bool c214 ∧ postFixes_j11 fu x1 x2 d13 c214 = some r) ?_ ?_
    · have hF220 := Mm.ext.refl w.heap.size noX M7
      refine W_reg ?_
      refine WL_y (Y_move (.int .i64 r8.2.2) rfl) ?_
      refine WL_y (Y_neq rfl rfl) ?_
      refine WL_y (Y_move (.bool (r8.2.2 != 0)) rfl) ?_
      rcases Bool.eq_false_or_eq_true (r8.2.2 != 0) with hc221 | hc221
      · replace hz := bif_ok_t hz hc221
        refine WL_s (j := 2) rfl (bt hc221 rfl) rfl ?_
        refine WL_s (j := 2) rfl (bt hc221 rfl) rfl ?_
        refine WL_y (Y_pick_t (.bool true) (bt hc221 rfl) rfl) ?_
        refine WL_nil (nm_then ?_)
        exact ⟨M7, true, hF220, hS, hT_1, rfl, rfl, rfl, hz⟩
      · replace hz := bif_ok_f hz hc221
        obtain ⟨r224, hr223, hz⟩ := bind_ok hz
        refine WL_g rfl (bf hc221 rfl) (O_val (vs := []) (v := .bool r224) cb46 args0 hS (keepPosts_ok hS.agree hr223) ?_)
        intro w222 hS
        refine WL_gy rfl (bf hc221 rfl) (Y_not rfl) ?_
        refine WL_y (Y_pick_f (.bool (!r224)) (bf hc221 rfl) rfl) ?_
        refine WL_nil (nm_then ?_)
        exact ⟨M7, (!r224), hF220, hS, hT_1, rfl, rfl, rfl, hz⟩
    · rintro T213 w211 ⟨M212, c214, hx215, hS, hT213_1, hT213_2, hT213_5, hT213_30, hz⟩
      replace hcx1 := Rep.mono hx215.1 hcx1
      replace hvx2 := repL.mono hx215.1 hvx2
      replace hb12 := Rep.mono hx215.1 hb12
      replace hE := Mm.ext.trans hE hx215
      replace hF210 := Mm.ext.trans hF210 hx215
      rw [postFixes_j11] at hz
      refine W_cond hT213_30 (fun hc216 => ?_) (fun hc216 => ?_)
      · replace hz := bif_ok_t hz hc216
        refine W_seq ?_
        refine W_reg ?_
        obtain ⟨r219, hr218, hz⟩ := bind_ok hz
        refine WL_c (O_val (vs := []) (v := .bool r219) cb46 args0 hS (keepPosts_ok hS.agree hr218) ?_)
        intro w217 hS
        refine WL_y (Y_assign (.bool r219) rfl) ?_
        refine WL_nil (nm_then ?_)
        cases hz
        exact W_ret (rt_then (R_t1 rfl rfl ⟨rfl, (St.dropB (St.dropB hS hb10) hb4).kept⟩))
      · replace hz := bif_ok_f hz hc216
        refine W_skip (nm_then ?_)
        exact ⟨M212, hF210, hS, hT213_1, hT213_2, hT213_5, hz⟩
  · rintro T16 w14 ⟨M15, hx17, hS, hT16_1, hT16_2, hT16_5, hz⟩
    replace hcx1 := Rep.mono hx17.1 hcx1
    replace hvx2 := repL.mono hx17.1 hvx2
    replace hb12 := Rep.mono hx17.1 hb12
    replace hE := Mm.ext.trans hE hx17
    rw [postFixes_j1] at hz
    refine W_seq ?_
    refine W_reg ?_
    refine WL_y (Y_assign ((.slice none 0 0)) rfl) ?_
    refine WL_nil (nm_then ?_)
    refine W_seq ?_
    refine W_reg ?_
    refine WL_c (O_alloc tz41 hS ?_)
    intro b19 w18 hb19 hS
    replace hS : St w noX M15 [.box b19 (Zr.zc (Vector Bool 6)) 41, .box b10 cs12 45, .box b4 cx1 85] w18 := hS
    have zb19 : rep M15 (Zr.zc (Vector Bool 6)) (Zr.zd : Vector Bool 6) := Zr.zr
    refine WL_nil (nm_then ?_)
    refine W_seq ?_
    refine W_seq ?_
    refine W_reg ?_
    refine WL_y (Y_assign (.int .i64 0) rfl) ?_
    refine WL_nil (nm_then ?_)
    refine W_block ?_
    refine W_loop (fun k31 T' w' => ∃ M21 cs23 d24 cs25 d26 v28 l27 y29, Mm.ext w.heap.size noX M15 M21 ∧ St w noX M21 [.box b19 cs23 41, .box b10 cs25 45, .box b4 cx1 85] w' ∧ rep M21 cs23 d24 ∧ rep M21 cs25 d26 ∧ repL M21 v28 l27 ∧ T' 1 = vx2 ∧ T' 2 = .pointer (some ⟨b4, 0, none⟩) ∧ T' 5 = .pointer (some ⟨b10, 0, none⟩) ∧ T' 8 = v28 ∧ T' 9 = .pointer (some ⟨b19, 0, none⟩) ∧ T' 10 = .int .i64 y29 ∧ postFixes_l1 fu x1 x2 k31 d24 d26 l27 y29 = some r) fu ?_ ?_ ?_
    · exact ⟨M15, (Zr.zc (Vector Bool 6)), (Zr.zd : Vector Bool 6), cs12, d13, (.slice none 0 0), [], (0 : Int), (Mm.ext.refl _ _ _), hS, zb19, hb12, (repL_nil _), hT16_1, hT16_2, hT16_5, rfl, rfl, rfl, hz⟩
    · rintro T' w' ⟨_, _, _, _, _, _, _, _, _, _, _, _, _, _, _, _, _, _, _, hz⟩
      rw [postFixes_l1] at hz
      cases hz
    · intro k31
      rintro T22 w20 ⟨M21, cs23, d24, cs25, d26, v28, l27, y29, hx33, hS, hb23, hb25, hv28, hT22_1, hT22_2, hT22_5, hT22_8, hT22_9, hT22_10, hz⟩
      replace hcx1 := Rep.mono hx33.1 hcx1
      replace hvx2 := repL.mono hx33.1 hvx2
      replace hE := Mm.ext.trans hE hx33
      have hF32 := hx33
      rw [postFixes_l1] at hz
      obtain ⟨rec30, hrec30⟩ : ∃ f, f = postFixes_l1 fu x1 x2 k31 := ⟨_, rfl⟩
      rw [← hrec30] at hz
      refine W_seqJ (fun T' w' => ∃ M35, Mm.ext w.heap.size noX M21 M35 ∧ St w noX M35 [.box b19 cs23 41, .box b10 cs25 45, .box b4 cx1 85] w' ∧ T' 1 = vx2 ∧ T' 2 = .pointer (some ⟨b4, 0, none⟩) ∧ T' 5 = .pointer (some ⟨b10, 0, none⟩) ∧ T' 8 = v28 ∧ T' 9 = .pointer (some ⟨b19, 0, none⟩) ∧ T' 10 = .int .i64 y29 ∧ postFixes_j2 fu x1 x2 d24 d26 l27 y29 rec30 = some r) ?_ ?_
      · have hF148 := Mm.ext.refl w.heap.size noX M21
        refine W_seqJ (fun T' w' => ∃ M150 c152, Mm.ext w.heap.size noX M21 M150 ∧ St w noX M150 [.box b19 cs23 41, .box b10 cs25 45, .box b4 cx1 85] w' ∧ T' 1 = vx2 ∧ T' 2 = .pointer (some ⟨b4, 0, none⟩) ∧ T' 5 = .pointer (some ⟨b10, 0, none⟩) ∧ T' 8 = v28 ∧ T' 9 = .pointer (some ⟨b19, 0, none⟩) ∧ T' 10 = .int .i64 y29 ∧ T' 39 = .bool c152 ∧ postFixes_j7 fu x1 x2 d24 d26 l27 y29 rec30 c152 = some r) ?_ ?_
        · have hF207 := Mm.ext.refl w.heap.size noX M21
          refine W_reg ?_
          refine WL_y (Y_move (.int .i64 y29) hT22_10) ?_
          refine WL_y (Y_move (vx2) hT22_1) ?_
          obtain ⟨a208, c208, hv208, _⟩ := repL_shape hvx2
          refine WL_y (Y_lenL Try.underlying62 (tr2 hv208 rfl)) ?_
          refine WL_y (Y_lss rfl rfl) ?_
          refine WL_y (Y_move (.bool (decide (y29 < (x2.length : Int)))) rfl) ?_
          rcases Bool.eq_false_or_eq_true (decide (y29 < (x2.length : Int))) with hc209 | hc209
          · replace hz := bif_ok_t hz hc209
            refine WL_gy rfl (bt hc209 rfl) (Y_move (.int .i64 y29) hT22_10) ?_
            refine WL_gy rfl (bt hc209 rfl) (Y_lss rfl rfl) ?_
            refine WL_y (Y_pick_t (.bool (decide (y29 < 40))) (bt hc209 rfl) rfl) ?_
            refine WL_nil (nm_then ?_)
            exact ⟨M21, (decide (y29 < 40)), hF207, hS, hT22_1, hT22_2, hT22_5, hT22_8, hT22_9, hT22_10, rfl, hz⟩
          · replace hz := bif_ok_f hz hc209
            refine WL_s (j := 4) rfl (bf hc209 rfl) rfl ?_
            refine WL_s (j := 4) rfl (bf hc209 rfl) rfl ?_
            refine WL_y (Y_pick_f (.bool false) (bf hc209 rfl) rfl) ?_
            refine WL_nil (nm_then ?_)
            exact ⟨M21, false, hF207, hS, hT22_1, hT22_2, hT22_5, hT22_8, hT22_9, hT22_10, rfl, hz⟩
        · rintro T151 w149 ⟨M150, c152, hx153, hS, hT151_1, hT151_2, hT151_5, hT151_8, hT151_9, hT151_10, hT151_39, hz⟩
          replace hcx1 := Rep.mono hx153.1 hcx1
          replace hvx2 := repL.mono hx153.1 hvx2
          replace hb23 := Rep.mono hx153.1 hb23
          replace hb25 := Rep.mono hx153.1 hb25
          replace hv28 := repL.mono hx153.1 hv28
          replace hE := Mm.ext.trans hE hx153
          replace hF32 := Mm.ext.trans hF32 hx153
          replace hF148 := Mm.ext.trans hF148 hx153
          rw [postFixes_j7] at hz
          refine W_cond hT151_39 (fun hc154 => ?_) (fun hc154 => ?_)
          · replace hz := bif_ok_t hz hc154
            refine W_skip (nm_then ?_)
            exact ⟨M150, hF148, hS, hT151_1, hT151_2, hT151_5, hT151_8, hT151_9, hT151_10, hz⟩
          · replace hz := bif_ok_f hz hc154
            refine W_exit ?_
            refine ex_then ?_
            refine ex_then ?_
            refine ex_hit ?_
            refine (nm_then ?_)
            refine W_seq ?_
            refine W_seq ?_
            refine W_reg ?_
            refine WL_y (Y_move (.int .i64 0) rfl) ?_
            refine WL_nil (nm_then ?_)
            refine W_block ?_
            refine W_loop (fun k160 T' w' => ∃ M156 y158, Mm.ext w.heap.size noX M150 M156 ∧ St w noX M156 [.box b19 cs23 41, .box b10 cs25 45, .box b4 cx1 85] w' ∧ T' 2 = .pointer (some ⟨b4, 0, none⟩) ∧ T' 5 = .pointer (some ⟨b10, 0, none⟩) ∧ T' 8 = v28 ∧ T' 9 = .pointer (some ⟨b19, 0, none⟩) ∧ T' 118 = .int .i64 y158 ∧ postFixes_l2 fu x1 d24 d26 l27 k160 y158 = some r) fu ?_ ?_ ?_
            · exact ⟨M150, (0 : Int), (Mm.ext.refl _ _ _), hS, hT151_2, hT151_5, hT151_8, hT151_9, rfl, hz⟩
            · rintro T' w' ⟨_, _, _, _, _, _, _, _, _, hz⟩
              rw [postFixes_l2] at hz
              cases hz
            · intro k160
              rintro T157 w155 ⟨M156, y158, hx162, hS, hT157_2, hT157_5, hT157_8, hT157_9, hT157_118, hz⟩
              replace hcx1 := Rep.mono hx162.1 hcx1
              replace hb23 := Rep.mono hx162.1 hb23
              replace hb25 := Rep.mono hx162.1 hb25
              replace hv28 := repL.mono hx162.1 hv28
              replace hE := Mm.ext.trans hE hx162
              replace hF32 := Mm.ext.trans hF32 hx162
              replace hF148 := Mm.ext.trans hF148 hx162
              have hF161 := hx162
              rw [postFixes_l2] at hz
              obtain ⟨rec159, hrec159⟩ : ∃ f, f = postFixes_l2 fu x1 d24 d26 l27 k160 := ⟨_, rfl⟩
              rw [← hrec159] at hz
              refine W_seq ?_
              refine W_reg ?_
              refine WL_y (Y_lss hT157_118 rfl) ?_
              refine WL_nil (nm_then ?_)
              refine W_seq ?_
              refine W_cond rfl (fun hc163 => ?_) (fun hc163 => ?_)
              · replace hz := bif_ok_t hz hc163
                refine W_skip (nm_then ?_)
                refine W_seqJ (fun T' w' => ∃ M165, Mm.ext w.heap.size noX M156 M165 ∧ St w noX M165 [.box b19 cs23 41, .box b10 cs25 45, .box b4 cx1 85] w' ∧ T' 2 = .pointer (some ⟨b4, 0, none⟩) ∧ T' 5 = .pointer (some ⟨b10, 0, none⟩) ∧ T' 8 = v28 ∧ T' 9 = .pointer (some ⟨b19, 0, none⟩) ∧ T' 118 = .int .i64 y158 ∧ postFixes_j8 y158 rec159 = some r) ?_ ?_
                · have hF168 := Mm.ext.refl w.heap.size noX M156
                  refine W_block ?_
                  refine W_seq ?_
                  refine W_reg ?_
                  refine WL_y (Y_move (.int .i64 y158) hT157_118) ?_
                  refine WL_y (Y_assign (.int .i64 y158) rfl) ?_
                  refine WL_nil (nm_then ?_)
                  refine W_seq ?_
                  refine W_reg ?_
                  refine WL_y (Y_assign (.int .i64 0) rfl) ?_
                  refine WL_nil (nm_then ?_)
                  refine W_seq ?_
                  refine W_seq ?_
                  refine W_reg ?_
                  refine WL_y (Y_move (.int .i64 0) rfl) ?_
                  refine WL_nil (nm_then ?_)
                  refine W_block ?_
                  refine W_loop (fun k175 T' w' => ∃ M170 y172 y173, Mm.ext w.heap.size noX M156 M170 ∧ St w noX M170 [.box b19 cs23 41, .box b10 cs25 45, .box b4 cx1 85] w' ∧ T' 2 = .pointer (some ⟨b4, 0, none⟩) ∧ T' 5 = .pointer (some ⟨b10, 0, none⟩) ∧ T' 8 = v28 ∧ T' 9 = .pointer (some ⟨b19, 0, none⟩) ∧ T' 16 = .int .i64 y158 ∧ T' 17 = .int .i64 y172 ∧ T' 118 = .int .i64 y158 ∧ T' 121 = .int .i64 y173 ∧ postFixes_l3 x1 d24 d26 y158 rec159 k175 y172 y173 = some r) fu ?_ ?_ ?_
                  · exact ⟨M156, (0 : Int), (0 : Int), (Mm.ext.refl _ _ _), hS, hT157_2, hT157_5, hT157_8, hT157_9, rfl, rfl, hT157_118, rfl, hz⟩
                  · rintro T' w' ⟨_, _, _, _, _, _, _, _, _, _, _, _, _, hz⟩
                    rw [postFixes_l3] at hz
                    cases hz
                  · intro k175
                    rintro T171 w169 ⟨M170, y172, y173, hx177, hS, hT171_2, hT171_5, hT171_8, hT171_9, hT171_16, hT171_17, hT171_118, hT171_121, hz⟩
                    replace hcx1 := Rep.mono hx177.1 hcx1
                    replace hb23 := Rep.mono hx177.1 hb23
                    replace hb25 := Rep.mono hx177.1 hb25
                    replace hv28 := repL.mono hx177.1 hv28
                    replace hE := Mm.ext.trans hE hx177
                    replace hF32 := Mm.ext.trans hF32 hx177
                    replace hF148 := Mm.ext.trans hF148 hx177
                    replace hF161 := Mm.ext.trans hF161 hx177
                    replace hF168 := Mm.ext.trans hF168 hx177
                    have hF176 := hx177
                    rw [postFixes_l3] at hz
                    obtain ⟨rec174, hrec174⟩ : ∃ f, f = postFixes_l3 x1 d24 d26 y158 rec159 k175 := ⟨_, rfl⟩
                    rw [← hrec174] at hz
                    refine W_seq ?_
                    refine W_reg ?_
                    refine WL_y (Y_lss hT171_121 rfl) ?_
                    refine WL_nil (nm_then ?_)
                    refine W_seq ?_
                    refine W_cond rfl (fun hc178 => ?_) (fun hc178 => ?_)
                    · replace hz := bif_ok_t hz hc178
                      refine W_skip (nm_then ?_)
                      refine W_seqJ (fun T' w' => ∃ M180 y182, Mm.ext w.heap.size noX M170 M180 ∧ St w noX M180 [.box b19 cs23 41, .box b10 cs25 45, .box b4 cx1 85] w' ∧ T' 2 = .pointer (some ⟨b4, 0, none⟩) ∧ T' 5 = .pointer (some ⟨b10, 0, none⟩) ∧ T' 8 = v28 ∧ T' 9 = .pointer (some ⟨b19, 0, none⟩) ∧ T' 16 = .int .i64 y158 ∧ T' 17 = .int .i64 y182 ∧ T' 118 = .int .i64 y158 ∧ T' 121 = .int .i64 y173 ∧ postFixes_j9 y173 rec174 y182 = some r) ?_ ?_
                      · have hF184 := Mm.ext.refl w.heap.size noX M170
                        refine W_block ?_
                        refine W_seq ?_
                        refine W_reg ?_
                        refine WL_y (Y_move (.int .i64 y173) hT171_121) ?_
                        refine WL_y (Y_assign (.int .i64 y173) rfl) ?_
                        refine WL_nil (nm_then ?_)
                        refine W_seq ?_
                        refine W_reg ?_
                        refine WL_y (Y_move (.int .i64 y158) hT171_16) ?_
                        refine WL_y (Y_mul rfl rfl) ?_
                        refine WL_y (Y_move (.int .i64 y173) rfl) ?_
                        refine WL_y (Y_add rfl rfl) ?_
                        obtain ⟨u185, hx186, hz⟩ := bind_ok hz
                        obtain ⟨hx186a, hx186b⟩ := inR_some hx186
                        refine WL_y (Y_ixA ia41 hT171_9 rfl hx186a hx186b) ?_
                        obtain ⟨x187, hx188, hz⟩ := bind_ok hz
                        refine WL_y (Y_ld1 (.bool x187) ts4 rfl (hS.bvB 0 rfl) (vp (k := 1) rfl rfl (rep_root (k := 6) rfl hb23) hx188)) ?_
                        refine WL_nil (nm_then ?_)
                        refine W_cond rfl (fun hc189 => ?_) (fun hc189 => ?_)
                        · replace hz := bif_ok_t hz hc189
                          refine W_reg ?_
                          refine WL_y (Y_move (.int .i64 y172) hT171_17) ?_
                          refine WL_y (Y_add rfl rfl) ?_
                          refine WL_y (Y_assign (.int .i64 (IntKind.wrap .i64 (y172 + 1))) rfl) ?_
                          refine WL_nil (nm_blk ?_)
                          refine (nm_then ?_)
                          exact ⟨M170, (IntKind.wrap .i64 (y172 + 1)), hF184, hS, hT171_2, hT171_5, hT171_8, hT171_9, hT171_16, rfl, hT171_118, hT171_121, hz⟩
                        · replace hz := bif_ok_f hz hc189
                          refine W_skip (nm_blk ?_)
                          refine (nm_then ?_)
                          exact ⟨M170, y172, hF184, hS, hT171_2, hT171_5, hT171_8, hT171_9, hT171_16, hT171_17, hT171_118, hT171_121, hz⟩
                      · rintro T181 w179 ⟨M180, y182, hx183, hS, hT181_2, hT181_5, hT181_8, hT181_9, hT181_16, hT181_17, hT181_118, hT181_121, hz⟩
                        replace hcx1 := Rep.mono hx183.1 hcx1
                        replace hb23 := Rep.mono hx183.1 hb23
                        replace hb25 := Rep.mono hx183.1 hb25
                        replace hv28 := repL.mono hx183.1 hv28
                        replace hE := Mm.ext.trans hE hx183
                        replace hF32 := Mm.ext.trans hF32 hx183
                        replace hF148 := Mm.ext.trans hF148 hx183
                        replace hF161 := Mm.ext.trans hF161 hx183
                        replace hF168 := Mm.ext.trans hF168 hx183
                        replace hF176 := Mm.ext.trans hF176 hx183
                        rw [postFixes_j9] at hz
                        refine W_reg ?_
                        refine WL_y (Y_add hT181_121 rfl) ?_
                        refine WL_y (Y_move (.int .i64 (IntKind.wrap .i64 (y173 + 1))) rfl) ?_
                        refine WL_nil (nm_then ?_)
                        exact ⟨M180, y182, (IntKind.wrap .i64 (y173 + 1)), hF176, hS, hT181_2, hT181_5, hT181_8, hT181_9, hT181_16, hT181_17, hT181_118, rfl, (by rw [← hrec174]; exact hz)⟩
                    · replace hz := bif_ok_f hz hc178
                      refine W_exit ?_
                      refine ex_then ?_
                      refine ex_then ?_
                      refine ex_hit ?_
                      refine (nm_then ?_)
                      refine W_seqJ (fun T' w' => ∃ M191 c193, Mm.ext w.heap.size noX M170 M191 ∧ St w noX M191 [.box b19 cs23 41, .box b10 cs25 45, .box b4 cx1 85] w' ∧ T' 2 = .pointer (some ⟨b4, 0, none⟩) ∧ T' 5 = .pointer (some ⟨b10, 0, none⟩) ∧ T' 8 = v28 ∧ T' 9 = .pointer (some ⟨b19, 0, none⟩) ∧ T' 118 = .int .i64 y158 ∧ T' 144 = .bool c193 ∧ postFixes_j10 y158 rec159 c193 = some r) ?_ ?_
                      · have hF196 := Mm.ext.refl w.heap.size noX M170
                        refine W_reg ?_
                        refine WL_y (Y_fa fa45_1 hT171_5) ?_
                        refine WL_y (Y_ld1 (.bool d26.fixed) ts4 rfl (hS.bvB 1 rfl) (GCase.p1 (rep_root (k := 24) rfl hb25))) ?_
                        refine WL_y (Y_move (.bool d26.fixed) rfl) ?_
                        rcases Bool.eq_false_or_eq_true d26.fixed with hc197 | hc197
                        · replace hz := bif_ok_t hz hc197
                          refine WL_gy rfl (bt hc197 rfl) (Y_fa fa85_1 hT171_2) ?_
                          obtain ⟨v198, ev198, hv198⟩ := (GTxn.p1 (rep_root (k := 2) rfl hcx1))
                          refine WL_gy rfl (bt hc197 rfl) (Y_ld1 v198 ts40 rfl (hS.bvB 2 rfl) ev198) ?_
                          refine WL_gy rfl (bt hc197 rfl) (Y_move (.int .i64 y158) hT171_16) ?_
                          obtain ⟨r201, hr200, hz⟩ := bind_ok hz
                          replace hr200 := Option.some.inj hr200
                          refine WL_g rfl (bt hc197 rfl) (O_val (vs := [v198, .int .i64 y158]) (v := .bool r201) cb47 (args2 rfl rfl) hS (hr200 ▸ (c_touches hS.agree hv198)) ?_)
                          intro w199 hS
                          refine WL_y (Y_pick_t (.bool r201) (bt hc197 rfl) rfl) ?_
                          refine WL_y (Y_move (.bool r201) rfl) ?_
                          rcases Bool.eq_false_or_eq_true r201 with hc202 | hc202
                          · replace hz := bif_ok_t hz hc202
                            refine WL_gy rfl (bt hc202 rfl) (Y_move (.int .i64 y172) hT171_17) ?_
                            refine WL_gy rfl (bt hc202 rfl) (Y_lss rfl rfl) ?_
                            refine WL_y (Y_pick_t (.bool (decide (y172 < 2))) (bt hc202 rfl) rfl) ?_
                            refine WL_nil (nm_then ?_)
                            exact ⟨M170, (decide (y172 < 2)), hF196, hS, hT171_2, hT171_5, hT171_8, hT171_9, hT171_118, rfl, hz⟩
                          · replace hz := bif_ok_f hz hc202
                            refine WL_s (j := 8) rfl (bf hc202 rfl) rfl ?_
                            refine WL_s (j := 8) rfl (bf hc202 rfl) rfl ?_
                            refine WL_y (Y_pick_f (.bool false) (bf hc202 rfl) rfl) ?_
                            refine WL_nil (nm_then ?_)
                            exact ⟨M170, false, hF196, hS, hT171_2, hT171_5, hT171_8, hT171_9, hT171_118, rfl, hz⟩
                        · replace hz := bif_ok_f hz hc197
                          refine WL_s (j := 2) rfl (bf hc197 rfl) rfl ?_
                          refine WL_s (j := 2) rfl (bf hc197 rfl) rfl ?_
                          refine WL_s (j := 2) rfl (bf hc197 rfl) rfl ?_
                          refine WL_s (j := 2) rfl (bf hc197 rfl) rfl ?_
                          refine WL_y (Y_pick_f (.bool false) (bf hc197 rfl) rfl) ?_
                          refine WL_y (Y_move (.bool false) rfl) ?_
                          refine WL_s (j := 8) rfl rfl rfl ?_
                          refine WL_s (j := 8) rfl rfl rfl ?_
                          refine WL_y (Y_pick_f (.bool false) rfl rfl) ?_
                          refine WL_nil (nm_then ?_)
                          exact ⟨M170, false, hF196, hS, hT171_2, hT171_5, hT171_8, hT171_9, hT171_118, rfl, hz⟩
                      · rintro T192 w190 ⟨M191, c193, hx194, hS, hT192_2, hT192_5, hT192_8, hT192_9, hT192_118, hT192_144, hz⟩
                        replace hcx1 := Rep.mono hx194.1 hcx1
                        replace hb23 := Rep.mono hx194.1 hb23
                        replace hb25 := Rep.mono hx194.1 hb25
                        replace hv28 := repL.mono hx194.1 hv28
                        replace hE := Mm.ext.trans hE hx194
                        replace hF32 := Mm.ext.trans hF32 hx194
                        replace hF148 := Mm.ext.trans hF148 hx194
                        replace hF161 := Mm.ext.trans hF161 hx194
                        replace hF168 := Mm.ext.trans hF168 hx194
                        replace hF176 := Mm.ext.trans hF176 hx194
                        rw [postFixes_j10] at hz
                        refine W_cond hT192_144 (fun hc195 => ?_) (fun hc195 => ?_)
                        · replace hz := bif_ok_t hz hc195
                          refine W_seq ?_
                          refine W_reg ?_
                          refine WL_y (Y_assign (.bool false) rfl) ?_
                          refine WL_nil (nm_then ?_)
                          cases hz
                          exact W_ret (rt_blk (rt_then (rt_then (rt_blk (rt_then (R_t1 rfl rfl ⟨rfl, (St.dropB (St.dropB (St.dropB hS hb19) hb10) hb4).kept⟩))))))
                        · replace hz := bif_ok_f hz hc195
                          refine W_skip (nm_blk ?_)
                          refine (nm_then ?_)
                          exact ⟨M191, hF168, hS, hT192_2, hT192_5, hT192_8, hT192_9, hT192_118, hz⟩
                · rintro T166 w164 ⟨M165, hx167, hS, hT166_2, hT166_5, hT166_8, hT166_9, hT166_118, hz⟩
                  replace hcx1 := Rep.mono hx167.1 hcx1
                  replace hb23 := Rep.mono hx167.1 hb23
                  replace hb25 := Rep.mono hx167.1 hb25
                  replace hv28 := repL.mono hx167.1 hv28
                  replace hE := Mm.ext.trans hE hx167
                  replace hF32 := Mm.ext.trans hF32 hx167
                  replace hF148 := Mm.ext.trans hF148 hx167
                  replace hF161 := Mm.ext.trans hF161 hx167
                  rw [postFixes_j8] at hz
                  refine W_reg ?_
                  refine WL_y (Y_add hT166_118 rfl) ?_
                  refine WL_y (Y_move (.int .i64 (IntKind.wrap .i64 (y158 + 1))) rfl) ?_
                  refine WL_nil (nm_then ?_)
                  exact ⟨M165, (IntKind.wrap .i64 (y158 + 1)), hF161, hS, hT166_2, hT166_5, hT166_8, hT166_9, rfl, (by rw [← hrec159]; exact hz)⟩
              · replace hz := bif_ok_f hz hc163
                refine W_exit ?_
                refine ex_then ?_
                refine ex_then ?_
                refine ex_hit ?_
                refine (nm_then ?_)
                refine W_seq ?_
                refine W_reg ?_
                refine WL_y (Y_fa fa45_5 hT157_5) ?_
                obtain ⟨v203, ev203, hv203⟩ := (GCase.p5 (rep_root (k := 24) rfl hb25))
                refine WL_y (Y_ld1 v203 ts23 rfl (hS.bvB 1 rfl) ev203) ?_
                refine WL_y (Y_move (v28) hT157_8) ?_
                obtain ⟨r206, hr205, hz⟩ := bind_ok hz
                refine WL_c (O_val (vs := [v203, v28]) (v := .bool r206) cb20 (args2 rfl rfl) hS (keepSameNumbers_ok hS.agree hv203 hv28 hr205) ?_)
                intro w204 hS
                refine WL_y (Y_assign (.bool r206) rfl) ?_
                refine WL_nil (nm_then ?_)
                cases hz
                exact W_ret (R_t1 rfl rfl ⟨rfl, (St.dropB (St.dropB (St.dropB hS hb19) hb10) hb4).kept⟩)
      · rintro T36 w34 ⟨M35, hx37, hS, hT36_1, hT36_2, hT36_5, hT36_8, hT36_9, hT36_10, hz⟩
        replace hcx1 := Rep.mono hx37.1 hcx1
        replace hvx2 := repL.mono hx37.1 hvx2
        replace hb23 := Rep.mono hx37.1 hb23
        replace hb25 := Rep.mono hx37.1 hb25
        replace hv28 := repL.mono hx37.1 hv28
        replace hE := Mm.ext.trans hE hx37
        replace hF32 := Mm.ext.trans hF32 hx37
        rw [postFixes_j2] at hz
        refine W_seqJ (fun T' w' => ∃ M39 cs41 d42 cs43 d44 v46 l45, Mm.ext w.heap.size noX M35 M39 ∧ St w noX M39 [.box b19 cs41 41, .box b10 cs43 45, .box b4 cx1 85] w' ∧ rep M39 cs41 d42 ∧ rep M39 cs43 d44 ∧ repL M39 v46 l45 ∧ T' 1 = vx2 ∧ T' 2 = .pointer (some ⟨b4, 0, none⟩) ∧ T' 5 = .pointer (some ⟨b10, 0, none⟩) ∧ T' 8 = v46 ∧ T' 9 = .pointer (some ⟨b19, 0, none⟩) ∧ T' 10 = .int .i64 y29 ∧ postFixes_j3 y29 rec30 d42 d44 l45 = some r) ?_ ?_
        · have hF48 := Mm.ext.refl w.heap.size noX M35
          refine W_block ?_
          refine W_seq ?_
          refine W_reg ?_
          refine WL_y (Y_move (vx2) hT36_1) ?_
          refine WL_y (Y_move (.int .i64 y29) hT36_10) ?_
          obtain ⟨x50, hx49, hz⟩ := bind_ok hz
          obtain ⟨b49, o49, c49, p49, hv49, hi49, hj49, hM49, hr49⟩ := repL_at hvx2 hx49
          replace hr49 : rep _ (sl p49 (o49 + Int.toNat y29 * 7) 7) x50 := hr49
          refine WL_y (Y_ixL il62 rfl hv49 rfl hi49 hj49) ?_
          have ha51 := hr49
          refine WL_y (Y_ldn ta50 rfl (hS.bvM hM49) (Rep.len ha51)) ?_
          refine WL_c (O_alloc tz50 hS ?_)
          intro b53 w52 hb53 hS
          replace hS : St w noX M35 [.box b53 (Zr.zc GFrame) 50, .box b19 cs23 41, .box b10 cs25 45, .box b4 cx1 85] w52 := hS
          have zb53 : rep M35 (Zr.zc GFrame) (Zr.zd : GFrame) := Zr.zr
          have hw55 : ((sl p49 (o49 + Int.toNat y29 * 7) 7) : List Value).length = 7 := Rep.len ha51
          have hl55 : ((Zr.zc GFrame)).length = 7 := Rep.len zb53
          obtain ⟨d56, hd55, hz⟩ := bind_ok hz
          have hb55 : rep M35 (pt (Zr.zc GFrame) (0) (sl p49 (o49 + Int.toNat y29 * 7) 7)) d56 := rep_eq (rep_whole (k := 7) (by rw [pt_length (by omega)]; exact hl55) (rep_leaf rfl ha51 (by omega))) hd55
          generalize hg55 : (pt (Zr.zc GFrame) (0) (sl p49 (o49 + Int.toNat y29 * 7) 7)) = cs55 at hb55
          refine WL_c (O_st (j := 0) (v := .agg (sl p49 (o49 + Int.toNat y29 * 7) 7).toArray) (ws := (sl p49 (o49 + Int.toNat y29 * 7) 7)) hS rfl (by kernel_rfl) rfl rfl rfl hw55 (Rep.one ha51) (by omega) ?_)
          rw [hg55]
          clear hg55
          intro w54 hS
          replace hS : St w noX M35 [.box b53 cs55 50, .box b19 cs23 41, .box b10 cs25 45, .box b4 cx1 85] w54 := hS
          refine WL_nil (nm_then ?_)
          refine W_seq ?_
          refine W_reg ?_
          have ha57 := (rep_root (k := 24) rfl hb25)
          refine WL_y (Y_ldn ta45 hT36_5 (hS.bvB 2 rfl) (Rep.len ha57)) ?_
          refine WL_c (O_alloc tz45 hS ?_)
          intro b59 w58 hb59 hS
          replace hS : St w noX M35 [.box b59 (Zr.zc GCase) 45, .box b53 cs55 50, .box b19 cs23 41, .box b10 cs25 45, .box b4 cx1 85] w58 := hS
          have zb59 : rep M35 (Zr.zc GCase) (Zr.zd : GCase) := Zr.zr
          have hw61 : ((sl cs25 (0) 24) : List Value).length = 24 := Rep.len ha57
          have hl61 : ((Zr.zc GCase)).length = 24 := Rep.len zb59
          obtain ⟨d62, hd61, hz⟩ := bind_ok hz
          have hb61 : rep M35 (pt (Zr.zc GCase) (0) (sl cs25 (0) 24)) d62 := rep_eq (rep_whole (k := 24) (by rw [pt_length (by omega)]; exact hl61) (rep_leaf rfl ha57 (by omega))) hd61
          generalize hg61 : (pt (Zr.zc GCase) (0) (sl cs25 (0) 24)) = cs61 at hb61
          refine WL_c (O_st (j := 0) (v := .agg (sl cs25 (0) 24).toArray) (ws := (sl cs25 (0) 24)) hS rfl (by kernel_rfl) rfl rfl rfl hw61 (Rep.one ha57) (by omega) ?_)
          rw [hg61]
          clear hg61
          intro w60 hS
          replace hS : St w noX M35 [.box b59 cs61 45, .box b53 cs55 50, .box b19 cs23 41, .box b10 cs25 45, .box b4 cx1 85] w60 := hS
          refine WL_nil (nm_then ?_)
          refine W_seq ?_
          refine W_reg ?_
          have ha63 := (rep_root (k := 24) rfl hb25)
          refine WL_y (Y_ldn ta45 hT36_5 (hS.bvB 3 rfl) (Rep.len ha63)) ?_
          refine WL_y (Y_fa fa85_0 hT36_2) ?_
          refine WL_y (Y_ld1 (.int .i64 x1.id) ts3 rfl (hS.bvB 4 rfl) (GTxn.p0 (rep_root (k := 2) rfl hcx1))) ?_
          have ha64 := (rep_root (k := 7) rfl hb55)
          refine WL_y (Y_ldn ta50 rfl (hS.bvB 1 rfl) (Rep.len ha64)) ?_
          obtain ⟨r67, hr66, hz⟩ := bind_ok hz
          refine WL_c (O_mem (vs := [.agg (sl cs25 (0) 24).toArray, .int .i64 x1.id, .agg (sl cs55 (0) 7).toArray]) (rv := (fun M' u => ∃ c0 v1, u = .tuple #[.agg c0.toArray, v1, .int .i64 r67.2.2] ∧ rep M' c0 r67.1 ∧ repL M' v1 r67.2.1)) cb36 (args3 rfl rfl rfl) hS (postTake_ok hS.agree ha63 ha64 hr66) ?_)
          intro u66 M66 w65 hx66 hu66 hS
          obtain ⟨c66_0, v66_1, hq66, f66_0, f66_1⟩ := hu66
          subst hq66
          replace hcx1 := Rep.mono hx66.1 hcx1
          replace hvx2 := repL.mono hx66.1 hvx2
          replace hb23 := Rep.mono hx66.1 hb23
          replace hb25 := Rep.mono hx66.1 hb25
          replace hv28 := repL.mono hx66.1 hv28
          replace hb55 := Rep.mono hx66.1 hb55
          replace hb61 := Rep.mono hx66.1 hb61
          replace ha63 := Rep.mono hx66.1 ha63
          replace ha64 := Rep.mono hx66.1 ha64
          replace hE := Mm.ext.trans hE hx66
          replace hF32 := Mm.ext.trans hF32 hx66
          replace hF48 := Mm.ext.trans hF48 hx66
          refine WL_y (Y_move (.tuple #[.agg c66_0.toArray, v66_1, .int .i64 r67.2.2]) rfl) ?_
          refine WL_y (Y_extract (v := .agg c66_0.toArray) rfl rfl) ?_
          refine WL_y (Y_extract (v := v66_1) rfl rfl) ?_
          refine WL_y (Y_extract (v := .int .i64 r67.2.2) rfl rfl) ?_
          refine WL_c (O_alloc tz45 hS ?_)
          intro b69 w68 hb69 hS
          replace hS : St w noX M66 [.box b69 (Zr.zc GCase) 45, .box b59 cs61 45, .box b53 cs55 50, .box b19 cs23 41, .box b10 cs25 45, .box b4 cx1 85] w68 := hS
          have zb69 : rep M66 (Zr.zc GCase) (Zr.zd : GCase) := Zr.zr
          have hw71 : (c66_0 : List Value).length = 24 := Rep.len f66_0
          have hl71 : ((Zr.zc GCase)).length = 24 := Rep.len zb69
          obtain ⟨d72, hd71, hz⟩ := bind_ok hz
          have hb71 : rep M66 (pt (Zr.zc GCase) (0) c66_0) d72 := rep_eq (rep_whole (k := 24) (by rw [pt_length (by omega)]; exact hl71) (rep_leaf rfl f66_0 (by omega))) hd71
          generalize hg71 : (pt (Zr.zc GCase) (0) c66_0) = cs71 at hb71
          refine WL_c (O_st (j := 0) (v := .agg c66_0.toArray) (ws := c66_0) hS rfl (by kernel_rfl) rfl rfl rfl hw71 (Rep.one f66_0) (by omega) ?_)
          rw [hg71]
          clear hg71
          intro w70 hS
          replace hS : St w noX M66 [.box b69 cs71 45, .box b59 cs61 45, .box b53 cs55 50, .box b19 cs23 41, .box b10 cs25 45, .box b4 cx1 85] w70 := hS
          refine WL_y (Y_assign (v66_1) rfl) ?_
          refine WL_y (Y_assign (.int .i64 r67.2.2) rfl) ?_
          refine WL_nil (nm_then ?_)
          refine W_seq ?_
          refine W_seq ?_
          refine W_reg ?_
          refine WL_y (Y_move (.int .i64 r67.2.2) rfl) ?_
          refine WL_y (Y_neq rfl rfl) ?_
          refine WL_nil (nm_then ?_)
          refine W_cond rfl (fun hc73 => ?_) (fun hc73 => ?_)
          · replace hz := bif_ok_t hz hc73
            refine W_exit ?_
            refine ex_then ?_
            refine ex_hit ?_
            refine (nm_then ?_)
            exact ⟨M66, cs23, d24, cs25, d26, v28, l27, hF48, (St.dropB (St.dropB (St.dropB hS hb69) hb59) hb53), hb23, hb25, hv28, hT36_1, hT36_2, hT36_5, hT36_8, hT36_9, hT36_10, hz⟩
          · replace hz := bif_ok_f hz hc73
            refine W_skip (nm_then ?_)
            refine W_seq ?_
            refine W_reg ?_
            have ha74 := (rep_root (k := 24) rfl hb71)
            refine WL_y (Y_ldn ta45 rfl (hS.bvB 0 rfl) (Rep.len ha74)) ?_
            have hw76 : ((sl cs71 (0) 24) : List Value).length = 24 := Rep.len ha74
            have hl76 : (cs25).length = 24 := Rep.len hb25
            obtain ⟨d77, hd76, hz⟩ := bind_ok hz
            have hb76 : rep M66 (pt cs25 (0) (sl cs71 (0) 24)) d77 := rep_eq (rep_whole (k := 24) (by rw [pt_length (by omega)]; exact hl76) (rep_leaf rfl ha74 (by omega))) hd76
            generalize hg76 : (pt cs25 (0) (sl cs71 (0) 24)) = cs76 at hb76
            refine WL_c (O_st (j := 4) (v := .agg (sl cs71 (0) 24).toArray) (ws := (sl cs71 (0) 24)) hS rfl (by kernel_rfl) hT36_5 rfl rfl hw76 (Rep.one ha74) (by omega) ?_)
            rw [hg76]
            clear hg76
            intro w75 hS
            replace hS : St w noX M66 [.box b69 cs71 45, .box b59 cs61 45, .box b53 cs55 50, .box b19 cs23 41, .box b10 cs76 45, .box b4 cx1 85] w75 := hS
            refine WL_nil (nm_then ?_)
            refine W_seqJ (fun T' w' => ∃ M79 cs81 d82 v84 l83, Mm.ext w.heap.size noX M66 M79 ∧ St w noX M79 [.box b69 cs71 45, .box b59 cs61 45, .box b53 cs55 50, .box b19 cs81 41, .box b10 cs76 45, .box b4 cx1 85] w' ∧ rep M79 cs81 d82 ∧ repL M79 v84 l83 ∧ T' 1 = vx2 ∧ T' 2 = .pointer (some ⟨b4, 0, none⟩) ∧ T' 5 = .pointer (some ⟨b10, 0, none⟩) ∧ T' 8 = v84 ∧ T' 9 = .pointer (some ⟨b19, 0, none⟩) ∧ T' 10 = .int .i64 y29 ∧ T' 12 = .pointer (some ⟨b59, 0, none⟩) ∧ T' 14 = v66_1 ∧ postFixes_j4 fu y29 rec30 d62 r67 d77 d82 l83 = some r) ?_ ?_
            · have hF107 := Mm.ext.refl w.heap.size noX M66
              refine W_seqJ (fun T' w' => ∃ M109 c111, Mm.ext w.heap.size noX M66 M109 ∧ St w noX M109 [.box b69 cs71 45, .box b59 cs61 45, .box b53 cs55 50, .box b19 cs23 41, .box b10 cs76 45, .box b4 cx1 85] w' ∧ T' 1 = vx2 ∧ T' 2 = .pointer (some ⟨b4, 0, none⟩) ∧ T' 5 = .pointer (some ⟨b10, 0, none⟩) ∧ T' 8 = v28 ∧ T' 9 = .pointer (some ⟨b19, 0, none⟩) ∧ T' 10 = .int .i64 y29 ∧ T' 11 = .pointer (some ⟨b53, 0, none⟩) ∧ T' 12 = .pointer (some ⟨b59, 0, none⟩) ∧ T' 14 = v66_1 ∧ T' 81 = .bool c111 ∧ postFixes_j6 fu d24 l27 y29 rec30 d56 d62 r67 d77 c111 = some r) ?_ ?_
              · have hF128 := Mm.ext.refl w.heap.size noX M66
                refine W_drawB (Rd M66 [.box b59 cs61 45, .box b53 cs55 50, .box b19 cs23 41, .box b4 cx1 85]) (inL []) mixed hS fun w129 hS => ?_
                have hG130 := Mm.ext.refl w.heap.size noX M66
                have hR131 : Rd M66 [.box b59 cs61 45, .box b53 cs55 50, .box b19 cs23 41, .box b4 cx1 85] w129 := Rd.of hS hG130 (by simp)
                refine WB_y (i := 0) rfl (by kernel_rfl) rfl (Y_fa fa50_0 rfl) (fun _ => hR131) ?_
                refine WB_ld (i := 1) rfl (by kernel_rfl) rfl (inL_lt rfl) (by kernel_rfl) (by kernel_rfl) (Y_ld1 (.int .i64 d56.kind) ts3 rfl (bvR 1 rfl) (GFrame.p0 (rep_root (k := 7) rfl hb55))) hR131 ?_
                refine WB_y (i := 2) rfl (by kernel_rfl) rfl (Y_eql rfl rfl) (fun _ => hR131) ?_
                refine WB_y (i := 3) rfl (by kernel_rfl) rfl (Y_move (.bool (d56.kind == 2)) rfl) (fun _ => hR131) ?_
                rcases Bool.eq_false_or_eq_true (d56.kind == 2) with hc132 | hc132
                · replace hz := bif_ok_t hz hc132
                  refine WB_gy (i := 4) rfl (by kernel_rfl) rfl rfl (bt hc132 rfl) (Y_fa fa45_1 rfl) (fun _ => hR131) ?_
                  refine WB_gld (i := 5) rfl (by kernel_rfl) rfl (inL_lt rfl) (by kernel_rfl) (by kernel_rfl) rfl (bt hc132 rfl) (Y_ld1 (.bool d62.fixed) ts4 rfl (bvR 0 rfl) (GCase.p1 (rep_root (k := 24) rfl hb61))) hR131 ?_
                  refine WB_gy (i := 6) rfl (by kernel_rfl) rfl rfl (bt hc132 rfl) (Y_not rfl) (fun _ => hR131) ?_
                  refine WB_y (i := 7) rfl (by kernel_rfl) rfl (Y_pick_t (.bool (!d62.fixed)) (bt hc132 rfl) rfl) (fun _ => hR131) ?_
                  refine WB_y (i := 8) rfl (by kernel_rfl) rfl (Y_move (.bool (!d62.fixed)) rfl) (fun _ => hR131) ?_
                  rcases Bool.eq_false_or_eq_true (!d62.fixed) with hc133 | hc133
                  · replace hz := bif_ok_t hz hc133
                    refine WB_gy (i := 9) rfl (by kernel_rfl) rfl rfl (bt hc133 rfl) (Y_fa fa50_1 rfl) (fun _ => hR131) ?_
                    refine WB_gld (i := 10) rfl (by kernel_rfl) rfl (inL_lt rfl) (by kernel_rfl) (by kernel_rfl) rfl (bt hc133 rfl) (Y_ld1 (.int .i64 d56.node) ts3 rfl (bvR 1 rfl) (GFrame.p1 (rep_root (k := 7) rfl hb55))) hR131 ?_
                    obtain ⟨u134, hx135, hz⟩ := bind_ok hz
                    obtain ⟨hx135a, hx135b⟩ := inR_some hx135
                    refine WB_gy (i := 11) rfl (by kernel_rfl) rfl rfl (bt hc133 rfl) (Y_ixA ia41 hT36_9 rfl hx135a hx135b) (fun _ => hR131) ?_
                    obtain ⟨x136, hx137, hz⟩ := bind_ok hz
                    refine WB_gld (i := 12) rfl (by kernel_rfl) rfl (inL_lt rfl) (by kernel_rfl) (by kernel_rfl) rfl (bt hc133 rfl) (Y_ld1 (.bool x136) ts4 rfl (bvR 2 rfl) (vp (k := 1) rfl rfl (rep_root (k := 6) rfl hb23) hx137)) hR131 ?_
                    refine WB_gy (i := 13) rfl (by kernel_rfl) rfl rfl (bt hc133 rfl) (Y_not rfl) (fun _ => hR131) ?_
                    refine WB_y (i := 14) rfl (by kernel_rfl) rfl (Y_pick_t (.bool (!x136)) (bt hc133 rfl) rfl) (fun _ => hR131) ?_
                    refine WB_y (i := 15) rfl (by kernel_rfl) rfl (Y_move (.bool (!x136)) rfl) (fun _ => hR131) ?_
                    rcases Bool.eq_false_or_eq_true (!x136) with hc138 | hc138
                    · replace hz := bif_ok_t hz hc138
                      refine WB_gy (i := 16) rfl (by kernel_rfl) rfl rfl (bt hc138 rfl) (Y_fa fa85_1 hT36_2) (fun _ => hR131) ?_
                      obtain ⟨v139, ev139, hv139⟩ := (GTxn.p1 (rep_root (k := 2) rfl hcx1))
                      refine WB_gld (i := 17) rfl (by kernel_rfl) rfl (inL_lt rfl) (by kernel_rfl) (by kernel_rfl) rfl (bt hc138 rfl) (Y_ld1 v139 ts40 rfl (bvR 3 rfl) ev139) hR131 ?_
                      refine WB_gy (i := 18) rfl (by kernel_rfl) rfl rfl (bt hc138 rfl) (Y_fa fa50_1 rfl) (fun _ => hR131) ?_
                      refine WB_gld (i := 19) rfl (by kernel_rfl) rfl (inL_lt rfl) (by kernel_rfl) (by kernel_rfl) rfl (bt hc138 rfl) (Y_ld1 (.int .i64 d56.node) ts3 rfl (bvR 1 rfl) (GFrame.p1 (rep_root (k := 7) rfl hb55))) hR131 ?_
                      obtain ⟨r142, hr141, hz⟩ := bind_ok hz
                      replace hr141 := Option.some.inj hr141
                      refine WB_one_g (i := 20) (by kernel_rfl) rfl rfl (bt hc138 rfl) (O_val (vs := [.int .i64 d56.node]) (v := .int .i64 r142) cb48 (args1 rfl) hS (hr141 ▸ (c_of)) ?_)
                      intro w140 hS
                      have hR143 : Rd M66 [.box b59 cs61 45, .box b53 cs55 50, .box b19 cs23 41, .box b4 cx1 85] w140 := Rd.of hS hG130 (by simp)
                      refine ⟨fun _ => hR143, ?_⟩
                      obtain ⟨r146, hr145, hz⟩ := bind_ok hz
                      replace hr145 := Option.some.inj hr145
                      refine WB_one_g (i := 21) (by kernel_rfl) rfl rfl (bt hc138 rfl) (O_val (vs := [v139, .int .i64 r142]) (v := .bool r146) cb47 (args2 rfl rfl) hS (hr145 ▸ (c_touches hS.agree hv139)) ?_)
                      intro w144 hS
                      have hR147 : Rd M66 [.box b59 cs61 45, .box b53 cs55 50, .box b19 cs23 41, .box b4 cx1 85] w144 := Rd.of hS hG130 (by simp)
                      refine ⟨fun _ => hR147, ?_⟩
                      refine WB_y (i := 22) rfl (by kernel_rfl) rfl (Y_pick_t (.bool r146) (bt hc138 rfl) rfl) (fun _ => hR147) ?_
                      refine WB_done (by kernel_rfl) (nm_then ?_)
                      exact ⟨M66, r146, hF128, hS, hT36_1, hT36_2, hT36_5, hT36_8, hT36_9, hT36_10, rfl, rfl, rfl, rfl, hz⟩
                    · replace hz := bif_ok_f hz hc138
                      refine WB_s (i := 16) (j := 15) rfl (by kernel_rfl) rfl rfl (bf hc138 rfl) rfl (fun _ => hR131) ?_
                      refine WB_s (i := 17) (j := 15) rfl (by kernel_rfl) rfl rfl (bf hc138 rfl) rfl (fun _ => hR131) ?_
                      refine WB_s (i := 18) (j := 15) rfl (by kernel_rfl) rfl rfl (bf hc138 rfl) rfl (fun _ => hR131) ?_
                      refine WB_s (i := 19) (j := 15) rfl (by kernel_rfl) rfl rfl (bf hc138 rfl) rfl (fun _ => hR131) ?_
                      refine WB_s (i := 20) (j := 15) rfl (by kernel_rfl) rfl rfl (bf hc138 rfl) rfl (fun _ => hR131) ?_
                      refine WB_s (i := 21) (j := 15) rfl (by kernel_rfl) rfl rfl (bf hc138 rfl) rfl (fun _ => hR131) ?_
                      refine WB_y (i := 22) rfl (by kernel_rfl) rfl (Y_pick_f (.bool false) (bf hc138 rfl) rfl) (fun _ => hR131) ?_
                      refine WB_done (by kernel_rfl) (nm_then ?_)
                      exact ⟨M66, false, hF128, hS, hT36_1, hT36_2, hT36_5, hT36_8, hT36_9, hT36_10, rfl, rfl, rfl, rfl, hz⟩
                  · replace hz := bif_ok_f hz hc133
                    refine WB_s (i := 9) (j := 8) rfl (by kernel_rfl) rfl rfl (bf hc133 rfl) rfl (fun _ => hR131) ?_
                    refine WB_s (i := 10) (j := 8) rfl (by kernel_rfl) rfl rfl (bf hc133 rfl) rfl (fun _ => hR131) ?_
                    refine WB_s (i := 11) (j := 8) rfl (by kernel_rfl) rfl rfl (bf hc133 rfl) rfl (fun _ => hR131) ?_
                    refine WB_s (i := 12) (j := 8) rfl (by kernel_rfl) rfl rfl (bf hc133 rfl) rfl (fun _ => hR131) ?_
                    refine WB_s (i := 13) (j := 8) rfl (by kernel_rfl) rfl rfl (bf hc133 rfl) rfl (fun _ => hR131) ?_
                    refine WB_y (i := 14) rfl (by kernel_rfl) rfl (Y_pick_f (.bool false) (bf hc133 rfl) rfl) (fun _ => hR131) ?_
                    refine WB_y (i := 15) rfl (by kernel_rfl) rfl (Y_move (.bool false) rfl) (fun _ => hR131) ?_
                    refine WB_s (i := 16) (j := 15) rfl (by kernel_rfl) rfl rfl rfl rfl (fun _ => hR131) ?_
                    refine WB_s (i := 17) (j := 15) rfl (by kernel_rfl) rfl rfl rfl rfl (fun _ => hR131) ?_
                    refine WB_s (i := 18) (j := 15) rfl (by kernel_rfl) rfl rfl rfl rfl (fun _ => hR131) ?_
                    refine WB_s (i := 19) (j := 15) rfl (by kernel_rfl) rfl rfl rfl rfl (fun _ => hR131) ?_
                    refine WB_s (i := 20) (j := 15) rfl (by kernel_rfl) rfl rfl rfl rfl (fun _ => hR131) ?_
                    refine WB_s (i := 21) (j := 15) rfl (by kernel_rfl) rfl rfl rfl rfl (fun _ => hR131) ?_
                    refine WB_y (i := 22) rfl (by kernel_rfl) rfl (Y_pick_f (.bool false) rfl rfl) (fun _ => hR131) ?_
                    refine WB_done (by kernel_rfl) (nm_then ?_)
                    exact ⟨M66, false, hF128, hS, hT36_1, hT36_2, hT36_5, hT36_8, hT36_9, hT36_10, rfl, rfl, rfl, rfl, hz⟩
                · replace hz := bif_ok_f hz hc132
                  refine WB_s (i := 4) (j := 3) rfl (by kernel_rfl) rfl rfl (bf hc132 rfl) rfl (fun _ => hR131) ?_
                  refine WB_s (i := 5) (j := 3) rfl (by kernel_rfl) rfl rfl (bf hc132 rfl) rfl (fun _ => hR131) ?_
                  refine WB_s (i := 6) (j := 3) rfl (by kernel_rfl) rfl rfl (bf hc132 rfl) rfl (fun _ => hR131) ?_
                  refine WB_y (i := 7) rfl (by kernel_rfl) rfl (Y_pick_f (.bool false) (bf hc132 rfl) rfl) (fun _ => hR131) ?_
                  refine WB_y (i := 8) rfl (by kernel_rfl) rfl (Y_move (.bool false) rfl) (fun _ => hR131) ?_
                  refine WB_s (i := 9) (j := 8) rfl (by kernel_rfl) rfl rfl rfl rfl (fun _ => hR131) ?_
                  refine WB_s (i := 10) (j := 8) rfl (by kernel_rfl) rfl rfl rfl rfl (fun _ => hR131) ?_
                  refine WB_s (i := 11) (j := 8) rfl (by kernel_rfl) rfl rfl rfl rfl (fun _ => hR131) ?_
                  refine WB_s (i := 12) (j := 8) rfl (by kernel_rfl) rfl rfl rfl rfl (fun _ => hR131) ?_
                  refine WB_s (i := 13) (j := 8) rfl (by kernel_rfl) rfl rfl rfl rfl (fun _ => hR131) ?_
                  refine WB_y (i := 14) rfl (by kernel_rfl) rfl (Y_pick_f (.bool false) rfl rfl) (fun _ => hR131) ?_
                  refine WB_y (i := 15) rfl (by kernel_rfl) rfl (Y_move (.bool false) rfl) (fun _ => hR131) ?_
                  refine WB_s (i := 16) (j := 15) rfl (by kernel_rfl) rfl rfl rfl rfl (fun _ => hR131) ?_
                  refine WB_s (i := 17) (j := 15) rfl (by kernel_rfl) rfl rfl rfl rfl (fun _ => hR131) ?_
                  refine WB_s (i := 18) (j := 15) rfl (by kernel_rfl) rfl rfl rfl rfl (fun _ => hR131) ?_
                  refine WB_s (i := 19) (j := 15) rfl (by kernel_rfl) rfl rfl rfl rfl (fun _ => hR131) ?_
                  refine WB_s (i := 20) (j := 15) rfl (by kernel_rfl) rfl rfl rfl rfl (fun _ => hR131) ?_
                  refine WB_s (i := 21) (j := 15) rfl (by kernel_rfl) rfl rfl rfl rfl (fun _ => hR131) ?_
                  refine WB_y (i := 22) rfl (by kernel_rfl) rfl (Y_pick_f (.bool false) rfl rfl) (fun _ => hR131) ?_
                  refine WB_done (by kernel_rfl) (nm_then ?_)
                  exact ⟨M66, false, hF128, hS, hT36_1, hT36_2, hT36_5, hT36_8, hT36_9, hT36_10, rfl, rfl, rfl, rfl, hz⟩
              · rintro T110 w108 ⟨M109, c111, hx112, hS, hT110_1, hT110_2, hT110_5, hT110_8, hT110_9, hT110_10, hT110_11, hT110_12, hT110_14, hT110_81, hz⟩
                replace hcx1 := Rep.mono hx112.1 hcx1
                replace hvx2 := repL.mono hx112.1 hvx2
                replace hb23 := Rep.mono hx112.1 hb23
                replace hv28 := repL.mono hx112.1 hv28
                replace hb55 := Rep.mono hx112.1 hb55
                replace hb61 := Rep.mono hx112.1 hb61
                replace f66_1 := repL.mono hx112.1 f66_1
                replace hb71 := Rep.mono hx112.1 hb71
                replace hb76 := Rep.mono hx112.1 hb76
                replace hE := Mm.ext.trans hE hx112
                replace hF32 := Mm.ext.trans hF32 hx112
                replace hF48 := Mm.ext.trans hF48 hx112
                replace hF107 := Mm.ext.trans hF107 hx112
                rw [postFixes_j6] at hz
                refine W_cond hT110_81 (fun hc113 => ?_) (fun hc113 => ?_)
                · replace hz := bif_ok_t hz hc113
                  refine W_seq ?_
                  refine W_reg ?_
                  refine WL_y (Y_fa fa50_1 hT110_11) ?_
                  refine WL_y (Y_ld1 (.int .i64 d56.node) ts3 rfl (hS.bvB 2 rfl) (GFrame.p1 (rep_root (k := 7) rfl hb55))) ?_
                  obtain ⟨u114, hx115, hz⟩ := bind_ok hz
                  obtain ⟨hx115a, hx115b⟩ := inR_some hx115
                  refine WL_y (Y_ixA ia41 hT110_9 rfl hx115a hx115b) ?_
                  obtain ⟨x118, hx119, hz⟩ := bind_ok hz
                  have hw117 : ([.bool true] : List Value).length = 1 := Rep.len (show rep M109 [Value.bool true] (true : Bool) from rfl)
                  have hl117 : (cs23).length = 6 := Rep.len hb23
                  have hq120 := (idxV_some hx119)
                  obtain ⟨a121, hx122, hz⟩ := bind_ok hz
                  obtain ⟨d123, hd117, hz⟩ := bind_ok hz
                  have hb117 : rep M109 (pt cs23 (0 + Int.toNat d56.node * 1) [.bool true]) d123 := rep_eq (rep_whole (k := 6) (by rw [pt_length (by omega)]; exact hl117) (vs (k := 1) rfl rfl (rep_root (k := 6) rfl hb23) (rep_leaf rfl (show rep M109 [Value.bool true] (true : Bool) from rfl) (by omega)) hx122 (by omega) (by omega) (by omega))) hd117
                  generalize hg117 : (pt cs23 (0 + Int.toNat d56.node * 1) [.bool true]) = cs117 at hb117
                  refine WL_c (O_st (j := 3) (v := .bool true) (ws := [.bool true]) hS rfl (by kernel_rfl) rfl rfl rfl hw117 (Rep.one (show rep M109 [Value.bool true] (true : Bool) from rfl)) (by omega) ?_)
                  rw [hg117]
                  clear hg117
                  intro w116 hS
                  replace hS : St w noX M109 [.box b69 cs71 45, .box b59 cs61 45, .box b53 cs55 50, .box b19 cs117 41, .box b10 cs76 45, .box b4 cx1 85] w116 := hS
                  refine WL_nil (nm_then ?_)
                  refine W_reg ?_
                  refine WL_y (Y_move (v28) hT110_8) ?_
                  refine WL_y (Y_fa fa50_4 hT110_11) ?_
                  obtain ⟨v124, ev124, hv124⟩ := (GFrame.p4 (rep_root (k := 7) rfl hb55))
                  refine WL_y (Y_ld1 v124 ts23 rfl (hS.bvB 2 rfl) ev124) ?_
                  obtain ⟨r127, hr126, hz⟩ := bind_ok hz
                  replace hr126 := Option.some.inj hr126
                  refine WL_c (O_mem (vs := [v28, v124]) (rv := (fun M' u => repL M' u r127)) cb49 (args2 rfl rfl) hS (hr126 ▸ (c_union hS.agree hv28 hv124)) ?_)
                  intro u126 M126 w125 hx126 hu126 hS
                  have h126 : repL M126 u126 r127 := hu126
                  replace hcx1 := Rep.mono hx126.1 hcx1
                  replace hvx2 := repL.mono hx126.1 hvx2
                  replace hv28 := repL.mono hx126.1 hv28
                  replace hb55 := Rep.mono hx126.1 hb55
                  replace hb61 := Rep.mono hx126.1 hb61
                  replace f66_1 := repL.mono hx126.1 f66_1
                  replace hb71 := Rep.mono hx126.1 hb71
                  replace hb76 := Rep.mono hx126.1 hb76
                  replace hb117 := Rep.mono hx126.1 hb117
                  replace hv124 := repL.mono hx126.1 hv124
                  replace hE := Mm.ext.trans hE hx126
                  replace hF32 := Mm.ext.trans hF32 hx126
                  replace hF48 := Mm.ext.trans hF48 hx126
                  replace hF107 := Mm.ext.trans hF107 hx126
                  refine WL_y (Y_assign (u126) rfl) ?_
                  refine WL_nil (nm_then ?_)
                  exact ⟨M126, cs117, d123, u126, r127, hF107, hS, hb117, h126, hT110_1, hT110_2, hT110_5, rfl, hT110_9, hT110_10, hT110_12, hT110_14, hz⟩
                · replace hz := bif_ok_f hz hc113
                  refine W_skip (nm_then ?_)
                  exact ⟨M109, cs23, d24, v28, l27, hF107, hS, hb23, hv28, hT110_1, hT110_2, hT110_5, hT110_8, hT110_9, hT110_10, hT110_12, hT110_14, hz⟩
            · rintro T80 w78 ⟨M79, cs81, d82, v84, l83, hx85, hS, hb81, hv84, hT80_1, hT80_2, hT80_5, hT80_8, hT80_9, hT80_10, hT80_12, hT80_14, hz⟩
              replace hcx1 := Rep.mono hx85.1 hcx1
              replace hvx2 := repL.mono hx85.1 hvx2
              replace hb55 := Rep.mono hx85.1 hb55
              replace hb61 := Rep.mono hx85.1 hb61
              replace f66_1 := repL.mono hx85.1 f66_1
              replace hb71 := Rep.mono hx85.1 hb71
              replace hb76 := Rep.mono hx85.1 hb76
              replace hE := Mm.ext.trans hE hx85
              replace hF32 := Mm.ext.trans hF32 hx85
              replace hF48 := Mm.ext.trans hF48 hx85
              rw [postFixes_j4] at hz
              refine W_seqJ (fun T' w' => ∃ M87 c89, Mm.ext w.heap.size noX M79 M87 ∧ St w noX M87 [.box b69 cs71 45, .box b59 cs61 45, .box b53 cs55 50, .box b19 cs81 41, .box b10 cs76 45, .box b4 cx1 85] w' ∧ T' 1 = vx2 ∧ T' 2 = .pointer (some ⟨b4, 0, none⟩) ∧ T' 5 = .pointer (some ⟨b10, 0, none⟩) ∧ T' 8 = v84 ∧ T' 9 = .pointer (some ⟨b19, 0, none⟩) ∧ T' 10 = .int .i64 y29 ∧ T' 117 = .bool c89 ∧ postFixes_j5 y29 rec30 d77 d82 l83 c89 = some r) ?_ ?_
              · have hF92 := Mm.ext.refl w.heap.size noX M79
                refine W_reg ?_
                refine WL_y (Y_fa fa45_1 hT80_12) ?_
                refine WL_y (Y_ld1 (.bool d62.fixed) ts4 rfl (hS.bvB 1 rfl) (GCase.p1 (rep_root (k := 24) rfl hb61))) ?_
                refine WL_y (Y_move (.bool d62.fixed) rfl) ?_
                rcases Bool.eq_false_or_eq_true d62.fixed with hc93 | hc93
                · replace hz := bif_ok_t hz hc93
                  refine WL_gy rfl (bt hc93 rfl) (Y_fa fa45_1 hT80_5) ?_
                  refine WL_gy rfl (bt hc93 rfl) (Y_ld1 (.bool d77.fixed) ts4 rfl (hS.bvB 4 rfl) (GCase.p1 (rep_root (k := 24) rfl hb76))) ?_
                  refine WL_gy rfl (bt hc93 rfl) (Y_not rfl) ?_
                  refine WL_gy rfl (bt hc93 rfl) (Y_move (.bool (!d77.fixed)) rfl) ?_
                  rcases Bool.eq_false_or_eq_true (!d77.fixed) with hc94 | hc94
                  · replace hz := bif_ok_t hz hc94
                    refine WL_s (j := 6) rfl (bt hc94 rfl) rfl ?_
                    refine WL_s (j := 6) rfl (bt hc94 rfl) rfl ?_
                    refine WL_s (j := 6) rfl (bt hc94 rfl) rfl ?_
                    refine WL_s (j := 6) rfl (bt hc94 rfl) rfl ?_
                    refine WL_s (j := 6) rfl (bt hc94 rfl) rfl ?_
                    refine WL_s (j := 6) rfl (bt hc94 rfl) rfl ?_
                    refine WL_gy rfl (bt hc93 rfl) (Y_pick_t (.bool true) (bt hc94 rfl) rfl) ?_
                    refine WL_y (Y_pick_t (.bool true) (bt hc93 rfl) rfl) ?_
                    refine WL_y (Y_move (.bool true) rfl) ?_
                    refine WL_s (j := 15) rfl rfl rfl ?_
                    refine WL_s (j := 15) rfl rfl rfl ?_
                    refine WL_s (j := 15) rfl rfl rfl ?_
                    refine WL_s (j := 15) rfl rfl rfl ?_
                    refine WL_su (j := 19) rfl rfl ?_
                    refine WL_su (j := 19) rfl rfl ?_
                    refine WL_su (j := 19) rfl rfl ?_
                    refine WL_su (j := 22) rfl rfl ?_
                    refine WL_su (j := 22) rfl rfl ?_
                    refine WL_su (j := 22) rfl rfl ?_
                    refine WL_su (j := 19) rfl rfl ?_
                    refine WL_s (j := 15) rfl rfl rfl ?_
                    refine WL_y (Y_pick_t (.bool true) rfl rfl) ?_
                    refine WL_nil (nm_then ?_)
                    exact ⟨M79, true, hF92, hS, hT80_1, hT80_2, hT80_5, hT80_8, hT80_9, hT80_10, rfl, hz⟩
                  · replace hz := bif_ok_f hz hc94
                    refine WL_gy rfl (bf hc94 rfl) (Y_fa fa45_5 hT80_12) ?_
                    obtain ⟨v95, ev95, hv95⟩ := (GCase.p5 (rep_root (k := 24) rfl hb61))
                    refine WL_gy rfl (bf hc94 rfl) (Y_ld1 v95 ts23 rfl (hS.bvB 1 rfl) ev95) ?_
                    refine WL_gy rfl (bf hc94 rfl) (Y_fa fa45_5 hT80_5) ?_
                    obtain ⟨v96, ev96, hv96⟩ := (GCase.p5 (rep_root (k := 24) rfl hb76))
                    refine WL_gy rfl (bf hc94 rfl) (Y_ld1 v96 ts23 rfl (hS.bvB 4 rfl) ev96) ?_
                    obtain ⟨r99, hr98, hz⟩ := bind_ok hz
                    refine WL_g rfl (bf hc94 rfl) (O_val (vs := [v95, v96]) (v := .bool r99) cb20 (args2 rfl rfl) hS (keepSameNumbers_ok hS.agree hv95 hv96 hr98) ?_)
                    intro w97 hS
                    refine WL_gy rfl (bf hc94 rfl) (Y_not rfl) ?_
                    refine WL_gy rfl (bt hc93 rfl) (Y_pick_f (.bool (!r99)) (bf hc94 rfl) rfl) ?_
                    refine WL_y (Y_pick_t (.bool (!r99)) (bt hc93 rfl) rfl) ?_
                    refine WL_y (Y_move (.bool (!r99)) rfl) ?_
                    rcases Bool.eq_false_or_eq_true (!r99) with hc100 | hc100
                    · replace hz := bif_ok_t hz hc100
                      refine WL_s (j := 15) rfl (bt hc100 rfl) rfl ?_
                      refine WL_s (j := 15) rfl (bt hc100 rfl) rfl ?_
                      refine WL_s (j := 15) rfl (bt hc100 rfl) rfl ?_
                      refine WL_s (j := 15) rfl (bt hc100 rfl) rfl ?_
                      refine WL_su (j := 19) rfl rfl ?_
                      refine WL_su (j := 19) rfl rfl ?_
                      refine WL_su (j := 19) rfl rfl ?_
                      refine WL_su (j := 22) rfl rfl ?_
                      refine WL_su (j := 22) rfl rfl ?_
                      refine WL_su (j := 22) rfl rfl ?_
                      refine WL_su (j := 19) rfl rfl ?_
                      refine WL_s (j := 15) rfl (bt hc100 rfl) rfl ?_
                      refine WL_y (Y_pick_t (.bool true) (bt hc100 rfl) rfl) ?_
                      refine WL_nil (nm_then ?_)
                      exact ⟨M79, true, hF92, hS, hT80_1, hT80_2, hT80_5, hT80_8, hT80_9, hT80_10, rfl, hz⟩
                    · replace hz := bif_ok_f hz hc100
                      refine WL_gy rfl (bf hc100 rfl) (Y_move (v66_1) hT80_14) ?_
                      obtain ⟨a101, c101, hv101, _⟩ := repL_shape f66_1
                      refine WL_gy rfl (bf hc100 rfl) (Y_lenL Try.underlying62 (tr2 hv101 rfl)) ?_
                      refine WL_gy rfl (bf hc100 rfl) (Y_gtr rfl rfl) ?_
                      refine WL_gy rfl (bf hc100 rfl) (Y_move (.bool (decide ((r67.2.1.length : Int) > 0))) rfl) ?_
                      rcases Bool.eq_false_or_eq_true (decide ((r67.2.1.length : Int) > 0)) with hc102 | hc102
                      · replace hz := bif_ok_t hz hc102
                        refine WL_gy rfl (bt hc102 rfl) (Y_fa fa45_1 hT80_12) ?_
                        refine WL_gy rfl (bt hc102 rfl) (Y_ld1 (.bool d62.fixed) ts4 rfl (hS.bvB 1 rfl) (GCase.p1 (rep_root (k := 24) rfl hb61))) ?_
                        refine WL_gy rfl (bt hc102 rfl) (Y_move (.bool d62.fixed) rfl) ?_
                        rcases Bool.eq_false_or_eq_true d62.fixed with hc103 | hc103
                        · replace hz := bif_ok_t hz hc103
                          refine WL_s (j := 22) rfl (bt hc103 rfl) rfl ?_
                          refine WL_s (j := 22) rfl (bt hc103 rfl) rfl ?_
                          refine WL_s (j := 22) rfl (bt hc103 rfl) rfl ?_
                          refine WL_gy rfl (bt hc102 rfl) (Y_pick_t (.bool true) (bt hc103 rfl) rfl) ?_
                          refine WL_gy rfl (bf hc100 rfl) (Y_pick_t (.bool true) (bt hc102 rfl) rfl) ?_
                          refine WL_y (Y_pick_f (.bool true) (bf hc100 rfl) rfl) ?_
                          refine WL_nil (nm_then ?_)
                          exact ⟨M79, true, hF92, hS, hT80_1, hT80_2, hT80_5, hT80_8, hT80_9, hT80_10, rfl, hz⟩
                        · replace hz := bif_ok_f hz hc103
                          refine WL_gy rfl (bf hc103 rfl) (Y_fa fa45_1 hT80_5) ?_
                          refine WL_gy rfl (bf hc103 rfl) (Y_ld1 (.bool d77.fixed) ts4 rfl (hS.bvB 4 rfl) (GCase.p1 (rep_root (k := 24) rfl hb76))) ?_
                          refine WL_gy rfl (bf hc103 rfl) (Y_not rfl) ?_
                          refine WL_gy rfl (bt hc102 rfl) (Y_pick_f (.bool (!d77.fixed)) (bf hc103 rfl) rfl) ?_
                          refine WL_gy rfl (bf hc100 rfl) (Y_pick_t (.bool (!d77.fixed)) (bt hc102 rfl) rfl) ?_
                          refine WL_y (Y_pick_f (.bool (!d77.fixed)) (bf hc100 rfl) rfl) ?_
                          refine WL_nil (nm_then ?_)
                          exact ⟨M79, (!d77.fixed), hF92, hS, hT80_1, hT80_2, hT80_5, hT80_8, hT80_9, hT80_10, rfl, hz⟩
                      · replace hz := bif_ok_f hz hc102
                        refine WL_s (j := 19) rfl (bf hc102 rfl) rfl ?_
                        refine WL_s (j := 19) rfl (bf hc102 rfl) rfl ?_
                        refine WL_s (j := 19) rfl (bf hc102 rfl) rfl ?_
                        refine WL_su (j := 22) rfl rfl ?_
                        refine WL_su (j := 22) rfl rfl ?_
                        refine WL_su (j := 22) rfl rfl ?_
                        refine WL_s (j := 19) rfl (bf hc102 rfl) rfl ?_
                        refine WL_gy rfl (bf hc100 rfl) (Y_pick_f (.bool false) (bf hc102 rfl) rfl) ?_
                        refine WL_y (Y_pick_f (.bool false) (bf hc100 rfl) rfl) ?_
                        refine WL_nil (nm_then ?_)
                        exact ⟨M79, false, hF92, hS, hT80_1, hT80_2, hT80_5, hT80_8, hT80_9, hT80_10, rfl, hz⟩
                · replace hz := bif_ok_f hz hc93
                  refine WL_s (j := 2) rfl (bf hc93 rfl) rfl ?_
                  refine WL_s (j := 2) rfl (bf hc93 rfl) rfl ?_
                  refine WL_s (j := 2) rfl (bf hc93 rfl) rfl ?_
                  refine WL_s (j := 2) rfl (bf hc93 rfl) rfl ?_
                  refine WL_su (j := 6) rfl rfl ?_
                  refine WL_su (j := 6) rfl rfl ?_
                  refine WL_su (j := 6) rfl rfl ?_
                  refine WL_su (j := 6) rfl rfl ?_
                  refine WL_su (j := 6) rfl rfl ?_
                  refine WL_su (j := 6) rfl rfl ?_
                  refine WL_s (j := 2) rfl (bf hc93 rfl) rfl ?_
                  refine WL_y (Y_pick_f (.bool false) (bf hc93 rfl) rfl) ?_
                  refine WL_y (Y_move (.bool false) rfl) ?_
                  refine WL_gy rfl rfl (Y_move (v66_1) hT80_14) ?_
                  obtain ⟨a104, c104, hv104, _⟩ := repL_shape f66_1
                  refine WL_gy rfl rfl (Y_lenL Try.underlying62 (tr2 hv104 rfl)) ?_
                  refine WL_gy rfl rfl (Y_gtr rfl rfl) ?_
                  refine WL_gy rfl rfl (Y_move (.bool (decide ((r67.2.1.length : Int) > 0))) rfl) ?_
                  rcases Bool.eq_false_or_eq_true (decide ((r67.2.1.length : Int) > 0)) with hc105 | hc105
                  · replace hz := bif_ok_t hz hc105
                    refine WL_gy rfl (bt hc105 rfl) (Y_fa fa45_1 hT80_12) ?_
                    refine WL_gy rfl (bt hc105 rfl) (Y_ld1 (.bool d62.fixed) ts4 rfl (hS.bvB 1 rfl) (GCase.p1 (rep_root (k := 24) rfl hb61))) ?_
                    refine WL_gy rfl (bt hc105 rfl) (Y_move (.bool d62.fixed) rfl) ?_
                    rcases Bool.eq_false_or_eq_true d62.fixed with hc106 | hc106
                    · replace hz := bif_ok_t hz hc106
                      refine WL_s (j := 22) rfl (bt hc106 rfl) rfl ?_
                      refine WL_s (j := 22) rfl (bt hc106 rfl) rfl ?_
                      refine WL_s (j := 22) rfl (bt hc106 rfl) rfl ?_
                      refine WL_gy rfl (bt hc105 rfl) (Y_pick_t (.bool true) (bt hc106 rfl) rfl) ?_
                      refine WL_gy rfl rfl (Y_pick_t (.bool true) (bt hc105 rfl) rfl) ?_
                      refine WL_y (Y_pick_f (.bool true) rfl rfl) ?_
                      refine WL_nil (nm_then ?_)
                      exact ⟨M79, true, hF92, hS, hT80_1, hT80_2, hT80_5, hT80_8, hT80_9, hT80_10, rfl, hz⟩
                    · replace hz := bif_ok_f hz hc106
                      refine WL_gy rfl (bf hc106 rfl) (Y_fa fa45_1 hT80_5) ?_
                      refine WL_gy rfl (bf hc106 rfl) (Y_ld1 (.bool d77.fixed) ts4 rfl (hS.bvB 4 rfl) (GCase.p1 (rep_root (k := 24) rfl hb76))) ?_
                      refine WL_gy rfl (bf hc106 rfl) (Y_not rfl) ?_
                      refine WL_gy rfl (bt hc105 rfl) (Y_pick_f (.bool (!d77.fixed)) (bf hc106 rfl) rfl) ?_
                      refine WL_gy rfl rfl (Y_pick_t (.bool (!d77.fixed)) (bt hc105 rfl) rfl) ?_
                      refine WL_y (Y_pick_f (.bool (!d77.fixed)) rfl rfl) ?_
                      refine WL_nil (nm_then ?_)
                      exact ⟨M79, (!d77.fixed), hF92, hS, hT80_1, hT80_2, hT80_5, hT80_8, hT80_9, hT80_10, rfl, hz⟩
                  · replace hz := bif_ok_f hz hc105
                    refine WL_s (j := 19) rfl (bf hc105 rfl) rfl ?_
                    refine WL_s (j := 19) rfl (bf hc105 rfl) rfl ?_
                    refine WL_s (j := 19) rfl (bf hc105 rfl) rfl ?_
                    refine WL_su (j := 22) rfl rfl ?_
                    refine WL_su (j := 22) rfl rfl ?_
                    refine WL_su (j := 22) rfl rfl ?_
                    refine WL_s (j := 19) rfl (bf hc105 rfl) rfl ?_
                    refine WL_gy rfl rfl (Y_pick_f (.bool false) (bf hc105 rfl) rfl) ?_
                    refine WL_y (Y_pick_f (.bool false) rfl rfl) ?_
                    refine WL_nil (nm_then ?_)
                    exact ⟨M79, false, hF92, hS, hT80_1, hT80_2, hT80_5, hT80_8, hT80_9, hT80_10, rfl, hz⟩
              · rintro T88 w86 ⟨M87, c89, hx90, hS, hT88_1, hT88_2, hT88_5, hT88_8, hT88_9, hT88_10, hT88_117, hz⟩
                replace hcx1 := Rep.mono hx90.1 hcx1
                replace hvx2 := repL.mono hx90.1 hvx2
                replace hb55 := Rep.mono hx90.1 hb55
                replace hb61 := Rep.mono hx90.1 hb61
                replace hb71 := Rep.mono hx90.1 hb71
                replace hb76 := Rep.mono hx90.1 hb76
                replace hb81 := Rep.mono hx90.1 hb81
                replace hv84 := repL.mono hx90.1 hv84
                replace hE := Mm.ext.trans hE hx90
                replace hF32 := Mm.ext.trans hF32 hx90
                replace hF48 := Mm.ext.trans hF48 hx90
                rw [postFixes_j5] at hz
                refine W_cond hT88_117 (fun hc91 => ?_) (fun hc91 => ?_)
                · replace hz := bif_ok_t hz hc91
                  refine W_seq ?_
                  refine W_reg ?_
                  refine WL_y (Y_assign (.bool false) rfl) ?_
                  refine WL_nil (nm_then ?_)
                  cases hz
                  exact W_ret (rt_blk (rt_then (rt_then (rt_blk (rt_then (R_t1 rfl rfl ⟨rfl, (St.dropB (St.dropB (St.dropB (St.dropB (St.dropB (St.dropB hS hb69) hb59) hb53) hb19) hb10) hb4).kept⟩))))))
                · replace hz := bif_ok_f hz hc91
                  refine W_skip (nm_blk ?_)
                  refine (nm_then ?_)
                  exact ⟨M87, cs81, d82, cs76, d77, v84, l83, hF48, (St.dropB (St.dropB (St.dropB hS hb69) hb59) hb53), hb81, hb76, hv84, hT88_1, hT88_2, hT88_5, hT88_8, hT88_9, hT88_10, hz⟩
        · rintro T40 w38 ⟨M39, cs41, d42, cs43, d44, v46, l45, hx47, hS, hb41, hb43, hv46, hT40_1, hT40_2, hT40_5, hT40_8, hT40_9, hT40_10, hz⟩
          replace hcx1 := Rep.mono hx47.1 hcx1
          replace hvx2 := repL.mono hx47.1 hvx2
          replace hE := Mm.ext.trans hE hx47
          replace hF32 := Mm.ext.trans hF32 hx47
          rw [postFixes_j3] at hz
          refine W_reg ?_
          refine WL_y (Y_move (.int .i64 y29) hT40_10) ?_
          refine WL_y (Y_add rfl rfl) ?_
          refine WL_y (Y_assign (.int .i64 (IntKind.wrap .i64 (y29 + 1))) rfl) ?_
          refine WL_nil (nm_then ?_)
          exact ⟨M39, cs41, d42, cs43, d44, v46, l45, (IntKind.wrap .i64 (y29 + 1)), hF32, hS, hb41, hb43, hv46, hT40_1, hT40_2, hT40_5, hT40_8, hT40_9, rfl, (by rw [← hrec30]; exact hz)⟩

def postResults_j3 (y26 : Int) (rec27 : GCase → (List Int) → Bool → Int → Option Bool) (d39 : GCase) (l40 : List Int) (c42 : Bool) : Option Bool :=
    rec27 d39 l40 c42 (IntKind.wrap .i64 (y26 + 1))

def postResults_j5 (y26 : Int) (rec27 : GCase → (List Int) → Bool → Int → Option Bool) (d49 : GCase) (r54 : (List Int) × Bool) : Option Bool :=
    postResults_j3 y26 rec27 d49 r54.1 r54.2

def postResults_j6 (y26 : Int) (rec27 : GCase → (List Int) → Bool → Int → Option Bool) (d49 : GCase) (r54 : (List Int) × Bool) (c63 : Bool) : Option Bool :=
    (bif c63 then
    some false
    else
    postResults_j5 y26 rec27 d49 r54)

def postResults_j4 (fu : Nat) (x1 : GTxn) (l23 : List Int) (c25 : Bool) (y26 : Int) (rec27 : GCase → (List Int) → Bool → Int → Option Bool) (d49 : GCase) : Option Bool :=
    (postResultD fu d49).bind fun r54 =>
    (bif c25 then
    (bif !r54.2 then
    postResults_j6 y26 rec27 d49 r54 true
    else
    (keepSameNumbersD fu r54.1 l23).bind fun r71 =>
    (bif !r71 then
    postResults_j6 y26 rec27 d49 r54 true
    else
    (bif r54.2 then
    (bif (r54.1.length : Int) != (x1.ops.length : Int) then
    postResults_j6 y26 rec27 d49 r54 true
    else
    postResults_j6 y26 rec27 d49 r54 (!d49.fixed))
    else
    postResults_j6 y26 rec27 d49 r54 false)))
    else
    (bif r54.2 then
    (bif (r54.1.length : Int) != (x1.ops.length : Int) then
    postResults_j6 y26 rec27 d49 r54 true
    else
    postResults_j6 y26 rec27 d49 r54 (!d49.fixed))
    else
    postResults_j6 y26 rec27 d49 r54 false))

def postResults_j7 (fu : Nat) (x1 : GTxn) (d22 : GCase) (l23 : List Int) (c25 : Bool) (y26 : Int) (rec27 : GCase → (List Int) → Bool → Int → Option Bool) (d88 : GCase) (y89 : Int) : Option Bool :=
    (bif y89 == 0 then
    (some d88).bind fun d95 =>
    postResults_j4 fu x1 l23 c25 y26 rec27 d95
    else
    postResults_j4 fu x1 l23 c25 y26 rec27 d22)

def postResults_j2 (fu : Nat) (x1 : GTxn) (x2 : List GFrame) (d22 : GCase) (l23 : List Int) (c25 : Bool) (y26 : Int) (rec27 : GCase → (List Int) → Bool → Int → Option Bool) : Option Bool :=
    (idx x2 y26).bind fun x102 =>
    (postTakeD fu d22 x1.id x102).bind fun r106 =>
    (some r106.1).bind fun d111 =>
    postResults_j7 fu x1 d22 l23 c25 y26 rec27 d111 r106.2.2

def postResults_j8 (fu : Nat) (x1 : GTxn) (x2 : List GFrame) (d22 : GCase) (l23 : List Int) (c25 : Bool) (y26 : Int) (rec27 : GCase → (List Int) → Bool → Int → Option Bool) (c120 : Bool) : Option Bool :=
    (bif c120 then
    postResults_j2 fu x1 x2 d22 l23 c25 y26 rec27
    else
    some true)

def postResults_l1 (fu : Nat) (x1 : GTxn) (x2 : List GFrame) : Nat → GCase → (List Int) → Bool → Int → Option Bool
  | 0, _, _, _, _ => none
  | n + 1, d22, l23, c25, y26 =>
    (bif decide (y26 < (x2.length : Int)) then
    postResults_j8 fu x1 x2 d22 l23 c25 y26 (postResults_l1 fu x1 x2 n) (decide (y26 < 40))
    else
    postResults_j8 fu x1 x2 d22 l23 c25 y26 (postResults_l1 fu x1 x2 n) false)

def postResults_j1 (fu : Nat) (x1 : GTxn) (x2 : List GFrame) (d13 : GCase) : Option Bool :=
    postResults_l1 fu x1 x2 fu d13 [] false 0

def postResults_j9 (fu : Nat) (x1 : GTxn) (x2 : List GFrame) (d13 : GCase) (c130 : Bool) : Option Bool :=
    (bif c130 then
    (keepPostsD fu).bind fun r135 =>
    some r135
    else
    postResults_j1 fu x1 x2 d13)

def postResultsD (fu : Nat) (x1 : GTxn) (x2 : List GFrame) : Option Bool :=
    (postBeginD fu x1).bind fun r8 =>
    (some r8.1).bind fun d13 =>
    (bif r8.2.2 != 0 then
    postResults_j9 fu x1 x2 d13 true
    else
    (keepPostsD fu).bind fun r140 =>
    postResults_j9 fu x1 x2 d13 (!r140))

set_option maxRecDepth 100000 in
set_option maxHeartbeats 4000000 in
theorem postResults_ok {M : Mm} {w : World} {cx1 : List Value} {vx2 : Value} {x1 : GTxn} {x2 : List GFrame} {fu : Nat} {r : Bool} (hA : Agree M w) (hcx1 : rep M cx1 x1) (hvx2 : repL M vx2 x2) (hz : postResultsD fu x1 x2 = some r) :
    Calls Try.prog 13 #[.agg cx1.toArray, vx2] w (GivesV w (.bool r)) := by
  refine calls_W Try.func13 rfl 88 rfl rfl (by kernel_rfl) fun T hT => ?_
  have hT_0 : T 0 = .agg cx1.toArray := hT 0
  have hT_1 : T 1 = vx2 := hT 1
  clear hT
  have hE := Mm.ext.refl w.heap.size noX M
  have hS : St w noX M [] w := St.start hA
  rw [postResultsD] at hz
  refine W_seq ?_
  refine W_reg ?_
  refine WL_c (O_box (v := .agg cx1.toArray) (cs := cx1) hT_0 rfl hS ?_)
  intro b4 w3 hb4 hS
  replace hS : St w noX M [.box b4 cx1 85] w3 := hS
  refine WL_y (Y_assign (.bool false) rfl) ?_
  refine WL_nil (nm_then ?_)
  refine W_seq ?_
  refine W_reg ?_
  have ha5 := (rep_root (k := 2) rfl hcx1)
  refine WL_y (Y_ldn ta85 rfl (hS.bvB 0 rfl) (Rep.len ha5)) ?_
  obtain ⟨r8, hr7, hz⟩ := bind_ok hz
  refine WL_c (O_mem (vs := [.agg (sl cx1 (0) 2).toArray]) (rv := (fun M' u => ∃ c0 v1, u = .tuple #[.agg c0.toArray, v1, .int .i64 r8.2.2] ∧ rep M' c0 r8.1 ∧ repL M' v1 r8.2.1)) cb45 (args1 rfl) hS (postBegin_ok hS.agree ha5 hr7) ?_)
  intro u7 M7 w6 hx7 hu7 hS
  obtain ⟨c7_0, v7_1, hq7, f7_0, f7_1⟩ := hu7
  subst hq7
  replace hcx1 := Rep.mono hx7.1 hcx1
  replace hvx2 := repL.mono hx7.1 hvx2
  replace ha5 := Rep.mono hx7.1 ha5
  replace hE := Mm.ext.trans hE hx7
  refine WL_y (Y_move (.tuple #[.agg c7_0.toArray, v7_1, .int .i64 r8.2.2]) rfl) ?_
  refine WL_y (Y_extract (v := .agg c7_0.toArray) rfl rfl) ?_
  refine WL_y (Y_extract (v := v7_1) rfl rfl) ?_
  refine WL_y (Y_extract (v := .int .i64 r8.2.2) rfl rfl) ?_
  refine WL_c (O_alloc tz45 hS ?_)
  intro b10 w9 hb10 hS
  replace hS : St w noX M7 [.box b10 (Zr.zc GCase) 45, .box b4 cx1 85] w9 := hS
  have zb10 : rep M7 (Zr.zc GCase) (Zr.zd : GCase) := Zr.zr
  have hw12 : (c7_0 : List Value).length = 24 := Rep.len f7_0
  have hl12 : ((Zr.zc GCase)).length = 24 := Rep.len zb10
  obtain ⟨d13, hd12, hz⟩ := bind_ok hz
  have hb12 : rep M7 (pt (Zr.zc GCase) (0) c7_0) d13 := rep_eq (rep_whole (k := 24) (by rw [pt_length (by omega)]; exact hl12) (rep_leaf rfl f7_0 (by omega))) hd12
  generalize hg12 : (pt (Zr.zc GCase) (0) c7_0) = cs12 at hb12
  refine WL_c (O_st (j := 0) (v := .agg c7_0.toArray) (ws := c7_0) hS rfl (by kernel_rfl) rfl rfl rfl hw12 (Rep.one f7_0) (by omega) ?_)
  rw [hg12]
  clear hg12
  intro w11 hS
  replace hS : St w noX M7 [.box b10 cs12 45, .box b4 cx1 85] w11 := hS
  refine WL_y (Y_assign (v7_1) rfl) ?_
  refine WL_y (Y_assign (.int .i64 r8.2.2) rfl) ?_
  refine WL_nil (nm_then ?_)
  refine W_seqJ (fun T' w' => ∃ M15, Mm.ext w.heap.size noX M7 M15 ∧ St w noX M15 [.box b10 cs12 45, .box b4 cx1 85] w' ∧ T' 1 = vx2 ∧ T' 2 = .pointer (some ⟨b4, 0, none⟩) ∧ T' 5 = .pointer (some ⟨b10, 0, none⟩) ∧ postResults_j1 fu x1 x2 d13 = some r) ?_ ?_
  · have hF126 := Mm.ext.refl w.heap.size noX M7
    refine W_seqJ (fun T' w' => ∃ M128 c130, Mm.ext w.heap.size noX M7 M128 ∧ St w noX M128 [.box b10 cs12 45, .box b4 cx1 85] w' ∧ T' 1 = vx2 ∧ T' 2 = .pointer (some ⟨b4, 0, none⟩) ∧ T' 5 = .pointer (some ⟨b10, 0, none⟩) ∧ T' 27 = .bool c130 ∧ postResults_j9 fu x1 x2 d13 c130 = some r) ?_ ?_
    · have hF136 := Mm.ext.refl w.heap.size noX M7
      refine W_reg ?_
      refine WL_y (Y_move (.int .i64 r8.2.2) rfl) ?_
      refine WL_y (Y_neq rfl rfl) ?_
      refine WL_y (Y_move (.bool (r8.2.2 != 0)) rfl) ?_
      rcases Bool.eq_false_or_eq_true (r8.2.2 != 0) with hc137 | hc137
      · replace hz := bif_ok_t hz hc137
        refine WL_s (j := 2) rfl (bt hc137 rfl) rfl ?_
        refine WL_s (j := 2) rfl (bt hc137 rfl) rfl ?_
        refine WL_y (Y_pick_t (.bool true) (bt hc137 rfl) rfl) ?_
        refine WL_nil (nm_then ?_)
        exact ⟨M7, true, hF136, hS, hT_1, rfl, rfl, rfl, hz⟩
      · replace hz := bif_ok_f hz hc137
        obtain ⟨r140, hr139, hz⟩ := bind_ok hz
        refine WL_g rfl (bf hc137 rfl) (O_val (vs := []) (v := .bool r140) cb46 args0 hS (keepPosts_ok hS.agree hr139) ?_)
        intro w138 hS
        refine WL_gy rfl (bf hc137 rfl) (Y_not rfl) ?_
        refine WL_y (Y_pick_f (.bool (!r140)) (bf hc137 rfl) rfl) ?_
        refine WL_nil (nm_then ?_)
        exact ⟨M7, (!r140), hF136, hS, hT_1, rfl, rfl, rfl, hz⟩
    · rintro T129 w127 ⟨M128, c130, hx131, hS, hT129_1, hT129_2, hT129_5, hT129_27, hz⟩
      replace hcx1 := Rep.mono hx131.1 hcx1
      replace hvx2 := repL.mono hx131.1 hvx2
      replace hb12 := Rep.mono hx131.1 hb12
      replace hE := Mm.ext.trans hE hx131
      replace hF126 := Mm.ext.trans hF126 hx131
      rw [postResults_j9] at hz
      refine W_cond hT129_27 (fun hc132 => ?_) (fun hc132 => ?_)
      · replace hz := bif_ok_t hz hc132
        refine W_seq ?_
        refine W_reg ?_
        obtain ⟨r135, hr134, hz⟩ := bind_ok hz
        refine WL_c (O_val (vs := []) (v := .bool r135) cb46 args0 hS (keepPosts_ok hS.agree hr134) ?_)
        intro w133 hS
        refine WL_y (Y_assign (.bool r135) rfl) ?_
        refine WL_nil (nm_then ?_)
        cases hz
        exact W_ret (rt_then (R_t1 rfl rfl ⟨rfl, (St.dropB (St.dropB hS hb10) hb4).kept⟩))
      · replace hz := bif_ok_f hz hc132
        refine W_skip (nm_then ?_)
        exact ⟨M128, hF126, hS, hT129_1, hT129_2, hT129_5, hz⟩
  · rintro T16 w14 ⟨M15, hx17, hS, hT16_1, hT16_2, hT16_5, hz⟩
    replace hcx1 := Rep.mono hx17.1 hcx1
    replace hvx2 := repL.mono hx17.1 hvx2
    replace hb12 := Rep.mono hx17.1 hb12
    replace hE := Mm.ext.trans hE hx17
    rw [postResults_j1] at hz
    refine W_seq ?_
    refine W_reg ?_
    refine WL_y (Y_assign ((.slice none 0 0)) rfl) ?_
    refine WL_nil (nm_then ?_)
    refine W_seq ?_
    refine W_reg ?_
    refine WL_y (Y_assign (.bool false) rfl) ?_
    refine WL_nil (nm_then ?_)
    refine W_seq ?_
    refine W_seq ?_
    refine W_reg ?_
    refine WL_y (Y_assign (.int .i64 0) rfl) ?_
    refine WL_nil (nm_then ?_)
    refine W_block ?_
    refine W_loop (fun k28 T' w' => ∃ M19 cs21 d22 v24 l23 c25 y26, Mm.ext w.heap.size noX M15 M19 ∧ St w noX M19 [.box b10 cs21 45, .box b4 cx1 85] w' ∧ rep M19 cs21 d22 ∧ repL M19 v24 l23 ∧ T' 1 = vx2 ∧ T' 2 = .pointer (some ⟨b4, 0, none⟩) ∧ T' 5 = .pointer (some ⟨b10, 0, none⟩) ∧ T' 8 = v24 ∧ T' 9 = .bool c25 ∧ T' 10 = .int .i64 y26 ∧ postResults_l1 fu x1 x2 k28 d22 l23 c25 y26 = some r) fu ?_ ?_ ?_
    · exact ⟨M15, cs12, d13, (.slice none 0 0), [], false, (0 : Int), (Mm.ext.refl _ _ _), hS, hb12, (repL_nil _), hT16_1, hT16_2, hT16_5, rfl, rfl, rfl, hz⟩
    · rintro T' w' ⟨_, _, _, _, _, _, _, _, _, _, _, _, _, _, _, _, _, hz⟩
      rw [postResults_l1] at hz
      cases hz
    · intro k28
      rintro T20 w18 ⟨M19, cs21, d22, v24, l23, c25, y26, hx30, hS, hb21, hv24, hT20_1, hT20_2, hT20_5, hT20_8, hT20_9, hT20_10, hz⟩
      replace hcx1 := Rep.mono hx30.1 hcx1
      replace hvx2 := repL.mono hx30.1 hvx2
      replace hE := Mm.ext.trans hE hx30
      have hF29 := hx30
      rw [postResults_l1] at hz
      obtain ⟨rec27, hrec27⟩ : ∃ f, f = postResults_l1 fu x1 x2 k28 := ⟨_, rfl⟩
      rw [← hrec27] at hz
      refine W_seqJ (fun T' w' => ∃ M32, Mm.ext w.heap.size noX M19 M32 ∧ St w noX M32 [.box b10 cs21 45, .box b4 cx1 85] w' ∧ T' 1 = vx2 ∧ T' 2 = .pointer (some ⟨b4, 0, none⟩) ∧ T' 5 = .pointer (some ⟨b10, 0, none⟩) ∧ T' 8 = v24 ∧ T' 9 = .bool c25 ∧ T' 10 = .int .i64 y26 ∧ postResults_j2 fu x1 x2 d22 l23 c25 y26 rec27 = some r) ?_ ?_
      · have hF116 := Mm.ext.refl w.heap.size noX M19
        refine W_seqJ (fun T' w' => ∃ M118 c120, Mm.ext w.heap.size noX M19 M118 ∧ St w noX M118 [.box b10 cs21 45, .box b4 cx1 85] w' ∧ T' 1 = vx2 ∧ T' 2 = .pointer (some ⟨b4, 0, none⟩) ∧ T' 5 = .pointer (some ⟨b10, 0, none⟩) ∧ T' 8 = v24 ∧ T' 9 = .bool c25 ∧ T' 10 = .int .i64 y26 ∧ T' 36 = .bool c120 ∧ postResults_j8 fu x1 x2 d22 l23 c25 y26 rec27 c120 = some r) ?_ ?_
        · have hF123 := Mm.ext.refl w.heap.size noX M19
          refine W_reg ?_
          refine WL_y (Y_move (.int .i64 y26) hT20_10) ?_
          refine WL_y (Y_move (vx2) hT20_1) ?_
          obtain ⟨a124, c124, hv124, _⟩ := repL_shape hvx2
          refine WL_y (Y_lenL Try.underlying62 (tr2 hv124 rfl)) ?_
          refine WL_y (Y_lss rfl rfl) ?_
          refine WL_y (Y_move (.bool (decide (y26 < (x2.length : Int)))) rfl) ?_
          rcases Bool.eq_false_or_eq_true (decide (y26 < (x2.length : Int))) with hc125 | hc125
          · replace hz := bif_ok_t hz hc125
            refine WL_gy rfl (bt hc125 rfl) (Y_move (.int .i64 y26) hT20_10) ?_
            refine WL_gy rfl (bt hc125 rfl) (Y_lss rfl rfl) ?_
            refine WL_y (Y_pick_t (.bool (decide (y26 < 40))) (bt hc125 rfl) rfl) ?_
            refine WL_nil (nm_then ?_)
            exact ⟨M19, (decide (y26 < 40)), hF123, hS, hT20_1, hT20_2, hT20_5, hT20_8, hT20_9, hT20_10, rfl, hz⟩
          · replace hz := bif_ok_f hz hc125
            refine WL_s (j := 4) rfl (bf hc125 rfl) rfl ?_
            refine WL_s (j := 4) rfl (bf hc125 rfl) rfl ?_
            refine WL_y (Y_pick_f (.bool false) (bf hc125 rfl) rfl) ?_
            refine WL_nil (nm_then ?_)
            exact ⟨M19, false, hF123, hS, hT20_1, hT20_2, hT20_5, hT20_8, hT20_9, hT20_10, rfl, hz⟩
        · rintro T119 w117 ⟨M118, c120, hx121, hS, hT119_1, hT119_2, hT119_5, hT119_8, hT119_9, hT119_10, hT119_36, hz⟩
          replace hcx1 := Rep.mono hx121.1 hcx1
          replace hvx2 := repL.mono hx121.1 hvx2
          replace hb21 := Rep.mono hx121.1 hb21
          replace hv24 := repL.mono hx121.1 hv24
          replace hE := Mm.ext.trans hE hx121
          replace hF29 := Mm.ext.trans hF29 hx121
          replace hF116 := Mm.ext.trans hF116 hx121
          rw [postResults_j8] at hz
          refine W_cond hT119_36 (fun hc122 => ?_) (fun hc122 => ?_)
          · replace hz := bif_ok_t hz hc122
            refine W_skip (nm_then ?_)
            exact ⟨M118, hF116, hS, hT119_1, hT119_2, hT119_5, hT119_8, hT119_9, hT119_10, hz⟩
          · replace hz := bif_ok_f hz hc122
            refine W_exit ?_
            refine ex_then ?_
            refine ex_then ?_
            refine ex_hit ?_
            refine (nm_then ?_)
            refine W_seq ?_
            refine W_reg ?_
            refine WL_y (Y_assign (.bool true) rfl) ?_
            refine WL_nil (nm_then ?_)
            cases hz
            exact W_ret (R_t1 rfl rfl ⟨rfl, (St.dropB (St.dropB hS hb10) hb4).kept⟩)
      · rintro T33 w31 ⟨M32, hx34, hS, hT33_1, hT33_2, hT33_5, hT33_8, hT33_9, hT33_10, hz⟩
        replace hcx1 := Rep.mono hx34.1 hcx1
        replace hvx2 := repL.mono hx34.1 hvx2
        replace hb21 := Rep.mono hx34.1 hb21
        replace hv24 := repL.mono hx34.1 hv24
        replace hE := Mm.ext.trans hE hx34
        replace hF29 := Mm.ext.trans hF29 hx34
        rw [postResults_j2] at hz
        refine W_seqJ (fun T' w' => ∃ M36 cs38 d39 v41 l40 c42, Mm.ext w.heap.size noX M32 M36 ∧ St w noX M36 [.box b10 cs38 45, .box b4 cx1 85] w' ∧ rep M36 cs38 d39 ∧ repL M36 v41 l40 ∧ T' 1 = vx2 ∧ T' 2 = .pointer (some ⟨b4, 0, none⟩) ∧ T' 5 = .pointer (some ⟨b10, 0, none⟩) ∧ T' 8 = v41 ∧ T' 9 = .bool c42 ∧ T' 10 = .int .i64 y26 ∧ postResults_j3 y26 rec27 d39 l40 c42 = some r) ?_ ?_
        · have hF44 := Mm.ext.refl w.heap.size noX M32
          refine W_block ?_
          refine W_seqJ (fun T' w' => ∃ M46 cs48 d49, Mm.ext w.heap.size noX M32 M46 ∧ St w noX M46 [.box b10 cs48 45, .box b4 cx1 85] w' ∧ rep M46 cs48 d49 ∧ T' 1 = vx2 ∧ T' 2 = .pointer (some ⟨b4, 0, none⟩) ∧ T' 5 = .pointer (some ⟨b10, 0, none⟩) ∧ T' 8 = v24 ∧ T' 9 = .bool c25 ∧ T' 10 = .int .i64 y26 ∧ postResults_j4 fu x1 l23 c25 y26 rec27 d49 = some r) ?_ ?_
          · have hF83 := Mm.ext.refl w.heap.size noX M32
            refine W_seqJ (fun T' w' => ∃ M85 b87 cs87 d88 y89, Mm.ext w.heap.size noX M32 M85 ∧ St w noX M85 [.box b87 cs87 45, .box b10 cs21 45, .box b4 cx1 85] w' ∧ rep M85 cs87 d88 ∧ w.heap.size ≤ b87 ∧ T' 11 = .pointer (some ⟨b87, 0, none⟩) ∧ T' 1 = vx2 ∧ T' 2 = .pointer (some ⟨b4, 0, none⟩) ∧ T' 5 = .pointer (some ⟨b10, 0, none⟩) ∧ T' 8 = v24 ∧ T' 9 = .bool c25 ∧ T' 10 = .int .i64 y26 ∧ T' 13 = .int .i64 y89 ∧ postResults_j7 fu x1 d22 l23 c25 y26 rec27 d88 y89 = some r) ?_ ?_
            · have hF96 := Mm.ext.refl w.heap.size noX M32
              refine W_drawB (Rd M32 [.box b10 cs21 45, .box b4 cx1 85]) (inL [13]) mixed hS fun w97 hS => ?_
              have hG98 := Mm.ext.refl w.heap.size noX M32
              have hR99 : Rd M32 [.box b10 cs21 45, .box b4 cx1 85] w97 := Rd.of hS hG98 (by simp)
              have ha100 := (rep_root (k := 24) rfl hb21)
              refine WB_ld (i := 0) rfl (by kernel_rfl) rfl (inL_lt rfl) (by kernel_rfl) (by kernel_rfl) (Y_ldn ta45 hT33_5 (bvR 0 rfl) (Rep.len ha100)) hR99 ?_
              refine WB_y (i := 1) rfl (by kernel_rfl) rfl (Y_fa fa85_0 hT33_2) (fun _ => hR99) ?_
              refine WB_ld (i := 2) rfl (by kernel_rfl) rfl (inL_lt rfl) (by kernel_rfl) (by kernel_rfl) (Y_ld1 (.int .i64 x1.id) ts3 rfl (bvR 1 rfl) (GTxn.p0 (rep_root (k := 2) rfl hcx1))) hR99 ?_
              refine WB_y (i := 3) rfl (by kernel_rfl) rfl (Y_move (vx2) hT33_1) (fun _ => hR99) ?_
              refine WB_y (i := 4) rfl (by kernel_rfl) rfl (Y_move (.int .i64 y26) hT33_10) (fun _ => hR99) ?_
              obtain ⟨x102, hx101, hz⟩ := bind_ok hz
              obtain ⟨b101, o101, c101, p101, hv101, hi101, hj101, hM101, hr101⟩ := repL_at hvx2 hx101
              replace hr101 : rep _ (sl p101 (o101 + Int.toNat y26 * 7) 7) x102 := hr101
              refine WB_y (i := 5) rfl (by kernel_rfl) rfl (Y_ixL il62 rfl hv101 rfl hi101 hj101) (fun _ => hR99) ?_
              have ha103 := hr101
              refine WB_ld (i := 6) rfl (by kernel_rfl) rfl (inL_lt rfl) (by kernel_rfl) (by kernel_rfl) (Y_ldn ta50 rfl (bvRM hM101) (Rep.len ha103)) hR99 ?_
              obtain ⟨r106, hr105, hz⟩ := bind_ok hz
              obtain ⟨d111, hd110, hz⟩ := bind_ok hz
              refine WB_two (i := 7) (j := 12) (by kernel_rfl) rfl rfl (O_mem (vs := [.agg (sl cs21 (0) 24).toArray, .int .i64 x1.id, .agg (sl p101 (o101 + Int.toNat y26 * 7) 7).toArray]) (rv := (fun M' u => ∃ c0 v1, u = .tuple #[.agg c0.toArray, v1, .int .i64 r106.2.2] ∧ rep M' c0 r106.1 ∧ repL M' v1 r106.2.1)) cb36 (args3 rfl rfl rfl) hS (postTake_ok hS.agree ha100 ha103 hr105) ?_) (O_alloc tz45 hS ?_)
              · intro u105 M105 w104 hx105 hu105 hS
                obtain ⟨c105_0, v105_1, hq105, f105_0, f105_1⟩ := hu105
                subst hq105
                replace hcx1 := Rep.mono hx105.1 hcx1
                replace hvx2 := repL.mono hx105.1 hvx2
                replace hb21 := Rep.mono hx105.1 hb21
                replace hv24 := repL.mono hx105.1 hv24
                replace ha100 := Rep.mono hx105.1 ha100
                replace ha103 := Rep.mono hx105.1 ha103
                replace hE := Mm.ext.trans hE hx105
                replace hF29 := Mm.ext.trans hF29 hx105
                replace hF44 := Mm.ext.trans hF44 hx105
                replace hF83 := Mm.ext.trans hF83 hx105
                replace hF96 := Mm.ext.trans hF96 hx105
                replace hG98 := Mm.ext.trans hG98 hx105
                have hR112 : Rd M32 [.box b10 cs21 45, .box b4 cx1 85] w104 := Rd.of hS hG98 (by simp)
                refine ⟨fun _ => hR112, ?_⟩
                refine WB_y (i := 8) rfl (by kernel_rfl) rfl (Y_move (.tuple #[.agg c105_0.toArray, v105_1, .int .i64 r106.2.2]) rfl) (fun _ => hR112) ?_
                refine WB_y (i := 9) rfl (by kernel_rfl) rfl (Y_extract (v := .agg c105_0.toArray) rfl rfl) (fun _ => hR112) ?_
                refine WB_y (i := 10) rfl (by kernel_rfl) rfl (Y_extract (v := v105_1) rfl rfl) (fun _ => hR112) ?_
                refine WB_y (i := 11) rfl (by kernel_rfl) rfl (Y_extract (v := .int .i64 r106.2.2) rfl rfl) (fun _ => hR112) ?_
                refine WB_one (i := 12) (by kernel_rfl) rfl (O_alloc tz45 hS ?_)
                intro b108 w107 hb108 hS
                replace hS : St w noX M105 [.box b108 (Zr.zc GCase) 45, .box b10 cs21 45, .box b4 cx1 85] w107 := hS
                have zb108 : rep M105 (Zr.zc GCase) (Zr.zd : GCase) := Zr.zr
                have hR113 : Rd M32 [.box b10 cs21 45, .box b4 cx1 85] w107 := Rd.of hS hG98 (by simp)
                refine ⟨fun _ => hR113, ?_⟩
                have hw110 : (c105_0 : List Value).length = 24 := Rep.len f105_0
                have hl110 : ((Zr.zc GCase)).length = 24 := Rep.len zb108
                have hb110 : rep M105 (pt (Zr.zc GCase) (0) c105_0) d111 := rep_eq (rep_whole (k := 24) (by rw [pt_length (by omega)]; exact hl110) (rep_leaf rfl f105_0 (by omega))) hd110
                generalize hg110 : (pt (Zr.zc GCase) (0) c105_0) = cs110 at hb110
                refine WB_one (i := 13) (by kernel_rfl) rfl (O_st (j := 0) (v := .agg c105_0.toArray) (ws := c105_0) hS rfl (by kernel_rfl) rfl rfl rfl hw110 (Rep.one f105_0) (by omega) ?_)
                rw [hg110]
                clear hg110
                intro w109 hS
                replace hS : St w noX M105 [.box b108 cs110 45, .box b10 cs21 45, .box b4 cx1 85] w109 := hS
                refine ⟨fun h => Bool.noConfusion (show false = true from h), ?_⟩
                refine WB_y (i := 14) rfl (by kernel_rfl) rfl (Y_assign (v105_1) rfl) (fun h => Bool.noConfusion (show false = true from h)) ?_
                refine WB_y (i := 15) rfl (by kernel_rfl) rfl (Y_assign (.int .i64 r106.2.2) rfl) (fun h => Bool.noConfusion (show false = true from h)) ?_
                refine WB_done (by kernel_rfl) (nm_then ?_)
                exact ⟨M105, b108, cs110, d111, r106.2.2, hF96, hS, hb110, hb108, rfl, hT33_1, hT33_2, hT33_5, hT33_8, hT33_9, hT33_10, rfl, hz⟩
              · intro b108 w107 hb108 hS
                replace hS : St w noX M32 [.box b108 (Zr.zc GCase) 45, .box b10 cs21 45, .box b4 cx1 85] w107 := hS
                have zb108 : rep M32 (Zr.zc GCase) (Zr.zd : GCase) := Zr.zr
                have hR114 : Rd M32 [.box b10 cs21 45, .box b4 cx1 85] w107 := Rd.of hS hG98 (by simp)
                refine ⟨fun _ => hR114, ?_⟩
                refine WB_one (i := 7) (by kernel_rfl) rfl (O_mem (vs := [.agg (sl cs21 (0) 24).toArray, .int .i64 x1.id, .agg (sl p101 (o101 + Int.toNat y26 * 7) 7).toArray]) (rv := (fun M' u => ∃ c0 v1, u = .tuple #[.agg c0.toArray, v1, .int .i64 r106.2.2] ∧ rep M' c0 r106.1 ∧ repL M' v1 r106.2.1)) cb36 (args3 rfl rfl rfl) hS (postTake_ok hS.agree ha100 ha103 hr105) ?_)
                intro u105 M105 w104 hx105 hu105 hS
                obtain ⟨c105_0, v105_1, hq105, f105_0, f105_1⟩ := hu105
                subst hq105
                replace hcx1 := Rep.mono hx105.1 hcx1
                replace hvx2 := repL.mono hx105.1 hvx2
                replace hb21 := Rep.mono hx105.1 hb21
                replace hv24 := repL.mono hx105.1 hv24
                replace ha100 := Rep.mono hx105.1 ha100
                replace ha103 := Rep.mono hx105.1 ha103
                replace zb108 := Rep.mono hx105.1 zb108
                replace hE := Mm.ext.trans hE hx105
                replace hF29 := Mm.ext.trans hF29 hx105
                replace hF44 := Mm.ext.trans hF44 hx105
                replace hF83 := Mm.ext.trans hF83 hx105
                replace hF96 := Mm.ext.trans hF96 hx105
                replace hG98 := Mm.ext.trans hG98 hx105
                have hR115 : Rd M32 [.box b10 cs21 45, .box b4 cx1 85] w104 := Rd.of hS hG98 (by simp)
                refine ⟨fun _ => hR115, ?_⟩
                refine WB_y (i := 8) rfl (by kernel_rfl) rfl (Y_move (.tuple #[.agg c105_0.toArray, v105_1, .int .i64 r106.2.2]) rfl) (fun _ => hR115) ?_
                refine WB_y (i := 9) rfl (by kernel_rfl) rfl (Y_extract (v := .agg c105_0.toArray) rfl rfl) (fun _ => hR115) ?_
                refine WB_y (i := 10) rfl (by kernel_rfl) rfl (Y_extract (v := v105_1) rfl rfl) (fun _ => hR115) ?_
                refine WB_y (i := 11) rfl (by kernel_rfl) rfl (Y_extract (v := .int .i64 r106.2.2) rfl rfl) (fun _ => hR115) ?_
                have hw110 : (c105_0 : List Value).length = 24 := Rep.len f105_0
                have hl110 : ((Zr.zc GCase)).length = 24 := Rep.len zb108
                have hb110 : rep M105 (pt (Zr.zc GCase) (0) c105_0) d111 := rep_eq (rep_whole (k := 24) (by rw [pt_length (by omega)]; exact hl110) (rep_leaf rfl f105_0 (by omega))) hd110
                generalize hg110 : (pt (Zr.zc GCase) (0) c105_0) = cs110 at hb110
                refine WB_one (i := 13) (by kernel_rfl) rfl (O_st (j := 0) (v := .agg c105_0.toArray) (ws := c105_0) hS rfl (by kernel_rfl) rfl rfl rfl hw110 (Rep.one f105_0) (by omega) ?_)
                rw [hg110]
                clear hg110
                intro w109 hS
                replace hS : St w noX M105 [.box b108 cs110 45, .box b10 cs21 45, .box b4 cx1 85] w109 := hS
                refine ⟨fun h => Bool.noConfusion (show false = true from h), ?_⟩
                refine WB_y (i := 14) rfl (by kernel_rfl) rfl (Y_assign (v105_1) rfl) (fun h => Bool.noConfusion (show false = true from h)) ?_
                refine WB_y (i := 15) rfl (by kernel_rfl) rfl (Y_assign (.int .i64 r106.2.2) rfl) (fun h => Bool.noConfusion (show false = true from h)) ?_
                refine WB_done (by kernel_rfl) (nm_then ?_)
                exact ⟨M105, b108, cs110, d111, r106.2.2, hF96, hS, hb110, hb108, rfl, hT33_1, hT33_2, hT33_5, hT33_8, hT33_9, hT33_10, rfl, hz⟩
            · rintro T86 w84 ⟨M85, b87, cs87, d88, y89, hx90, hS, hb87, hs87, hT86_11, hT86_1, hT86_2, hT86_5, hT86_8, hT86_9, hT86_10, hT86_13, hz⟩
              replace hcx1 := Rep.mono hx90.1 hcx1
              replace hvx2 := repL.mono hx90.1 hvx2
              replace hb21 := Rep.mono hx90.1 hb21
              replace hv24 := repL.mono hx90.1 hv24
              replace hE := Mm.ext.trans hE hx90
              replace hF29 := Mm.ext.trans hF29 hx90
              replace hF44 := Mm.ext.trans hF44 hx90
              replace hF83 := Mm.ext.trans hF83 hx90
              rw [postResults_j7] at hz
              refine W_seq ?_
              refine W_reg ?_
              refine WL_y (Y_move (.int .i64 y89) hT86_13) ?_
              refine WL_y (Y_eql rfl rfl) ?_
              refine WL_nil (nm_then ?_)
              refine W_cond rfl (fun hc91 => ?_) (fun hc91 => ?_)
              · replace hz := bif_ok_t hz hc91
                refine W_reg ?_
                have ha92 := (rep_root (k := 24) rfl hb87)
                refine WL_y (Y_ldn ta45 hT86_11 (hS.bvB 0 rfl) (Rep.len ha92)) ?_
                have hw94 : ((sl cs87 (0) 24) : List Value).length = 24 := Rep.len ha92
                have hl94 : (cs21).length = 24 := Rep.len hb21
                obtain ⟨d95, hd94, hz⟩ := bind_ok hz
                have hb94 : rep M85 (pt cs21 (0) (sl cs87 (0) 24)) d95 := rep_eq (rep_whole (k := 24) (by rw [pt_length (by omega)]; exact hl94) (rep_leaf rfl ha92 (by omega))) hd94
                generalize hg94 : (pt cs21 (0) (sl cs87 (0) 24)) = cs94 at hb94
                refine WL_c (O_st (j := 1) (v := .agg (sl cs87 (0) 24).toArray) (ws := (sl cs87 (0) 24)) hS rfl (by kernel_rfl) hT86_5 rfl rfl hw94 (Rep.one ha92) (by omega) ?_)
                rw [hg94]
                clear hg94
                intro w93 hS
                replace hS : St w noX M85 [.box b87 cs87 45, .box b10 cs94 45, .box b4 cx1 85] w93 := hS
                refine WL_nil (nm_then ?_)
                exact ⟨M85, cs94, d95, hF83, (St.dropB hS hs87), hb94, hT86_1, hT86_2, hT86_5, hT86_8, hT86_9, hT86_10, hz⟩
              · replace hz := bif_ok_f hz hc91
                refine W_skip (nm_then ?_)
                exact ⟨M85, cs21, d22, hF83, (St.dropB hS hs87), hb21, hT86_1, hT86_2, hT86_5, hT86_8, hT86_9, hT86_10, hz⟩
          · rintro T47 w45 ⟨M46, cs48, d49, hx50, hS, hb48, hT47_1, hT47_2, hT47_5, hT47_8, hT47_9, hT47_10, hz⟩
            replace hcx1 := Rep.mono hx50.1 hcx1
            replace hvx2 := repL.mono hx50.1 hvx2
            replace hv24 := repL.mono hx50.1 hv24
            replace hE := Mm.ext.trans hE hx50
            replace hF29 := Mm.ext.trans hF29 hx50
            replace hF44 := Mm.ext.trans hF44 hx50
            rw [postResults_j4] at hz
            refine W_seq ?_
            refine W_reg ?_
            have ha51 := (rep_root (k := 24) rfl hb48)
            refine WL_y (Y_ldn ta45 hT47_5 (hS.bvB 0 rfl) (Rep.len ha51)) ?_
            obtain ⟨r54, hr53, hz⟩ := bind_ok hz
            refine WL_c (O_mem (vs := [.agg (sl cs48 (0) 24).toArray]) (rv := (fun M' u => ∃ v0, u = .tuple #[v0, .bool r54.2] ∧ repL M' v0 r54.1)) cb50 (args1 rfl) hS (postResult_ok hS.agree ha51 hr53) ?_)
            intro u53 M53 w52 hx53 hu53 hS
            obtain ⟨v53_0, hq53, f53_0⟩ := hu53
            subst hq53
            replace hcx1 := Rep.mono hx53.1 hcx1
            replace hvx2 := repL.mono hx53.1 hvx2
            replace hv24 := repL.mono hx53.1 hv24
            replace hb48 := Rep.mono hx53.1 hb48
            replace ha51 := Rep.mono hx53.1 ha51
            replace hE := Mm.ext.trans hE hx53
            replace hF29 := Mm.ext.trans hF29 hx53
            replace hF44 := Mm.ext.trans hF44 hx53
            refine WL_y (Y_move (.tuple #[v53_0, .bool r54.2]) rfl) ?_
            refine WL_y (Y_extract (v := v53_0) rfl rfl) ?_
            refine WL_y (Y_extract (v := .bool r54.2) rfl rfl) ?_
            refine WL_y (Y_assign (v53_0) rfl) ?_
            refine WL_y (Y_assign (.bool r54.2) rfl) ?_
            refine WL_nil (nm_then ?_)
            refine W_seqJ (fun T' w' => ∃ M56, Mm.ext w.heap.size noX M53 M56 ∧ St w noX M56 [.box b10 cs48 45, .box b4 cx1 85] w' ∧ T' 1 = vx2 ∧ T' 2 = .pointer (some ⟨b4, 0, none⟩) ∧ T' 5 = .pointer (some ⟨b10, 0, none⟩) ∧ T' 10 = .int .i64 y26 ∧ T' 14 = v53_0 ∧ T' 15 = .bool r54.2 ∧ postResults_j5 y26 rec27 d49 r54 = some r) ?_ ?_
            · have hF59 := Mm.ext.refl w.heap.size noX M53
              refine W_seqJ (fun T' w' => ∃ M61 c63, Mm.ext w.heap.size noX M53 M61 ∧ St w noX M61 [.box b10 cs48 45, .box b4 cx1 85] w' ∧ T' 1 = vx2 ∧ T' 2 = .pointer (some ⟨b4, 0, none⟩) ∧ T' 5 = .pointer (some ⟨b10, 0, none⟩) ∧ T' 10 = .int .i64 y26 ∧ T' 14 = v53_0 ∧ T' 15 = .bool r54.2 ∧ T' 85 = .bool c63 ∧ postResults_j6 y26 rec27 d49 r54 c63 = some r) ?_ ?_
              · have hF66 := Mm.ext.refl w.heap.size noX M53
                refine W_reg ?_
                refine WL_y (Y_move (.bool c25) hT47_9) ?_
                refine WL_y (Y_move (.bool c25) rfl) ?_
                rcases Bool.eq_false_or_eq_true c25 with hc67 | hc67
                · replace hz := bif_ok_t hz hc67
                  refine WL_gy rfl (bt hc67 rfl) (Y_move (.bool r54.2) rfl) ?_
                  refine WL_gy rfl (bt hc67 rfl) (Y_not rfl) ?_
                  refine WL_gy rfl (bt hc67 rfl) (Y_move (.bool (!r54.2)) rfl) ?_
                  rcases Bool.eq_false_or_eq_true (!r54.2) with hc68 | hc68
                  · replace hz := bif_ok_t hz hc68
                    refine WL_s (j := 4) rfl (bt hc68 rfl) rfl ?_
                    refine WL_s (j := 4) rfl (bt hc68 rfl) rfl ?_
                    refine WL_s (j := 4) rfl (bt hc68 rfl) rfl ?_
                    refine WL_s (j := 4) rfl (bt hc68 rfl) rfl ?_
                    refine WL_gy rfl (bt hc67 rfl) (Y_pick_t (.bool true) (bt hc68 rfl) rfl) ?_
                    refine WL_y (Y_pick_t (.bool true) (bt hc67 rfl) rfl) ?_
                    refine WL_y (Y_move (.bool true) rfl) ?_
                    refine WL_s (j := 11) rfl rfl rfl ?_
                    refine WL_s (j := 11) rfl rfl rfl ?_
                    refine WL_su (j := 13) rfl rfl ?_
                    refine WL_su (j := 13) rfl rfl ?_
                    refine WL_su (j := 13) rfl rfl ?_
                    refine WL_su (j := 13) rfl rfl ?_
                    refine WL_su (j := 13) rfl rfl ?_
                    refine WL_su (j := 13) rfl rfl ?_
                    refine WL_su (j := 13) rfl rfl ?_
                    refine WL_su (j := 20) rfl rfl ?_
                    refine WL_su (j := 20) rfl rfl ?_
                    refine WL_su (j := 20) rfl rfl ?_
                    refine WL_su (j := 13) rfl rfl ?_
                    refine WL_s (j := 11) rfl rfl rfl ?_
                    refine WL_y (Y_pick_t (.bool true) rfl rfl) ?_
                    refine WL_nil (nm_then ?_)
                    exact ⟨M53, true, hF66, hS, hT47_1, hT47_2, hT47_5, hT47_10, rfl, rfl, rfl, hz⟩
                  · replace hz := bif_ok_f hz hc68
                    refine WL_gy rfl (bf hc68 rfl) (Y_move (v53_0) rfl) ?_
                    refine WL_gy rfl (bf hc68 rfl) (Y_move (v24) hT47_8) ?_
                    obtain ⟨r71, hr70, hz⟩ := bind_ok hz
                    refine WL_g rfl (bf hc68 rfl) (O_val (vs := [v53_0, v24]) (v := .bool r71) cb20 (args2 rfl rfl) hS (keepSameNumbers_ok hS.agree f53_0 hv24 hr70) ?_)
                    intro w69 hS
                    refine WL_gy rfl (bf hc68 rfl) (Y_not rfl) ?_
                    refine WL_gy rfl (bt hc67 rfl) (Y_pick_f (.bool (!r71)) (bf hc68 rfl) rfl) ?_
                    refine WL_y (Y_pick_t (.bool (!r71)) (bt hc67 rfl) rfl) ?_
                    refine WL_y (Y_move (.bool (!r71)) rfl) ?_
                    rcases Bool.eq_false_or_eq_true (!r71) with hc72 | hc72
                    · replace hz := bif_ok_t hz hc72
                      refine WL_s (j := 11) rfl (bt hc72 rfl) rfl ?_
                      refine WL_s (j := 11) rfl (bt hc72 rfl) rfl ?_
                      refine WL_su (j := 13) rfl rfl ?_
                      refine WL_su (j := 13) rfl rfl ?_
                      refine WL_su (j := 13) rfl rfl ?_
                      refine WL_su (j := 13) rfl rfl ?_
                      refine WL_su (j := 13) rfl rfl ?_
                      refine WL_su (j := 13) rfl rfl ?_
                      refine WL_su (j := 13) rfl rfl ?_
                      refine WL_su (j := 20) rfl rfl ?_
                      refine WL_su (j := 20) rfl rfl ?_
                      refine WL_su (j := 20) rfl rfl ?_
                      refine WL_su (j := 13) rfl rfl ?_
                      refine WL_s (j := 11) rfl (bt hc72 rfl) rfl ?_
                      refine WL_y (Y_pick_t (.bool true) (bt hc72 rfl) rfl) ?_
                      refine WL_nil (nm_then ?_)
                      exact ⟨M53, true, hF66, hS, hT47_1, hT47_2, hT47_5, hT47_10, rfl, rfl, rfl, hz⟩
                    · replace hz := bif_ok_f hz hc72
                      refine WL_gy rfl (bf hc72 rfl) (Y_move (.bool r54.2) rfl) ?_
                      refine WL_gy rfl (bf hc72 rfl) (Y_move (.bool r54.2) rfl) ?_
                      rcases Bool.eq_false_or_eq_true r54.2 with hc73 | hc73
                      · replace hz := bif_ok_t hz hc73
                        refine WL_gy rfl (bt hc73 rfl) (Y_move (v53_0) rfl) ?_
                        obtain ⟨a74, c74, hv74, _⟩ := repL_shape f53_0
                        refine WL_gy rfl (bt hc73 rfl) (Y_lenL Try.underlying23 (tr2 hv74 rfl)) ?_
                        refine WL_gy rfl (bt hc73 rfl) (Y_fa fa85_1 hT47_2) ?_
                        obtain ⟨v75, ev75, hv75⟩ := (GTxn.p1 (rep_root (k := 2) rfl hcx1))
                        refine WL_gy rfl (bt hc73 rfl) (Y_ld1 v75 ts40 rfl (hS.bvB 1 rfl) ev75) ?_
                        obtain ⟨a76, c76, hv76, _⟩ := repL_shape hv75
                        refine WL_gy rfl (bt hc73 rfl) (Y_lenL Try.underlying40 (tr2 hv76 rfl)) ?_
                        refine WL_gy rfl (bt hc73 rfl) (Y_neq rfl rfl) ?_
                        refine WL_gy rfl (bt hc73 rfl) (Y_move (.bool ((r54.1.length : Int) != (x1.ops.length : Int))) rfl) ?_
                        rcases Bool.eq_false_or_eq_true ((r54.1.length : Int) != (x1.ops.length : Int)) with hc77 | hc77
                        · replace hz := bif_ok_t hz hc77
                          refine WL_s (j := 20) rfl (bt hc77 rfl) rfl ?_
                          refine WL_s (j := 20) rfl (bt hc77 rfl) rfl ?_
                          refine WL_s (j := 20) rfl (bt hc77 rfl) rfl ?_
                          refine WL_gy rfl (bt hc73 rfl) (Y_pick_t (.bool true) (bt hc77 rfl) rfl) ?_
                          refine WL_gy rfl (bf hc72 rfl) (Y_pick_t (.bool true) (bt hc73 rfl) rfl) ?_
                          refine WL_y (Y_pick_f (.bool true) (bf hc72 rfl) rfl) ?_
                          refine WL_nil (nm_then ?_)
                          exact ⟨M53, true, hF66, hS, hT47_1, hT47_2, hT47_5, hT47_10, rfl, rfl, rfl, hz⟩
                        · replace hz := bif_ok_f hz hc77
                          refine WL_gy rfl (bf hc77 rfl) (Y_fa fa45_1 hT47_5) ?_
                          refine WL_gy rfl (bf hc77 rfl) (Y_ld1 (.bool d49.fixed) ts4 rfl (hS.bvB 0 rfl) (GCase.p1 (rep_root (k := 24) rfl hb48))) ?_
                          refine WL_gy rfl (bf hc77 rfl) (Y_not rfl) ?_
                          refine WL_gy rfl (bt hc73 rfl) (Y_pick_f (.bool (!d49.fixed)) (bf hc77 rfl) rfl) ?_
                          refine WL_gy rfl (bf hc72 rfl) (Y_pick_t (.bool (!d49.fixed)) (bt hc73 rfl) rfl) ?_
                          refine WL_y (Y_pick_f (.bool (!d49.fixed)) (bf hc72 rfl) rfl) ?_
                          refine WL_nil (nm_then ?_)
                          exact ⟨M53, (!d49.fixed), hF66, hS, hT47_1, hT47_2, hT47_5, hT47_10, rfl, rfl, rfl, hz⟩
                      · replace hz := bif_ok_f hz hc73
                        refine WL_s (j := 13) rfl (bf hc73 rfl) rfl ?_
                        refine WL_s (j := 13) rfl (bf hc73 rfl) rfl ?_
                        refine WL_s (j := 13) rfl (bf hc73 rfl) rfl ?_
                        refine WL_s (j := 13) rfl (bf hc73 rfl) rfl ?_
                        refine WL_s (j := 13) rfl (bf hc73 rfl) rfl ?_
                        refine WL_s (j := 13) rfl (bf hc73 rfl) rfl ?_
                        refine WL_s (j := 13) rfl (bf hc73 rfl) rfl ?_
                        refine WL_su (j := 20) rfl rfl ?_
                        refine WL_su (j := 20) rfl rfl ?_
                        refine WL_su (j := 20) rfl rfl ?_
                        refine WL_s (j := 13) rfl (bf hc73 rfl) rfl ?_
                        refine WL_gy rfl (bf hc72 rfl) (Y_pick_f (.bool false) (bf hc73 rfl) rfl) ?_
                        refine WL_y (Y_pick_f (.bool false) (bf hc72 rfl) rfl) ?_
                        refine WL_nil (nm_then ?_)
                        exact ⟨M53, false, hF66, hS, hT47_1, hT47_2, hT47_5, hT47_10, rfl, rfl, rfl, hz⟩
                · replace hz := bif_ok_f hz hc67
                  refine WL_s (j := 1) rfl (bf hc67 rfl) rfl ?_
                  refine WL_s (j := 1) rfl (bf hc67 rfl) rfl ?_
                  refine WL_s (j := 1) rfl (bf hc67 rfl) rfl ?_
                  refine WL_su (j := 4) rfl rfl ?_
                  refine WL_su (j := 4) rfl rfl ?_
                  refine WL_su (j := 4) rfl rfl ?_
                  refine WL_su (j := 4) rfl rfl ?_
                  refine WL_s (j := 1) rfl (bf hc67 rfl) rfl ?_
                  refine WL_y (Y_pick_f (.bool false) (bf hc67 rfl) rfl) ?_
                  refine WL_y (Y_move (.bool false) rfl) ?_
                  refine WL_gy rfl rfl (Y_move (.bool r54.2) rfl) ?_
                  refine WL_gy rfl rfl (Y_move (.bool r54.2) rfl) ?_
                  rcases Bool.eq_false_or_eq_true r54.2 with hc78 | hc78
                  · replace hz := bif_ok_t hz hc78
                    refine WL_gy rfl (bt hc78 rfl) (Y_move (v53_0) rfl) ?_
                    obtain ⟨a79, c79, hv79, _⟩ := repL_shape f53_0
                    refine WL_gy rfl (bt hc78 rfl) (Y_lenL Try.underlying23 (tr2 hv79 rfl)) ?_
                    refine WL_gy rfl (bt hc78 rfl) (Y_fa fa85_1 hT47_2) ?_
                    obtain ⟨v80, ev80, hv80⟩ := (GTxn.p1 (rep_root (k := 2) rfl hcx1))
                    refine WL_gy rfl (bt hc78 rfl) (Y_ld1 v80 ts40 rfl (hS.bvB 1 rfl) ev80) ?_
                    obtain ⟨a81, c81, hv81, _⟩ := repL_shape hv80
                    refine WL_gy rfl (bt hc78 rfl) (Y_lenL Try.underlying40 (tr2 hv81 rfl)) ?_
                    refine WL_gy rfl (bt hc78 rfl) (Y_neq rfl rfl) ?_
                    refine WL_gy rfl (bt hc78 rfl) (Y_move (.bool ((r54.1.length : Int) != (x1.ops.length : Int))) rfl) ?_
                    rcases Bool.eq_false_or_eq_true ((r54.1.length : Int) != (x1.ops.length : Int)) with hc82 | hc82
                    · replace hz := bif_ok_t hz hc82
                      refine WL_s (j := 20) rfl (bt hc82 rfl) rfl ?_
                      refine WL_s (j := 20) rfl (bt hc82 rfl) rfl ?_
                      refine WL_s (j := 20) rfl (bt hc82 rfl) rfl ?_
                      refine WL_gy rfl (bt hc78 rfl) (Y_pick_t (.bool true) (bt hc82 rfl) rfl) ?_
                      refine WL_gy rfl rfl (Y_pick_t (.bool true) (bt hc78 rfl) rfl) ?_
                      refine WL_y (Y_pick_f (.bool true) rfl rfl) ?_
                      refine WL_nil (nm_then ?_)
                      exact ⟨M53, true, hF66, hS, hT47_1, hT47_2, hT47_5, hT47_10, rfl, rfl, rfl, hz⟩
                    · replace hz := bif_ok_f hz hc82
                      refine WL_gy rfl (bf hc82 rfl) (Y_fa fa45_1 hT47_5) ?_
                      refine WL_gy rfl (bf hc82 rfl) (Y_ld1 (.bool d49.fixed) ts4 rfl (hS.bvB 0 rfl) (GCase.p1 (rep_root (k := 24) rfl hb48))) ?_
                      refine WL_gy rfl (bf hc82 rfl) (Y_not rfl) ?_
                      refine WL_gy rfl (bt hc78 rfl) (Y_pick_f (.bool (!d49.fixed)) (bf hc82 rfl) rfl) ?_
                      refine WL_gy rfl rfl (Y_pick_t (.bool (!d49.fixed)) (bt hc78 rfl) rfl) ?_
                      refine WL_y (Y_pick_f (.bool (!d49.fixed)) rfl rfl) ?_
                      refine WL_nil (nm_then ?_)
                      exact ⟨M53, (!d49.fixed), hF66, hS, hT47_1, hT47_2, hT47_5, hT47_10, rfl, rfl, rfl, hz⟩
                  · replace hz := bif_ok_f hz hc78
                    refine WL_s (j := 13) rfl (bf hc78 rfl) rfl ?_
                    refine WL_s (j := 13) rfl (bf hc78 rfl) rfl ?_
                    refine WL_s (j := 13) rfl (bf hc78 rfl) rfl ?_
                    refine WL_s (j := 13) rfl (bf hc78 rfl) rfl ?_
                    refine WL_s (j := 13) rfl (bf hc78 rfl) rfl ?_
                    refine WL_s (j := 13) rfl (bf hc78 rfl) rfl ?_
                    refine WL_s (j := 13) rfl (bf hc78 rfl) rfl ?_
                    refine WL_su (j := 20) rfl rfl ?_
                    refine WL_su (j := 20) rfl rfl ?_
                    refine WL_su (j := 20) rfl rfl ?_
                    refine WL_s (j := 13) rfl (bf hc78 rfl) rfl ?_
                    refine WL_gy rfl rfl (Y_pick_f (.bool false) (bf hc78 rfl) rfl) ?_
                    refine WL_y (Y_pick_f (.bool false) rfl rfl) ?_
                    refine WL_nil (nm_then ?_)
                    exact ⟨M53, false, hF66, hS, hT47_1, hT47_2, hT47_5, hT47_10, rfl, rfl, rfl, hz⟩
              · rintro T62 w60 ⟨M61, c63, hx64, hS, hT62_1, hT62_2, hT62_5, hT62_10, hT62_14, hT62_15, hT62_85, hz⟩
                replace hcx1 := Rep.mono hx64.1 hcx1
                replace hvx2 := repL.mono hx64.1 hvx2
                replace hb48 := Rep.mono hx64.1 hb48
                replace f53_0 := repL.mono hx64.1 f53_0
                replace hE := Mm.ext.trans hE hx64
                replace hF29 := Mm.ext.trans hF29 hx64
                replace hF44 := Mm.ext.trans hF44 hx64
                replace hF59 := Mm.ext.trans hF59 hx64
                rw [postResults_j6] at hz
                refine W_cond hT62_85 (fun hc65 => ?_) (fun hc65 => ?_)
                · replace hz := bif_ok_t hz hc65
                  refine W_seq ?_
                  refine W_reg ?_
                  refine WL_y (Y_assign (.bool false) rfl) ?_
                  refine WL_nil (nm_then ?_)
                  cases hz
                  exact W_ret (rt_then (rt_blk (rt_then (rt_then (rt_blk (rt_then (R_t1 rfl rfl ⟨rfl, (St.dropB (St.dropB hS hb10) hb4).kept⟩)))))))
                · replace hz := bif_ok_f hz hc65
                  refine W_skip (nm_then ?_)
                  exact ⟨M61, hF59, hS, hT62_1, hT62_2, hT62_5, hT62_10, hT62_14, hT62_15, hz⟩
            · rintro T57 w55 ⟨M56, hx58, hS, hT57_1, hT57_2, hT57_5, hT57_10, hT57_14, hT57_15, hz⟩
              replace hcx1 := Rep.mono hx58.1 hcx1
              replace hvx2 := repL.mono hx58.1 hvx2
              replace hb48 := Rep.mono hx58.1 hb48
              replace f53_0 := repL.mono hx58.1 f53_0
              replace hE := Mm.ext.trans hE hx58
              replace hF29 := Mm.ext.trans hF29 hx58
              replace hF44 := Mm.ext.trans hF44 hx58
              rw [postResults_j5] at hz
              refine W_reg ?_
              refine WL_y (Y_move (v53_0) hT57_14) ?_
              refine WL_y (Y_move (.bool r54.2) hT57_15) ?_
              refine WL_y (Y_assign (v53_0) rfl) ?_
              refine WL_y (Y_assign (.bool r54.2) rfl) ?_
              refine WL_nil (nm_blk ?_)
              refine (nm_then ?_)
              exact ⟨M56, cs48, d49, v53_0, r54.1, r54.2, hF44, hS, hb48, f53_0, hT57_1, hT57_2, hT57_5, rfl, rfl, hT57_10, hz⟩
        · rintro T37 w35 ⟨M36, cs38, d39, v41, l40, c42, hx43, hS, hb38, hv41, hT37_1, hT37_2, hT37_5, hT37_8, hT37_9, hT37_10, hz⟩
          replace hcx1 := Rep.mono hx43.1 hcx1
          replace hvx2 := repL.mono hx43.1 hvx2
          replace hE := Mm.ext.trans hE hx43
          replace hF29 := Mm.ext.trans hF29 hx43
          rw [postResults_j3] at hz
          refine W_reg ?_
          refine WL_y (Y_move (.int .i64 y26) hT37_10) ?_
          refine WL_y (Y_add rfl rfl) ?_
          refine WL_y (Y_assign (.int .i64 (IntKind.wrap .i64 (y26 + 1))) rfl) ?_
          refine WL_nil (nm_then ?_)
          exact ⟨M36, cs38, d39, v41, l40, c42, (IntKind.wrap .i64 (y26 + 1)), hF29, hS, hb38, hv41, hT37_1, hT37_2, hT37_5, hT37_8, hT37_9, rfl, (by rw [← hrec27]; exact hz)⟩

end Go.Proofs.Ytnfdgjdnlikepab
