/- What functions compute, and that they do. (Written by dc.py.) -/
import Derived.Test.YtopgdemmdcipcaaEt
import Derived.Test.YtopgdemmdcipcaaEk
namespace Go.Proofs.Ytopgdemmdcipcaa
open Go.RowKit
open Rep (rep)
set_option linter.unusedVariables false

def keepPosts_j1 (c18 : Bool) : Option Bool :=
    some c18

def keepPostsD (fu : Nat) : Option Bool :=
    (some ({ kind := 1, key := 2, n := Zr.zd } : GOp)).bind fun d2 =>
    (some ({ id := 3, ops := ([d2] : List GOp) } : GTxn)).bind fun d6 =>
    (postBeginD fu d6).bind fun r9 =>
    (some r9.1).bind fun d14 =>
    (bif r9.2.2 == 0 then
    (bif d14.begun then
    (bif (r9.2.1.length : Int) == 3 then
    (idx r9.2.1 2).bind fun x26 =>
    keepPosts_j1 (x26.node == 2)
    else
    keepPosts_j1 false)
    else
    keepPosts_j1 false)
    else
    keepPosts_j1 false)

set_option maxRecDepth 100000 in
set_option maxHeartbeats 4000000 in
theorem keepPosts_ok {M : Mm} {w : World} {fu : Nat} {r : Bool} (hA : Agree M w)  (hz : keepPostsD fu = some r) :
    Calls Try.prog 11 #[] w (GivesV w (.bool r)) := by
  refine calls_W Try.func11 rfl 30 rfl rfl (by kernel_rfl) fun T hT => ?_
  clear hT
  have hE := Mm.ext.refl w.heap.size noX M
  have hS : St w noX M [] w := St.start hA
  rw [keepPostsD] at hz
  refine W_seq ?_
  refine W_reg ?_
  refine WL_y (Y_assign (.bool false) rfl) ?_
  refine WL_nil (nm_then ?_)
  refine W_seq ?_
  refine W_reg ?_
  have k1_0 := GOp.w0 (Zr.zr : rep M (Zr.zc GOp) (Zr.zd : GOp)) (show rep M [Value.int .i64 1] (1 : Int) from rfl)
  have k1_1 := GOp.w1 k1_0 (show rep M [Value.int .i64 2] (2 : Int) from rfl)
  obtain ⟨d2, hd1, hz⟩ := bind_ok hz
  obtain ⟨cs1, hf1, ha1⟩ : ∃ cs, fillZ (([(0, 1), (1, 1), (2, 1)] : List (Nat × Nat))[·]?) (Zr.zc GOp) [(0, .int .i64 1), (1, .int .i64 2)] = some cs ∧ rep M cs d2 := ⟨_, (fz_cons (Zr.zr : rep M (Zr.zc GOp) (Zr.zd : GOp)) rfl rfl (Rep.len (show rep M [Value.int .i64 1] (1 : Int) from rfl)) (by decide) (fz_cons k1_0 rfl rfl (Rep.len (show rep M [Value.int .i64 2] (2 : Int) from rfl)) (by decide) fz_nil)), rep_eq (x := ({ kind := 1, key := 2, n := Zr.zd } : GOp)) k1_1 hd1⟩
  refine WL_y (Y_build [(0, .int .i64 1), (1, .int .i64 2)] tb78 (bpc rfl (bpc rfl bp0)) hf1) ?_
  refine WL_c (O_bslice (α := GOp) (l := ([d2] : List GOp)) [.agg cs1.toArray] tl22 (bpc rfl bp0) rfl rfl (by decide) (by decide) (by decide) hS (brc ha1 br0) ?_)
  intro v4 M4 w3 hx4 hv4 hS
  replace ha1 := Rep.mono hx4.1 ha1
  replace hE := Mm.ext.trans hE hx4
  have k5_0 := GTxn.w0 (Zr.zr : rep M4 (Zr.zc GTxn) (Zr.zd : GTxn)) (show rep M4 [Value.int .i64 3] (3 : Int) from rfl)
  have k5_1 := GTxn.w1 k5_0 (repL_rep hv4)
  obtain ⟨d6, hd5, hz⟩ := bind_ok hz
  obtain ⟨cs5, hf5, ha5⟩ : ∃ cs, fillZ (([(0, 1), (1, 1)] : List (Nat × Nat))[·]?) (Zr.zc GTxn) [(0, .int .i64 3), (1, v4)] = some cs ∧ rep M4 cs d6 := ⟨_, (fz_cons (Zr.zr : rep M4 (Zr.zc GTxn) (Zr.zd : GTxn)) rfl rfl (Rep.len (show rep M4 [Value.int .i64 3] (3 : Int) from rfl)) (by decide) (fz_cons k5_0 rfl (repL_cells hv4) (Rep.len (repL_rep hv4)) (by decide) fz_nil)), rep_eq (x := ({ id := 3, ops := ([d2] : List GOp) } : GTxn)) k5_1 hd5⟩
  refine WL_y (Y_build [(0, .int .i64 3), (1, v4)] tb24 (bpc rfl (bpc rfl bp0)) hf5) ?_
  obtain ⟨r9, hr8, hz⟩ := bind_ok hz
  refine WL_c (O_mem (vs := [.agg cs5.toArray]) (rv := (fun M' u => ∃ c0 v1, u = .tuple #[.agg c0.toArray, v1, .int .i64 r9.2.2] ∧ rep M' c0 r9.1 ∧ repL M' v1 r9.2.1)) cb10 (args1 rfl) hS (postBegin_ok hS.agree ha5 hr8) ?_)
  intro u8 M8 w7 hx8 hu8 hS
  obtain ⟨c8_0, v8_1, hq8, f8_0, f8_1⟩ := hu8
  subst hq8
  replace ha1 := Rep.mono hx8.1 ha1
  replace hv4 := repL.mono hx8.1 hv4
  replace ha5 := Rep.mono hx8.1 ha5
  replace hE := Mm.ext.trans hE hx8
  refine WL_y (Y_move (.tuple #[.agg c8_0.toArray, v8_1, .int .i64 r9.2.2]) rfl) ?_
  refine WL_y (Y_extract (v := .agg c8_0.toArray) rfl rfl) ?_
  refine WL_y (Y_extract (v := v8_1) rfl rfl) ?_
  refine WL_y (Y_extract (v := .int .i64 r9.2.2) rfl rfl) ?_
  refine WL_c (O_alloc tz31 hS ?_)
  intro b11 w10 hb11 hS
  replace hS : St w noX M8 [.box b11 (Zr.zc GCase) 31] w10 := hS
  have zb11 : rep M8 (Zr.zc GCase) (Zr.zd : GCase) := Zr.zr
  have hw13 : (c8_0 : List Value).length = 24 := Rep.len f8_0
  have hl13 : ((Zr.zc GCase)).length = 24 := Rep.len zb11
  obtain ⟨d14, hd13, hz⟩ := bind_ok hz
  have hb13 : rep M8 (pt (Zr.zc GCase) (0) c8_0) d14 := rep_eq (rep_whole (k := 24) (by rw [pt_length (by omega)]; exact hl13) (rep_leaf rfl f8_0 (by omega))) hd13
  generalize hg13 : (pt (Zr.zc GCase) (0) c8_0) = cs13 at hb13
  refine WL_c (O_st (j := 0) (v := .agg c8_0.toArray) (ws := c8_0) hS rfl (by kernel_rfl) rfl rfl rfl hw13 (Rep.one f8_0) (by omega) ?_)
  rw [hg13]
  clear hg13
  intro w12 hS
  replace hS : St w noX M8 [.box b11 cs13 31] w12 := hS
  refine WL_y (Y_assign (v8_1) rfl) ?_
  refine WL_y (Y_assign (.int .i64 r9.2.2) rfl) ?_
  refine WL_nil (nm_then ?_)
  refine W_seqJ (fun T' w' => ∃ M16 c18, Mm.ext w.heap.size noX M8 M16 ∧ St w noX M16 [.box b11 cs13 31] w' ∧ T' 0 = .bool c18 ∧ keepPosts_j1 c18 = some r) ?_ ?_
  · have hF20 := Mm.ext.refl w.heap.size noX M8
    refine W_reg ?_
    refine WL_y (Y_move (.int .i64 r9.2.2) rfl) ?_
    refine WL_y (Y_eql rfl rfl) ?_
    refine WL_y (Y_move (.bool (r9.2.2 == 0)) rfl) ?_
    rcases Bool.eq_false_or_eq_true (r9.2.2 == 0) with hc21 | hc21
    · replace hz := bif_ok_t hz hc21
      refine WL_gy rfl (bt hc21 rfl) (Y_fa fa31_0 rfl) ?_
      refine WL_gy rfl (bt hc21 rfl) (Y_ld1 (.bool d14.begun) ts4 rfl (hS.bvB 0 rfl) (GCase.p0 (rep_root (k := 24) rfl hb13))) ?_
      refine WL_y (Y_pick_t (.bool d14.begun) (bt hc21 rfl) rfl) ?_
      refine WL_y (Y_move (.bool d14.begun) rfl) ?_
      rcases Bool.eq_false_or_eq_true d14.begun with hc22 | hc22
      · replace hz := bif_ok_t hz hc22
        refine WL_gy rfl (bt hc22 rfl) (Y_move (v8_1) rfl) ?_
        obtain ⟨a23, c23, hv23, _⟩ := repL_shape f8_1
        refine WL_gy rfl (bt hc22 rfl) (Y_lenL Try.underlying25 (tr2 hv23 rfl)) ?_
        refine WL_gy rfl (bt hc22 rfl) (Y_eql rfl rfl) ?_
        refine WL_y (Y_pick_t (.bool ((r9.2.1.length : Int) == 3)) (bt hc22 rfl) rfl) ?_
        refine WL_y (Y_move (.bool ((r9.2.1.length : Int) == 3)) rfl) ?_
        rcases Bool.eq_false_or_eq_true ((r9.2.1.length : Int) == 3) with hc24 | hc24
        · replace hz := bif_ok_t hz hc24
          refine WL_gy rfl (bt hc24 rfl) (Y_move (v8_1) rfl) ?_
          obtain ⟨x26, hx25, hz⟩ := bind_ok hz
          obtain ⟨b25, o25, c25, p25, hv25, hi25, hj25, hM25, hr25⟩ := repL_at f8_1 hx25
          replace hr25 : rep _ (sl p25 (o25 + Int.toNat 2 * 7) 7) x26 := hr25
          refine WL_gy rfl (bt hc24 rfl) (Y_ixL il25 rfl hv25 rfl hi25 hj25) ?_
          refine WL_gy rfl (bt hc24 rfl) (Y_fa fa38_1 rfl) ?_
          refine WL_gy rfl (bt hc24 rfl) (Y_ld1 (.int .i64 x26.node) ts3 rfl (hS.bvM hM25) (GFrame.p1 hr25)) ?_
          refine WL_gy rfl (bt hc24 rfl) (Y_eql rfl rfl) ?_
          refine WL_y (Y_pick_t (.bool (x26.node == 2)) (bt hc24 rfl) rfl) ?_
          refine WL_y (Y_assign (.bool (x26.node == 2)) rfl) ?_
          refine WL_nil (nm_then ?_)
          exact ⟨M8, (x26.node == 2), hF20, hS, rfl, hz⟩
        · replace hz := bif_ok_f hz hc24
          refine WL_s (j := 11) rfl (bf hc24 rfl) rfl ?_
          refine WL_s (j := 11) rfl (bf hc24 rfl) rfl ?_
          refine WL_s (j := 11) rfl (bf hc24 rfl) rfl ?_
          refine WL_s (j := 11) rfl (bf hc24 rfl) rfl ?_
          refine WL_s (j := 11) rfl (bf hc24 rfl) rfl ?_
          refine WL_y (Y_pick_f (.bool false) (bf hc24 rfl) rfl) ?_
          refine WL_y (Y_assign (.bool false) rfl) ?_
          refine WL_nil (nm_then ?_)
          exact ⟨M8, false, hF20, hS, rfl, hz⟩
      · replace hz := bif_ok_f hz hc22
        refine WL_s (j := 6) rfl (bf hc22 rfl) rfl ?_
        refine WL_s (j := 6) rfl (bf hc22 rfl) rfl ?_
        refine WL_s (j := 6) rfl (bf hc22 rfl) rfl ?_
        refine WL_y (Y_pick_f (.bool false) (bf hc22 rfl) rfl) ?_
        refine WL_y (Y_move (.bool false) rfl) ?_
        refine WL_s (j := 11) rfl rfl rfl ?_
        refine WL_s (j := 11) rfl rfl rfl ?_
        refine WL_s (j := 11) rfl rfl rfl ?_
        refine WL_s (j := 11) rfl rfl rfl ?_
        refine WL_s (j := 11) rfl rfl rfl ?_
        refine WL_y (Y_pick_f (.bool false) rfl rfl) ?_
        refine WL_y (Y_assign (.bool false) rfl) ?_
        refine WL_nil (nm_then ?_)
        exact ⟨M8, false, hF20, hS, rfl, hz⟩
    · replace hz := bif_ok_f hz hc21
      refine WL_s (j := 2) rfl (bf hc21 rfl) rfl ?_
      refine WL_s (j := 2) rfl (bf hc21 rfl) rfl ?_
      refine WL_y (Y_pick_f (.bool false) (bf hc21 rfl) rfl) ?_
      refine WL_y (Y_move (.bool false) rfl) ?_
      refine WL_s (j := 6) rfl rfl rfl ?_
      refine WL_s (j := 6) rfl rfl rfl ?_
      refine WL_s (j := 6) rfl rfl rfl ?_
      refine WL_y (Y_pick_f (.bool false) rfl rfl) ?_
      refine WL_y (Y_move (.bool false) rfl) ?_
      refine WL_s (j := 11) rfl rfl rfl ?_
      refine WL_s (j := 11) rfl rfl rfl ?_
      refine WL_s (j := 11) rfl rfl rfl ?_
      refine WL_s (j := 11) rfl rfl rfl ?_
      refine WL_s (j := 11) rfl rfl rfl ?_
      refine WL_y (Y_pick_f (.bool false) rfl rfl) ?_
      refine WL_y (Y_assign (.bool false) rfl) ?_
      refine WL_nil (nm_then ?_)
      exact ⟨M8, false, hF20, hS, rfl, hz⟩
  · rintro T17 w15 ⟨M16, c18, hx19, hS, hT17_0, hz⟩
    replace hb13 := Rep.mono hx19.1 hb13
    replace hE := Mm.ext.trans hE hx19
    rw [keepPosts_j1] at hz
    cases hz
    exact W_ret (R_t1 rfl hT17_0 ⟨rfl, (St.dropB hS hb11).kept⟩)

def postResults_j3 (y26 : Int) (rec27 : GCase → (List Int) → Bool → Int → Option Bool) (d39 : GCase) (l40 : List Int) (c42 : Bool) : Option Bool :=
    rec27 d39 l40 c42 (IntKind.wrap .i64 (y26 + 1))

def postResults_j5 (y26 : Int) (rec27 : GCase → (List Int) → Bool → Int → Option Bool) (d49 : GCase) (r54 : (List Int) × Bool) : Option Bool :=
    postResults_j3 y26 rec27 d49 r54.1 r54.2

def postResults_j6 (y26 : Int) (rec27 : GCase → (List Int) → Bool → Int → Option Bool) (d49 : GCase) (r54 : (List Int) × Bool) (c63 : Bool) : Option Bool :=
    (bif c63 then
    some false
    else
    postResults_j5 y26 rec27 d49 r54)

def postResults_j4 (fu : Nat) (x1 : GTxn) (l23 : List Int) (c25 : Bool) (y26 : Int) (rec27 : GCase → (List Int) → Bool → Int → Option Bool) (d49 : GCase) : Option Bool :=
    (postResultD fu d49).bind fun r54 =>
    (bif c25 then
    (bif !r54.2 then
    postResults_j6 y26 rec27 d49 r54 true
    else
    (keepSameNumbersD fu r54.1 l23).bind fun r71 =>
    (bif !r71 then
    postResults_j6 y26 rec27 d49 r54 true
    else
    (bif r54.2 then
    (bif (r54.1.length : Int) != (x1.ops.length : Int) then
    postResults_j6 y26 rec27 d49 r54 true
    else
    postResults_j6 y26 rec27 d49 r54 (!d49.fixed))
    else
    postResults_j6 y26 rec27 d49 r54 false)))
    else
    (bif r54.2 then
    (bif (r54.1.length : Int) != (x1.ops.length : Int) then
    postResults_j6 y26 rec27 d49 r54 true
    else
    postResults_j6 y26 rec27 d49 r54 (!d49.fixed))
    else
    postResults_j6 y26 rec27 d49 r54 false))

def postResults_j7 (fu : Nat) (x1 : GTxn) (d22 : GCase) (l23 : List Int) (c25 : Bool) (y26 : Int) (rec27 : GCase → (List Int) → Bool → Int → Option Bool) (d88 : GCase) (y89 : Int) : Option Bool :=
    (bif y89 == 0 then
    (some d88).bind fun d95 =>
    postResults_j4 fu x1 l23 c25 y26 rec27 d95
    else
    postResults_j4 fu x1 l23 c25 y26 rec27 d22)

def postResults_j2 (fu : Nat) (x1 : GTxn) (x2 : List GFrame) (d22 : GCase) (l23 : List Int) (c25 : Bool) (y26 : Int) (rec27 : GCase → (List Int) → Bool → Int → Option Bool) : Option Bool :=
    (idx x2 y26).bind fun x102 =>
    (postTakeD fu d22 x1.id x102).bind fun r106 =>
    (some r106.1).bind fun d111 =>
    postResults_j7 fu x1 d22 l23 c25 y26 rec27 d111 r106.2.2

def postResults_j8 (fu : Nat) (x1 : GTxn) (x2 : List GFrame) (d22 : GCase) (l23 : List Int) (c25 : Bool) (y26 : Int) (rec27 : GCase → (List Int) → Bool → Int → Option Bool) (c120 : Bool) : Option Bool :=
    (bif c120 then
    postResults_j2 fu x1 x2 d22 l23 c25 y26 rec27
    else
    some true)

def postResults_l1 (fu : Nat) (x1 : GTxn) (x2 : List GFrame) : Nat → GCase → (List Int) → Bool → Int → Option Bool
  | 0, _, _, _, _ => none
  | n + 1, d22, l23, c25, y26 =>
    (bif decide (y26 < (x2.length : Int)) then
    postResults_j8 fu x1 x2 d22 l23 c25 y26 (postResults_l1 fu x1 x2 n) (decide (y26 < 40))
    else
    postResults_j8 fu x1 x2 d22 l23 c25 y26 (postResults_l1 fu x1 x2 n) false)

def postResults_j1 (fu : Nat) (x1 : GTxn) (x2 : List GFrame) (d13 : GCase) : Option Bool :=
    postResults_l1 fu x1 x2 fu d13 [] false 0

def postResults_j9 (fu : Nat) (x1 : GTxn) (x2 : List GFrame) (d13 : GCase) (c130 : Bool) : Option Bool :=
    (bif c130 then
    (keepPostsD fu).bind fun r135 =>
    some r135
    else
    postResults_j1 fu x1 x2 d13)

def postResultsD (fu : Nat) (x1 : GTxn) (x2 : List GFrame) : Option Bool :=
    (postBeginD fu x1).bind fun r8 =>
    (some r8.1).bind fun d13 =>
    (bif r8.2.2 != 0 then
    postResults_j9 fu x1 x2 d13 true
    else
    (keepPostsD fu).bind fun r140 =>
    postResults_j9 fu x1 x2 d13 (!r140))

set_option maxRecDepth 100000 in
set_option maxHeartbeats 4000000 in
theorem postResults_ok {M : Mm} {w : World} {cx1 : List Value} {vx2 : Value} {x1 : GTxn} {x2 : List GFrame} {fu : Nat} {r : Bool} (hA : Agree M w) (hcx1 : rep M cx1 x1) (hvx2 : repL M vx2 x2) (hz : postResultsD fu x1 x2 = some r) :
    Calls Try.prog 3 #[.agg cx1.toArray, vx2] w (GivesV w (.bool r)) := by
  refine calls_W Try.func3 rfl 88 rfl rfl (by kernel_rfl) fun T hT => ?_
  have hT_0 : T 0 = .agg cx1.toArray := hT 0
  have hT_1 : T 1 = vx2 := hT 1
  clear hT
  have hE := Mm.ext.refl w.heap.size noX M
  have hS : St w noX M [] w := St.start hA
  rw [postResultsD] at hz
  refine W_seq ?_
  refine W_reg ?_
  refine WL_c (O_box (v := .agg cx1.toArray) (cs := cx1) hT_0 rfl hS ?_)
  intro b4 w3 hb4 hS
  replace hS : St w noX M [.box b4 cx1 24] w3 := hS
  refine WL_y (Y_assign (.bool false) rfl) ?_
  refine WL_nil (nm_then ?_)
  refine W_seq ?_
  refine W_reg ?_
  have ha5 := (rep_root (k := 2) rfl hcx1)
  refine WL_y (Y_ldn ta24 rfl (hS.bvB 0 rfl) (Rep.len ha5)) ?_
  obtain ⟨r8, hr7, hz⟩ := bind_ok hz
  refine WL_c (O_mem (vs := [.agg (sl cx1 (0) 2).toArray]) (rv := (fun M' u => ∃ c0 v1, u = .tuple #[.agg c0.toArray, v1, .int .i64 r8.2.2] ∧ rep M' c0 r8.1 ∧ repL M' v1 r8.2.1)) cb10 (args1 rfl) hS (postBegin_ok hS.agree ha5 hr7) ?_)
  intro u7 M7 w6 hx7 hu7 hS
  obtain ⟨c7_0, v7_1, hq7, f7_0, f7_1⟩ := hu7
  subst hq7
  replace hcx1 := Rep.mono hx7.1 hcx1
  replace hvx2 := repL.mono hx7.1 hvx2
  replace ha5 := Rep.mono hx7.1 ha5
  replace hE := Mm.ext.trans hE hx7
  refine WL_y (Y_move (.tuple #[.agg c7_0.toArray, v7_1, .int .i64 r8.2.2]) rfl) ?_
  refine WL_y (Y_extract (v := .agg c7_0.toArray) rfl rfl) ?_
  refine WL_y (Y_extract (v := v7_1) rfl rfl) ?_
  refine WL_y (Y_extract (v := .int .i64 r8.2.2) rfl rfl) ?_
  refine WL_c (O_alloc tz31 hS ?_)
  intro b10 w9 hb10 hS
  replace hS : St w noX M7 [.box b10 (Zr.zc GCase) 31, .box b4 cx1 24] w9 := hS
  have zb10 : rep M7 (Zr.zc GCase) (Zr.zd : GCase) := Zr.zr
  have hw12 : (c7_0 : List Value).length = 24 := Rep.len f7_0
  have hl12 : ((Zr.zc GCase)).length = 24 := Rep.len zb10
  obtain ⟨d13, hd12, hz⟩ := bind_ok hz
  have hb12 : rep M7 (pt (Zr.zc GCase) (0) c7_0) d13 := rep_eq (rep_whole (k := 24) (by rw [pt_length (by omega)]; exact hl12) (rep_leaf rfl f7_0 (by omega))) hd12
  generalize hg12 : (pt (Zr.zc GCase) (0) c7_0) = cs12 at hb12
  refine WL_c (O_st (j := 0) (v := .agg c7_0.toArray) (ws := c7_0) hS rfl (by kernel_rfl) rfl rfl rfl hw12 (Rep.one f7_0) (by omega) ?_)
  rw [hg12]
  clear hg12
  intro w11 hS
  replace hS : St w noX M7 [.box b10 cs12 31, .box b4 cx1 24] w11 := hS
  refine WL_y (Y_assign (v7_1) rfl) ?_
  refine WL_y (Y_assign (.int .i64 r8.2.2) rfl) ?_
  refine WL_nil (nm_then ?_)
  refine W_seqJ (fun T' w' => ∃ M15, Mm.ext w.heap.size noX M7 M15 ∧ St w noX M15 [.box b10 cs12 31, .box b4 cx1 24] w' ∧ T' 1 = vx2 ∧ T' 2 = .pointer (some ⟨b4, 0, none⟩) ∧ T' 5 = .pointer (some ⟨b10, 0, none⟩) ∧ postResults_j1 fu x1 x2 d13 = some r) ?_ ?_
  · have hF126 := Mm.ext.refl w.heap.size noX M7
    refine W_seqJ (fun T' w' => ∃ M128 c130, Mm.ext w.heap.size noX M7 M128 ∧ St w noX M128 [.box b10 cs12 31, .box b4 cx1 24] w' ∧ T' 1 = vx2 ∧ T' 2 = .pointer (some ⟨b4, 0, none⟩) ∧ T' 5 = .pointer (some ⟨b10, 0, none⟩) ∧ T' 27 = .bool c130 ∧ postResults_j9 fu x1 x2 d13 c130 = some r) ?_ ?_
    · have hF136 := Mm.ext.refl w.heap.size noX M7
      refine W_reg ?_
      refine WL_y (Y_move (.int .i64 r8.2.2) rfl) ?_
      refine WL_y (Y_neq rfl rfl) ?_
      refine WL_y (Y_move (.bool (r8.2.2 != 0)) rfl) ?_
      rcases Bool.eq_false_or_eq_true (r8.2.2 != 0) with hc137 | hc137
      · replace hz := bif_ok_t hz hc137
        refine WL_s (j := 2) rfl (bt hc137 rfl) rfl ?_
        refine WL_s (j := 2) rfl (bt hc137 rfl) rfl ?_
        refine WL_y (Y_pick_t (.bool true) (bt hc137 rfl) rfl) ?_
        refine WL_nil (nm_then ?_)
        exact ⟨M7, true, hF136, hS, hT_1, rfl, rfl, rfl, hz⟩
      · replace hz := bif_ok_f hz hc137
        obtain ⟨r140, hr139, hz⟩ := bind_ok hz
        refine WL_g rfl (bf hc137 rfl) (O_val (vs := []) (v := .bool r140) cb11 args0 hS (keepPosts_ok hS.agree hr139) ?_)
        intro w138 hS
        refine WL_gy rfl (bf hc137 rfl) (Y_not rfl) ?_
        refine WL_y (Y_pick_f (.bool (!r140)) (bf hc137 rfl) rfl) ?_
        refine WL_nil (nm_then ?_)
        exact ⟨M7, (!r140), hF136, hS, hT_1, rfl, rfl, rfl, hz⟩
    · rintro T129 w127 ⟨M128, c130, hx131, hS, hT129_1, hT129_2, hT129_5, hT129_27, hz⟩
      replace hcx1 := Rep.mono hx131.1 hcx1
      replace hvx2 := repL.mono hx131.1 hvx2
      replace hb12 := Rep.mono hx131.1 hb12
      replace hE := Mm.ext.trans hE hx131
      replace hF126 := Mm.ext.trans hF126 hx131
      rw [postResults_j9] at hz
      refine W_cond hT129_27 (fun hc132 => ?_) (fun hc132 => ?_)
      · replace hz := bif_ok_t hz hc132
        refine W_seq ?_
        refine W_reg ?_
        obtain ⟨r135, hr134, hz⟩ := bind_ok hz
        refine WL_c (O_val (vs := []) (v := .bool r135) cb11 args0 hS (keepPosts_ok hS.agree hr134) ?_)
        intro w133 hS
        refine WL_y (Y_assign (.bool r135) rfl) ?_
        refine WL_nil (nm_then ?_)
        cases hz
        exact W_ret (rt_then (R_t1 rfl rfl ⟨rfl, (St.dropB (St.dropB hS hb10) hb4).kept⟩))
      · replace hz := bif_ok_f hz hc132
        refine W_skip (nm_then ?_)
        exact ⟨M128, hF126, hS, hT129_1, hT129_2, hT129_5, hz⟩
  · rintro T16 w14 ⟨M15, hx17, hS, hT16_1, hT16_2, hT16_5, hz⟩
    replace hcx1 := Rep.mono hx17.1 hcx1
    replace hvx2 := repL.mono hx17.1 hvx2
    replace hb12 := Rep.mono hx17.1 hb12
    replace hE := Mm.ext.trans hE hx17
    rw [postResults_j1] at hz
    refine W_seq ?_
    refine W_reg ?_
    refine WL_y (Y_assign ((.slice none 0 0)) rfl) ?_
    refine WL_nil (nm_then ?_)
    refine W_seq ?_
    refine W_reg ?_
    refine WL_y (Y_assign (.bool false) rfl) ?_
    refine WL_nil (nm_then ?_)
    refine W_seq ?_
    refine W_seq ?_
    refine W_reg ?_
    refine WL_y (Y_assign (.int .i64 0) rfl) ?_
    refine WL_nil (nm_then ?_)
    refine W_block ?_
    refine W_loop (fun k28 T' w' => ∃ M19 cs21 d22 v24 l23 c25 y26, Mm.ext w.heap.size noX M15 M19 ∧ St w noX M19 [.box b10 cs21 31, .box b4 cx1 24] w' ∧ rep M19 cs21 d22 ∧ repL M19 v24 l23 ∧ T' 1 = vx2 ∧ T' 2 = .pointer (some ⟨b4, 0, none⟩) ∧ T' 5 = .pointer (some ⟨b10, 0, none⟩) ∧ T' 8 = v24 ∧ T' 9 = .bool c25 ∧ T' 10 = .int .i64 y26 ∧ postResults_l1 fu x1 x2 k28 d22 l23 c25 y26 = some r) fu ?_ ?_ ?_
    · exact ⟨M15, cs12, d13, (.slice none 0 0), [], false, (0 : Int), (Mm.ext.refl _ _ _), hS, hb12, (repL_nil _), hT16_1, hT16_2, hT16_5, rfl, rfl, rfl, hz⟩
    · rintro T' w' ⟨_, _, _, _, _, _, _, _, _, _, _, _, _, _, _, _, _, hz⟩
      rw [postResults_l1] at hz
      cases hz
    · intro k28
      rintro T20 w18 ⟨M19, cs21, d22, v24, l23, c25, y26, hx30, hS, hb21, hv24, hT20_1, hT20_2, hT20_5, hT20_8, hT20_9, hT20_10, hz⟩
      replace hcx1 := Rep.mono hx30.1 hcx1
      replace hvx2 := repL.mono hx30.1 hvx2
      replace hE := Mm.ext.trans hE hx30
      have hF29 := hx30
      rw [postResults_l1] at hz
      obtain ⟨rec27, hrec27⟩ : ∃ f, f = postResults_l1 fu x1 x2 k28 := ⟨_, rfl⟩
      rw [← hrec27] at hz
      refine W_seqJ (fun T' w' => ∃ M32, Mm.ext w.heap.size noX M19 M32 ∧ St w noX M32 [.box b10 cs21 31, .box b4 cx1 24] w' ∧ T' 1 = vx2 ∧ T' 2 = .pointer (some ⟨b4, 0, none⟩) ∧ T' 5 = .pointer (some ⟨b10, 0, none⟩) ∧ T' 8 = v24 ∧ T' 9 = .bool c25 ∧ T' 10 = .int .i64 y26 ∧ postResults_j2 fu x1 x2 d22 l23 c25 y26 rec27 = some r) ?_ ?_
      · have hF116 := Mm.ext.refl w.heap.size noX M19
        refine W_seqJ (fun T' w' => ∃ M118 c120, Mm.ext w.heap.size noX M19 M118 ∧ St w noX M118 [.box b10 cs21 31, .box b4 cx1 24] w' ∧ T' 1 = vx2 ∧ T' 2 = .pointer (some ⟨b4, 0, none⟩) ∧ T' 5 = .pointer (some ⟨b10, 0, none⟩) ∧ T' 8 = v24 ∧ T' 9 = .bool c25 ∧ T' 10 = .int .i64 y26 ∧ T' 36 = .bool c120 ∧ postResults_j8 fu x1 x2 d22 l23 c25 y26 rec27 c120 = some r) ?_ ?_
        · have hF123 := Mm.ext.refl w.heap.size noX M19
          refine W_reg ?_
          refine WL_y (Y_move (.int .i64 y26) hT20_10) ?_
          refine WL_y (Y_move (vx2) hT20_1) ?_
          obtain ⟨a124, c124, hv124, _⟩ := repL_shape hvx2
          refine WL_y (Y_lenL Try.underlying25 (tr2 hv124 rfl)) ?_
          refine WL_y (Y_lss rfl rfl) ?_
          refine WL_y (Y_move (.bool (decide (y26 < (x2.length : Int)))) rfl) ?_
          rcases Bool.eq_false_or_eq_true (decide (y26 < (x2.length : Int))) with hc125 | hc125
          · replace hz := bif_ok_t hz hc125
            refine WL_gy rfl (bt hc125 rfl) (Y_move (.int .i64 y26) hT20_10) ?_
            refine WL_gy rfl (bt hc125 rfl) (Y_lss rfl rfl) ?_
            refine WL_y (Y_pick_t (.bool (decide (y26 < 40))) (bt hc125 rfl) rfl) ?_
            refine WL_nil (nm_then ?_)
            exact ⟨M19, (decide (y26 < 40)), hF123, hS, hT20_1, hT20_2, hT20_5, hT20_8, hT20_9, hT20_10, rfl, hz⟩
          · replace hz := bif_ok_f hz hc125
            refine WL_s (j := 4) rfl (bf hc125 rfl) rfl ?_
            refine WL_s (j := 4) rfl (bf hc125 rfl) rfl ?_
            refine WL_y (Y_pick_f (.bool false) (bf hc125 rfl) rfl) ?_
            refine WL_nil (nm_then ?_)
            exact ⟨M19, false, hF123, hS, hT20_1, hT20_2, hT20_5, hT20_8, hT20_9, hT20_10, rfl, hz⟩
        · rintro T119 w117 ⟨M118, c120, hx121, hS, hT119_1, hT119_2, hT119_5, hT119_8, hT119_9, hT119_10, hT119_36, hz⟩
          replace hcx1 := Rep.mono hx121.1 hcx1
          replace hvx2 := repL.mono hx121.1 hvx2
          replace hb21 := Rep.mono hx121.1 hb21
          replace hv24 := repL.mono hx121.1 hv24
          replace hE := Mm.ext.trans hE hx121
          replace hF29 := Mm.ext.trans hF29 hx121
          replace hF116 := Mm.ext.trans hF116 hx121
          rw [postResults_j8] at hz
          refine W_cond hT119_36 (fun hc122 => ?_) (fun hc122 => ?_)
          · replace hz := bif_ok_t hz hc122
            refine W_skip (nm_then ?_)
            exact ⟨M118, hF116, hS, hT119_1, hT119_2, hT119_5, hT119_8, hT119_9, hT119_10, hz⟩
          · replace hz := bif_ok_f hz hc122
            refine W_exit ?_
            refine ex_then ?_
            refine ex_then ?_
            refine ex_hit ?_
            refine (nm_then ?_)
            refine W_seq ?_
            refine W_reg ?_
            refine WL_y (Y_assign (.bool true) rfl) ?_
            refine WL_nil (nm_then ?_)
            cases hz
            exact W_ret (R_t1 rfl rfl ⟨rfl, (St.dropB (St.dropB hS hb10) hb4).kept⟩)
      · rintro T33 w31 ⟨M32, hx34, hS, hT33_1, hT33_2, hT33_5, hT33_8, hT33_9, hT33_10, hz⟩
        replace hcx1 := Rep.mono hx34.1 hcx1
        replace hvx2 := repL.mono hx34.1 hvx2
        replace hb21 := Rep.mono hx34.1 hb21
        replace hv24 := repL.mono hx34.1 hv24
        replace hE := Mm.ext.trans hE hx34
        replace hF29 := Mm.ext.trans hF29 hx34
        rw [postResults_j2] at hz
        refine W_seqJ (fun T' w' => ∃ M36 cs38 d39 v41 l40 c42, Mm.ext w.heap.size noX M32 M36 ∧ St w noX M36 [.box b10 cs38 31, .box b4 cx1 24] w' ∧ rep M36 cs38 d39 ∧ repL M36 v41 l40 ∧ T' 1 = vx2 ∧ T' 2 = .pointer (some ⟨b4, 0, none⟩) ∧ T' 5 = .pointer (some ⟨b10, 0, none⟩) ∧ T' 8 = v41 ∧ T' 9 = .bool c42 ∧ T' 10 = .int .i64 y26 ∧ postResults_j3 y26 rec27 d39 l40 c42 = some r) ?_ ?_
        · have hF44 := Mm.ext.refl w.heap.size noX M32
          refine W_block ?_
          refine W_seqJ (fun T' w' => ∃ M46 cs48 d49, Mm.ext w.heap.size noX M32 M46 ∧ St w noX M46 [.box b10 cs48 31, .box b4 cx1 24] w' ∧ rep M46 cs48 d49 ∧ T' 1 = vx2 ∧ T' 2 = .pointer (some ⟨b4, 0, none⟩) ∧ T' 5 = .pointer (some ⟨b10, 0, none⟩) ∧ T' 8 = v24 ∧ T' 9 = .bool c25 ∧ T' 10 = .int .i64 y26 ∧ postResults_j4 fu x1 l23 c25 y26 rec27 d49 = some r) ?_ ?_
          · have hF83 := Mm.ext.refl w.heap.size noX M32
            refine W_seqJ (fun T' w' => ∃ M85 b87 cs87 d88 y89, Mm.ext w.heap.size noX M32 M85 ∧ St w noX M85 [.box b87 cs87 31, .box b10 cs21 31, .box b4 cx1 24] w' ∧ rep M85 cs87 d88 ∧ w.heap.size ≤ b87 ∧ T' 11 = .pointer (some ⟨b87, 0, none⟩) ∧ T' 1 = vx2 ∧ T' 2 = .pointer (some ⟨b4, 0, none⟩) ∧ T' 5 = .pointer (some ⟨b10, 0, none⟩) ∧ T' 8 = v24 ∧ T' 9 = .bool c25 ∧ T' 10 = .int .i64 y26 ∧ T' 13 = .int .i64 y89 ∧ postResults_j7 fu x1 d22 l23 c25 y26 rec27 d88 y89 = some r) ?_ ?_
            · have hF96 := Mm.ext.refl w.heap.size noX M32
              refine W_drawB (Rd M32 [.box b10 cs21 31, .box b4 cx1 24]) (inL [13]) mixed hS fun w97 hS => ?_
              have hG98 := Mm.ext.refl w.heap.size noX M32
              have hR99 : Rd M32 [.box b10 cs21 31, .box b4 cx1 24] w97 := Rd.of hS hG98 (by simp)
              have ha100 := (rep_root (k := 24) rfl hb21)
              refine WB_ld (i := 0) rfl (by kernel_rfl) rfl (inL_lt rfl) (by kernel_rfl) (by kernel_rfl) (Y_ldn ta31 hT33_5 (bvR 0 rfl) (Rep.len ha100)) hR99 ?_
              refine WB_y (i := 1) rfl (by kernel_rfl) rfl (Y_fa fa24_0 hT33_2) (fun _ => hR99) ?_
              refine WB_ld (i := 2) rfl (by kernel_rfl) rfl (inL_lt rfl) (by kernel_rfl) (by kernel_rfl) (Y_ld1 (.int .i64 x1.id) ts3 rfl (bvR 1 rfl) (GTxn.p0 (rep_root (k := 2) rfl hcx1))) hR99 ?_
              refine WB_y (i := 3) rfl (by kernel_rfl) rfl (Y_move (vx2) hT33_1) (fun _ => hR99) ?_
              refine WB_y (i := 4) rfl (by kernel_rfl) rfl (Y_move (.int .i64 y26) hT33_10) (fun _ => hR99) ?_
              obtain ⟨x102, hx101, hz⟩ := bind_ok hz
              obtain ⟨b101, o101, c101, p101, hv101, hi101, hj101, hM101, hr101⟩ := repL_at hvx2 hx101
              replace hr101 : rep _ (sl p101 (o101 + Int.toNat y26 * 7) 7) x102 := hr101
              refine WB_y (i := 5) rfl (by kernel_rfl) rfl (Y_ixL il25 rfl hv101 rfl hi101 hj101) (fun _ => hR99) ?_
              have ha103 := hr101
              refine WB_ld (i := 6) rfl (by kernel_rfl) rfl (inL_lt rfl) (by kernel_rfl) (by kernel_rfl) (Y_ldn ta38 rfl (bvRM hM101) (Rep.len ha103)) hR99 ?_
              obtain ⟨r106, hr105, hz⟩ := bind_ok hz
              obtain ⟨d111, hd110, hz⟩ := bind_ok hz
              refine WB_two (i := 7) (j := 12) (by kernel_rfl) rfl rfl (O_mem (vs := [.agg (sl cs21 (0) 24).toArray, .int .i64 x1.id, .agg (sl p101 (o101 + Int.toNat y26 * 7) 7).toArray]) (rv := (fun M' u => ∃ c0 v1, u = .tuple #[.agg c0.toArray, v1, .int .i64 r106.2.2] ∧ rep M' c0 r106.1 ∧ repL M' v1 r106.2.1)) cb12 (args3 rfl rfl rfl) hS (postTake_ok hS.agree ha100 ha103 hr105) ?_) (O_alloc tz31 hS ?_)
              · intro u105 M105 w104 hx105 hu105 hS
                obtain ⟨c105_0, v105_1, hq105, f105_0, f105_1⟩ := hu105
                subst hq105
                replace hcx1 := Rep.mono hx105.1 hcx1
                replace hvx2 := repL.mono hx105.1 hvx2
                replace hb21 := Rep.mono hx105.1 hb21
                replace hv24 := repL.mono hx105.1 hv24
                replace ha100 := Rep.mono hx105.1 ha100
                replace ha103 := Rep.mono hx105.1 ha103
                replace hE := Mm.ext.trans hE hx105
                replace hF29 := Mm.ext.trans hF29 hx105
                replace hF44 := Mm.ext.trans hF44 hx105
                replace hF83 := Mm.ext.trans hF83 hx105
                replace hF96 := Mm.ext.trans hF96 hx105
                replace hG98 := Mm.ext.trans hG98 hx105
                have hR112 : Rd M32 [.box b10 cs21 31, .box b4 cx1 24] w104 := Rd.of hS hG98 (by simp)
                refine ⟨fun _ => hR112, ?_⟩
                refine WB_y (i := 8) rfl (by kernel_rfl) rfl (Y_move (.tuple #[.agg c105_0.toArray, v105_1, .int .i64 r106.2.2]) rfl) (fun _ => hR112) ?_
                refine WB_y (i := 9) rfl (by kernel_rfl) rfl (Y_extract (v := .agg c105_0.toArray) rfl rfl) (fun _ => hR112) ?_
                refine WB_y (i := 10) rfl (by kernel_rfl) rfl (Y_extract (v := v105_1) rfl rfl) (fun _ => hR112) ?_
                refine WB_y (i := 11) rfl (by kernel_rfl) rfl (Y_extract (v := .int .i64 r106.2.2) rfl rfl) (fun _ => hR112) ?_
                refine WB_one (i := 12) (by kernel_rfl) rfl (O_alloc tz31 hS ?_)
                intro b108 w107 hb108 hS
                replace hS : St w noX M105 [.box b108 (Zr.zc GCase) 31, .box b10 cs21 31, .box b4 cx1 24] w107 := hS
                have zb108 : rep M105 (Zr.zc GCase) (Zr.zd : GCase) := Zr.zr
                have hR113 : Rd M32 [.box b10 cs21 31, .box b4 cx1 24] w107 := Rd.of hS hG98 (by simp)
                refine ⟨fun _ => hR113, ?_⟩
                have hw110 : (c105_0 : List Value).length = 24 := Rep.len f105_0
                have hl110 : ((Zr.zc GCase)).length = 24 := Rep.len zb108
                have hb110 : rep M105 (pt (Zr.zc GCase) (0) c105_0) d111 := rep_eq (rep_whole (k := 24) (by rw [pt_length (by omega)]; exact hl110) (rep_leaf rfl f105_0 (by omega))) hd110
                generalize hg110 : (pt (Zr.zc GCase) (0) c105_0) = cs110 at hb110
                refine WB_one (i := 13) (by kernel_rfl) rfl (O_st (j := 0) (v := .agg c105_0.toArray) (ws := c105_0) hS rfl (by kernel_rfl) rfl rfl rfl hw110 (Rep.one f105_0) (by omega) ?_)
                rw [hg110]
                clear hg110
                intro w109 hS
                replace hS : St w noX M105 [.box b108 cs110 31, .box b10 cs21 31, .box b4 cx1 24] w109 := hS
                refine ⟨fun h => Bool.noConfusion (show false = true from h), ?_⟩
                refine WB_y (i := 14) rfl (by kernel_rfl) rfl (Y_assign (v105_1) rfl) (fun h => Bool.noConfusion (show false = true from h)) ?_
                refine WB_y (i := 15) rfl (by kernel_rfl) rfl (Y_assign (.int .i64 r106.2.2) rfl) (fun h => Bool.noConfusion (show false = true from h)) ?_
                refine WB_done (by kernel_rfl) (nm_then ?_)
                exact ⟨M105, b108, cs110, d111, r106.2.2, hF96, hS, hb110, hb108, rfl, hT33_1, hT33_2, hT33_5, hT33_8, hT33_9, hT33_10, rfl, hz⟩
              · intro b108 w107 hb108 hS
                replace hS : St w noX M32 [.box b108 (Zr.zc GCase) 31, .box b10 cs21 31, .box b4 cx1 24] w107 := hS
                have zb108 : rep M32 (Zr.zc GCase) (Zr.zd : GCase) := Zr.zr
                have hR114 : Rd M32 [.box b10 cs21 31, .box b4 cx1 24] w107 := Rd.of hS hG98 (by simp)
                refine ⟨fun _ => hR114, ?_⟩
                refine WB_one (i := 7) (by kernel_rfl) rfl (O_mem (vs := [.agg (sl cs21 (0) 24).toArray, .int .i64 x1.id, .agg (sl p101 (o101 + Int.toNat y26 * 7) 7).toArray]) (rv := (fun M' u => ∃ c0 v1, u = .tuple #[.agg c0.toArray, v1, .int .i64 r106.2.2] ∧ rep M' c0 r106.1 ∧ repL M' v1 r106.2.1)) cb12 (args3 rfl rfl rfl) hS (postTake_ok hS.agree ha100 ha103 hr105) ?_)
                intro u105 M105 w104 hx105 hu105 hS
                obtain ⟨c105_0, v105_1, hq105, f105_0, f105_1⟩ := hu105
                subst hq105
                replace hcx1 := Rep.mono hx105.1 hcx1
                replace hvx2 := repL.mono hx105.1 hvx2
                replace hb21 := Rep.mono hx105.1 hb21
                replace hv24 := repL.mono hx105.1 hv24
                replace ha100 := Rep.mono hx105.1 ha100
                replace ha103 := Rep.mono hx105.1 ha103
                replace zb108 := Rep.mono hx105.1 zb108
                replace hE := Mm.ext.trans hE hx105
                replace hF29 := Mm.ext.trans hF29 hx105
                replace hF44 := Mm.ext.trans hF44 hx105
                replace hF83 := Mm.ext.trans hF83 hx105
                replace hF96 := Mm.ext.trans hF96 hx105
                replace hG98 := Mm.ext.trans hG98 hx105
                have hR115 : Rd M32 [.box b10 cs21 31, .box b4 cx1 24] w104 := Rd.of hS hG98 (by simp)
                refine ⟨fun _ => hR115, ?_⟩
                refine WB_y (i := 8) rfl (by kernel_rfl) rfl (Y_move (.tuple #[.agg c105_0.toArray, v105_1, .int .i64 r106.2.2]) rfl) (fun _ => hR115) ?_
                refine WB_y (i := 9) rfl (by kernel_rfl) rfl (Y_extract (v := .agg c105_0.toArray) rfl rfl) (fun _ => hR115) ?_
                refine WB_y (i := 10) rfl (by kernel_rfl) rfl (Y_extract (v := v105_1) rfl rfl) (fun _ => hR115) ?_
                refine WB_y (i := 11) rfl (by kernel_rfl) rfl (Y_extract (v := .int .i64 r106.2.2) rfl rfl) (fun _ => hR115) ?_
                have hw110 : (c105_0 : List Value).length = 24 := Rep.len f105_0
                have hl110 : ((Zr.zc GCase)).length = 24 := Rep.len zb108
                have hb110 : rep M105 (pt (Zr.zc GCase) (0) c105_0) d111 := rep_eq (rep_whole (k := 24) (by rw [pt_length (by omega)]; exact hl110) (rep_leaf rfl f105_0 (by omega))) hd110
                generalize hg110 : (pt (Zr.zc GCase) (0) c105_0) = cs110 at hb110
                refine WB_one (i := 13) (by kernel_rfl) rfl (O_st (j := 0) (v := .agg c105_0.toArray) (ws := c105_0) hS rfl (by kernel_rfl) rfl rfl rfl hw110 (Rep.one f105_0) (by omega) ?_)
                rw [hg110]
                clear hg110
                intro w109 hS
                replace hS : St w noX M105 [.box b108 cs110 31, .box b10 cs21 31, .box b4 cx1 24] w109 := hS
                refine ⟨fun h => Bool.noConfusion (show false = true from h), ?_⟩
                refine WB_y (i := 14) rfl (by kernel_rfl) rfl (Y_assign (v105_1) rfl) (fun h => Bool.noConfusion (show false = true from h)) ?_
                refine WB_y (i := 15) rfl (by kernel_rfl) rfl (Y_assign (.int .i64 r106.2.2) rfl) (fun h => Bool.noConfusion (show false = true from h)) ?_
                refine WB_done (by kernel_rfl) (nm_then ?_)
                exact ⟨M105, b108, cs110, d111, r106.2.2, hF96, hS, hb110, hb108, rfl, hT33_1, hT33_2, hT33_5, hT33_8, hT33_9, hT33_10, rfl, hz⟩
            · rintro T86 w84 ⟨M85, b87, cs87, d88, y89, hx90, hS, hb87, hs87, hT86_11, hT86_1, hT86_2, hT86_5, hT86_8, hT86_9, hT86_10, hT86_13, hz⟩
              replace hcx1 := Rep.mono hx90.1 hcx1
              replace hvx2 := repL.mono hx90.1 hvx2
              replace hb21 := Rep.mono hx90.1 hb21
              replace hv24 := repL.mono hx90.1 hv24
              replace hE := Mm.ext.trans hE hx90
              replace hF29 := Mm.ext.trans hF29 hx90
              replace hF44 := Mm.ext.trans hF44 hx90
              replace hF83 := Mm.ext.trans hF83 hx90
              rw [postResults_j7] at hz
              refine W_seq ?_
              refine W_reg ?_
              refine WL_y (Y_move (.int .i64 y89) hT86_13) ?_
              refine WL_y (Y_eql rfl rfl) ?_
              refine WL_nil (nm_then ?_)
              refine W_cond rfl (fun hc91 => ?_) (fun hc91 => ?_)
              · replace hz := bif_ok_t hz hc91
                refine W_reg ?_
                have ha92 := (rep_root (k := 24) rfl hb87)
                refine WL_y (Y_ldn ta31 hT86_11 (hS.bvB 0 rfl) (Rep.len ha92)) ?_
                have hw94 : ((sl cs87 (0) 24) : List Value).length = 24 := Rep.len ha92
                have hl94 : (cs21).length = 24 := Rep.len hb21
                obtain ⟨d95, hd94, hz⟩ := bind_ok hz
                have hb94 : rep M85 (pt cs21 (0) (sl cs87 (0) 24)) d95 := rep_eq (rep_whole (k := 24) (by rw [pt_length (by omega)]; exact hl94) (rep_leaf rfl ha92 (by omega))) hd94
                generalize hg94 : (pt cs21 (0) (sl cs87 (0) 24)) = cs94 at hb94
                refine WL_c (O_st (j := 1) (v := .agg (sl cs87 (0) 24).toArray) (ws := (sl cs87 (0) 24)) hS rfl (by kernel_rfl) hT86_5 rfl rfl hw94 (Rep.one ha92) (by omega) ?_)
                rw [hg94]
                clear hg94
                intro w93 hS
                replace hS : St w noX M85 [.box b87 cs87 31, .box b10 cs94 31, .box b4 cx1 24] w93 := hS
                refine WL_nil (nm_then ?_)
                exact ⟨M85, cs94, d95, hF83, (St.dropB hS hs87), hb94, hT86_1, hT86_2, hT86_5, hT86_8, hT86_9, hT86_10, hz⟩
              · replace hz := bif_ok_f hz hc91
                refine W_skip (nm_then ?_)
                exact ⟨M85, cs21, d22, hF83, (St.dropB hS hs87), hb21, hT86_1, hT86_2, hT86_5, hT86_8, hT86_9, hT86_10, hz⟩
          · rintro T47 w45 ⟨M46, cs48, d49, hx50, hS, hb48, hT47_1, hT47_2, hT47_5, hT47_8, hT47_9, hT47_10, hz⟩
            replace hcx1 := Rep.mono hx50.1 hcx1
            replace hvx2 := repL.mono hx50.1 hvx2
            replace hv24 := repL.mono hx50.1 hv24
            replace hE := Mm.ext.trans hE hx50
            replace hF29 := Mm.ext.trans hF29 hx50
            replace hF44 := Mm.ext.trans hF44 hx50
            rw [postResults_j4] at hz
            refine W_seq ?_
            refine W_reg ?_
            have ha51 := (rep_root (k := 24) rfl hb48)
            refine WL_y (Y_ldn ta31 hT47_5 (hS.bvB 0 rfl) (Rep.len ha51)) ?_
            obtain ⟨r54, hr53, hz⟩ := bind_ok hz
            refine WL_c (O_mem (vs := [.agg (sl cs48 (0) 24).toArray]) (rv := (fun M' u => ∃ v0, u = .tuple #[v0, .bool r54.2] ∧ repL M' v0 r54.1)) cb13 (args1 rfl) hS (postResult_ok hS.agree ha51 hr53) ?_)
            intro u53 M53 w52 hx53 hu53 hS
            obtain ⟨v53_0, hq53, f53_0⟩ := hu53
            subst hq53
            replace hcx1 := Rep.mono hx53.1 hcx1
            replace hvx2 := repL.mono hx53.1 hvx2
            replace hv24 := repL.mono hx53.1 hv24
            replace hb48 := Rep.mono hx53.1 hb48
            replace ha51 := Rep.mono hx53.1 ha51
            replace hE := Mm.ext.trans hE hx53
            replace hF29 := Mm.ext.trans hF29 hx53
            replace hF44 := Mm.ext.trans hF44 hx53
            refine WL_y (Y_move (.tuple #[v53_0, .bool r54.2]) rfl) ?_
            refine WL_y (Y_extract (v := v53_0) rfl rfl) ?_
            refine WL_y (Y_extract (v := .bool r54.2) rfl rfl) ?_
            refine WL_y (Y_assign (v53_0) rfl) ?_
            refine WL_y (Y_assign (.bool r54.2) rfl) ?_
            refine WL_nil (nm_then ?_)
            refine W_seqJ (fun T' w' => ∃ M56, Mm.ext w.heap.size noX M53 M56 ∧ St w noX M56 [.box b10 cs48 31, .box b4 cx1 24] w' ∧ T' 1 = vx2 ∧ T' 2 = .pointer (some ⟨b4, 0, none⟩) ∧ T' 5 = .pointer (some ⟨b10, 0, none⟩) ∧ T' 10 = .int .i64 y26 ∧ T' 14 = v53_0 ∧ T' 15 = .bool r54.2 ∧ postResults_j5 y26 rec27 d49 r54 = some r) ?_ ?_
            · have hF59 := Mm.ext.refl w.heap.size noX M53
              refine W_seqJ (fun T' w' => ∃ M61 c63, Mm.ext w.heap.size noX M53 M61 ∧ St w noX M61 [.box b10 cs48 31, .box b4 cx1 24] w' ∧ T' 1 = vx2 ∧ T' 2 = .pointer (some ⟨b4, 0, none⟩) ∧ T' 5 = .pointer (some ⟨b10, 0, none⟩) ∧ T' 10 = .int .i64 y26 ∧ T' 14 = v53_0 ∧ T' 15 = .bool r54.2 ∧ T' 85 = .bool c63 ∧ postResults_j6 y26 rec27 d49 r54 c63 = some r) ?_ ?_
              · have hF66 := Mm.ext.refl w.heap.size noX M53
                refine W_reg ?_
                refine WL_y (Y_move (.bool c25) hT47_9) ?_
                refine WL_y (Y_move (.bool c25) rfl) ?_
                rcases Bool.eq_false_or_eq_true c25 with hc67 | hc67
                · replace hz := bif_ok_t hz hc67
                  refine WL_gy rfl (bt hc67 rfl) (Y_move (.bool r54.2) rfl) ?_
                  refine WL_gy rfl (bt hc67 rfl) (Y_not rfl) ?_
                  refine WL_gy rfl (bt hc67 rfl) (Y_move (.bool (!r54.2)) rfl) ?_
                  rcases Bool.eq_false_or_eq_true (!r54.2) with hc68 | hc68
                  · replace hz := bif_ok_t hz hc68
                    refine WL_s (j := 4) rfl (bt hc68 rfl) rfl ?_
                    refine WL_s (j := 4) rfl (bt hc68 rfl) rfl ?_
                    refine WL_s (j := 4) rfl (bt hc68 rfl) rfl ?_
                    refine WL_s (j := 4) rfl (bt hc68 rfl) rfl ?_
                    refine WL_gy rfl (bt hc67 rfl) (Y_pick_t (.bool true) (bt hc68 rfl) rfl) ?_
                    refine WL_y (Y_pick_t (.bool true) (bt hc67 rfl) rfl) ?_
                    refine WL_y (Y_move (.bool true) rfl) ?_
                    refine WL_s (j := 11) rfl rfl rfl ?_
                    refine WL_s (j := 11) rfl rfl rfl ?_
                    refine WL_su (j := 13) rfl rfl ?_
                    refine WL_su (j := 13) rfl rfl ?_
                    refine WL_su (j := 13) rfl rfl ?_
                    refine WL_su (j := 13) rfl rfl ?_
                    refine WL_su (j := 13) rfl rfl ?_
                    refine WL_su (j := 13) rfl rfl ?_
                    refine WL_su (j := 13) rfl rfl ?_
                    refine WL_su (j := 20) rfl rfl ?_
                    refine WL_su (j := 20) rfl rfl ?_
                    refine WL_su (j := 20) rfl rfl ?_
                    refine WL_su (j := 13) rfl rfl ?_
                    refine WL_s (j := 11) rfl rfl rfl ?_
                    refine WL_y (Y_pick_t (.bool true) rfl rfl) ?_
                    refine WL_nil (nm_then ?_)
                    exact ⟨M53, true, hF66, hS, hT47_1, hT47_2, hT47_5, hT47_10, rfl, rfl, rfl, hz⟩
                  · replace hz := bif_ok_f hz hc68
                    refine WL_gy rfl (bf hc68 rfl) (Y_move (v53_0) rfl) ?_
                    refine WL_gy rfl (bf hc68 rfl) (Y_move (v24) hT47_8) ?_
                    obtain ⟨r71, hr70, hz⟩ := bind_ok hz
                    refine WL_g rfl (bf hc68 rfl) (O_val (vs := [v53_0, v24]) (v := .bool r71) cb14 (args2 rfl rfl) hS (keepSameNumbers_ok hS.agree f53_0 hv24 hr70) ?_)
                    intro w69 hS
                    refine WL_gy rfl (bf hc68 rfl) (Y_not rfl) ?_
                    refine WL_gy rfl (bt hc67 rfl) (Y_pick_f (.bool (!r71)) (bf hc68 rfl) rfl) ?_
                    refine WL_y (Y_pick_t (.bool (!r71)) (bt hc67 rfl) rfl) ?_
                    refine WL_y (Y_move (.bool (!r71)) rfl) ?_
                    rcases Bool.eq_false_or_eq_true (!r71) with hc72 | hc72
                    · replace hz := bif_ok_t hz hc72
                      refine WL_s (j := 11) rfl (bt hc72 rfl) rfl ?_
                      refine WL_s (j := 11) rfl (bt hc72 rfl) rfl ?_
                      refine WL_su (j := 13) rfl rfl ?_
                      refine WL_su (j := 13) rfl rfl ?_
                      refine WL_su (j := 13) rfl rfl ?_
                      refine WL_su (j := 13) rfl rfl ?_
                      refine WL_su (j := 13) rfl rfl ?_
                      refine WL_su (j := 13) rfl rfl ?_
                      refine WL_su (j := 13) rfl rfl ?_
                      refine WL_su (j := 20) rfl rfl ?_
                      refine WL_su (j := 20) rfl rfl ?_
                      refine WL_su (j := 20) rfl rfl ?_
                      refine WL_su (j := 13) rfl rfl ?_
                      refine WL_s (j := 11) rfl (bt hc72 rfl) rfl ?_
                      refine WL_y (Y_pick_t (.bool true) (bt hc72 rfl) rfl) ?_
                      refine WL_nil (nm_then ?_)
                      exact ⟨M53, true, hF66, hS, hT47_1, hT47_2, hT47_5, hT47_10, rfl, rfl, rfl, hz⟩
                    · replace hz := bif_ok_f hz hc72
                      refine WL_gy rfl (bf hc72 rfl) (Y_move (.bool r54.2) rfl) ?_
                      refine WL_gy rfl (bf hc72 rfl) (Y_move (.bool r54.2) rfl) ?_
                      rcases Bool.eq_false_or_eq_true r54.2 with hc73 | hc73
                      · replace hz := bif_ok_t hz hc73
                        refine WL_gy rfl (bt hc73 rfl) (Y_move (v53_0) rfl) ?_
                        obtain ⟨a74, c74, hv74, _⟩ := repL_shape f53_0
                        refine WL_gy rfl (bt hc73 rfl) (Y_lenL Try.underlying27 (tr2 hv74 rfl)) ?_
                        refine WL_gy rfl (bt hc73 rfl) (Y_fa fa24_1 hT47_2) ?_
                        obtain ⟨v75, ev75, hv75⟩ := (GTxn.p1 (rep_root (k := 2) rfl hcx1))
                        refine WL_gy rfl (bt hc73 rfl) (Y_ld1 v75 ts22 rfl (hS.bvB 1 rfl) ev75) ?_
                        obtain ⟨a76, c76, hv76, _⟩ := repL_shape hv75
                        refine WL_gy rfl (bt hc73 rfl) (Y_lenL Try.underlying22 (tr2 hv76 rfl)) ?_
                        refine WL_gy rfl (bt hc73 rfl) (Y_neq rfl rfl) ?_
                        refine WL_gy rfl (bt hc73 rfl) (Y_move (.bool ((r54.1.length : Int) != (x1.ops.length : Int))) rfl) ?_
                        rcases Bool.eq_false_or_eq_true ((r54.1.length : Int) != (x1.ops.length : Int)) with hc77 | hc77
                        · replace hz := bif_ok_t hz hc77
                          refine WL_s (j := 20) rfl (bt hc77 rfl) rfl ?_
                          refine WL_s (j := 20) rfl (bt hc77 rfl) rfl ?_
                          refine WL_s (j := 20) rfl (bt hc77 rfl) rfl ?_
                          refine WL_gy rfl (bt hc73 rfl) (Y_pick_t (.bool true) (bt hc77 rfl) rfl) ?_
                          refine WL_gy rfl (bf hc72 rfl) (Y_pick_t (.bool true) (bt hc73 rfl) rfl) ?_
                          refine WL_y (Y_pick_f (.bool true) (bf hc72 rfl) rfl) ?_
                          refine WL_nil (nm_then ?_)
                          exact ⟨M53, true, hF66, hS, hT47_1, hT47_2, hT47_5, hT47_10, rfl, rfl, rfl, hz⟩
                        · replace hz := bif_ok_f hz hc77
                          refine WL_gy rfl (bf hc77 rfl) (Y_fa fa31_1 hT47_5) ?_
                          refine WL_gy rfl (bf hc77 rfl) (Y_ld1 (.bool d49.fixed) ts4 rfl (hS.bvB 0 rfl) (GCase.p1 (rep_root (k := 24) rfl hb48))) ?_
                          refine WL_gy rfl (bf hc77 rfl) (Y_not rfl) ?_
                          refine WL_gy rfl (bt hc73 rfl) (Y_pick_f (.bool (!d49.fixed)) (bf hc77 rfl) rfl) ?_
                          refine WL_gy rfl (bf hc72 rfl) (Y_pick_t (.bool (!d49.fixed)) (bt hc73 rfl) rfl) ?_
                          refine WL_y (Y_pick_f (.bool (!d49.fixed)) (bf hc72 rfl) rfl) ?_
                          refine WL_nil (nm_then ?_)
                          exact ⟨M53, (!d49.fixed), hF66, hS, hT47_1, hT47_2, hT47_5, hT47_10, rfl, rfl, rfl, hz⟩
                      · replace hz := bif_ok_f hz hc73
                        refine WL_s (j := 13) rfl (bf hc73 rfl) rfl ?_
                        refine WL_s (j := 13) rfl (bf hc73 rfl) rfl ?_
                        refine WL_s (j := 13) rfl (bf hc73 rfl) rfl ?_
                        refine WL_s (j := 13) rfl (bf hc73 rfl) rfl ?_
                        refine WL_s (j := 13) rfl (bf hc73 rfl) rfl ?_
                        refine WL_s (j := 13) rfl (bf hc73 rfl) rfl ?_
                        refine WL_s (j := 13) rfl (bf hc73 rfl) rfl ?_
                        refine WL_su (j := 20) rfl rfl ?_
                        refine WL_su (j := 20) rfl rfl ?_
                        refine WL_su (j := 20) rfl rfl ?_
                        refine WL_s (j := 13) rfl (bf hc73 rfl) rfl ?_
                        refine WL_gy rfl (bf hc72 rfl) (Y_pick_f (.bool false) (bf hc73 rfl) rfl) ?_
                        refine WL_y (Y_pick_f (.bool false) (bf hc72 rfl) rfl) ?_
                        refine WL_nil (nm_then ?_)
                        exact ⟨M53, false, hF66, hS, hT47_1, hT47_2, hT47_5, hT47_10, rfl, rfl, rfl, hz⟩
                · replace hz := bif_ok_f hz hc67
                  refine WL_s (j := 1) rfl (bf hc67 rfl) rfl ?_
                  refine WL_s (j := 1) rfl (bf hc67 rfl) rfl ?_
                  refine WL_s (j := 1) rfl (bf hc67 rfl) rfl ?_
                  refine WL_su (j := 4) rfl rfl ?_
                  refine WL_su (j := 4) rfl rfl ?_
                  refine WL_su (j := 4) rfl rfl ?_
                  refine WL_su (j := 4) rfl rfl ?_
                  refine WL_s (j := 1) rfl (bf hc67 rfl) rfl ?_
                  refine WL_y (Y_pick_f (.bool false) (bf hc67 rfl) rfl) ?_
                  refine WL_y (Y_move (.bool false) rfl) ?_
                  refine WL_gy rfl rfl (Y_move (.bool r54.2) rfl) ?_
                  refine WL_gy rfl rfl (Y_move (.bool r54.2) rfl) ?_
                  rcases Bool.eq_false_or_eq_true r54.2 with hc78 | hc78
                  · replace hz := bif_ok_t hz hc78
                    refine WL_gy rfl (bt hc78 rfl) (Y_move (v53_0) rfl) ?_
                    obtain ⟨a79, c79, hv79, _⟩ := repL_shape f53_0
                    refine WL_gy rfl (bt hc78 rfl) (Y_lenL Try.underlying27 (tr2 hv79 rfl)) ?_
                    refine WL_gy rfl (bt hc78 rfl) (Y_fa fa24_1 hT47_2) ?_
                    obtain ⟨v80, ev80, hv80⟩ := (GTxn.p1 (rep_root (k := 2) rfl hcx1))
                    refine WL_gy rfl (bt hc78 rfl) (Y_ld1 v80 ts22 rfl (hS.bvB 1 rfl) ev80) ?_
                    obtain ⟨a81, c81, hv81, _⟩ := repL_shape hv80
                    refine WL_gy rfl (bt hc78 rfl) (Y_lenL Try.underlying22 (tr2 hv81 rfl)) ?_
                    refine WL_gy rfl (bt hc78 rfl) (Y_neq rfl rfl) ?_
                    refine WL_gy rfl (bt hc78 rfl) (Y_move (.bool ((r54.1.length : Int) != (x1.ops.length : Int))) rfl) ?_
                    rcases Bool.eq_false_or_eq_true ((r54.1.length : Int) != (x1.ops.length : Int)) with hc82 | hc82
                    · replace hz := bif_ok_t hz hc82
                      refine WL_s (j := 20) rfl (bt hc82 rfl) rfl ?_
                      refine WL_s (j := 20) rfl (bt hc82 rfl) rfl ?_
                      refine WL_s (j := 20) rfl (bt hc82 rfl) rfl ?_
                      refine WL_gy rfl (bt hc78 rfl) (Y_pick_t (.bool true) (bt hc82 rfl) rfl) ?_
                      refine WL_gy rfl rfl (Y_pick_t (.bool true) (bt hc78 rfl) rfl) ?_
                      refine WL_y (Y_pick_f (.bool true) rfl rfl) ?_
                      refine WL_nil (nm_then ?_)
                      exact ⟨M53, true, hF66, hS, hT47_1, hT47_2, hT47_5, hT47_10, rfl, rfl, rfl, hz⟩
                    · replace hz := bif_ok_f hz hc82
                      refine WL_gy rfl (bf hc82 rfl) (Y_fa fa31_1 hT47_5) ?_
                      refine WL_gy rfl (bf hc82 rfl) (Y_ld1 (.bool d49.fixed) ts4 rfl (hS.bvB 0 rfl) (GCase.p1 (rep_root (k := 24) rfl hb48))) ?_
                      refine WL_gy rfl (bf hc82 rfl) (Y_not rfl) ?_
                      refine WL_gy rfl (bt hc78 rfl) (Y_pick_f (.bool (!d49.fixed)) (bf hc82 rfl) rfl) ?_
                      refine WL_gy rfl rfl (Y_pick_t (.bool (!d49.fixed)) (bt hc78 rfl) rfl) ?_
                      refine WL_y (Y_pick_f (.bool (!d49.fixed)) rfl rfl) ?_
                      refine WL_nil (nm_then ?_)
                      exact ⟨M53, (!d49.fixed), hF66, hS, hT47_1, hT47_2, hT47_5, hT47_10, rfl, rfl, rfl, hz⟩
                  · replace hz := bif_ok_f hz hc78
                    refine WL_s (j := 13) rfl (bf hc78 rfl) rfl ?_
                    refine WL_s (j := 13) rfl (bf hc78 rfl) rfl ?_
                    refine WL_s (j := 13) rfl (bf hc78 rfl) rfl ?_
                    refine WL_s (j := 13) rfl (bf hc78 rfl) rfl ?_
                    refine WL_s (j := 13) rfl (bf hc78 rfl) rfl ?_
                    refine WL_s (j := 13) rfl (bf hc78 rfl) rfl ?_
                    refine WL_s (j := 13) rfl (bf hc78 rfl) rfl ?_
                    refine WL_su (j := 20) rfl rfl ?_
                    refine WL_su (j := 20) rfl rfl ?_
                    refine WL_su (j := 20) rfl rfl ?_
                    refine WL_s (j := 13) rfl (bf hc78 rfl) rfl ?_
                    refine WL_gy rfl rfl (Y_pick_f (.bool false) (bf hc78 rfl) rfl) ?_
                    refine WL_y (Y_pick_f (.bool false) rfl rfl) ?_
                    refine WL_nil (nm_then ?_)
                    exact ⟨M53, false, hF66, hS, hT47_1, hT47_2, hT47_5, hT47_10, rfl, rfl, rfl, hz⟩
              · rintro T62 w60 ⟨M61, c63, hx64, hS, hT62_1, hT62_2, hT62_5, hT62_10, hT62_14, hT62_15, hT62_85, hz⟩
                replace hcx1 := Rep.mono hx64.1 hcx1
                replace hvx2 := repL.mono hx64.1 hvx2
                replace hb48 := Rep.mono hx64.1 hb48
                replace f53_0 := repL.mono hx64.1 f53_0
                replace hE := Mm.ext.trans hE hx64
                replace hF29 := Mm.ext.trans hF29 hx64
                replace hF44 := Mm.ext.trans hF44 hx64
                replace hF59 := Mm.ext.trans hF59 hx64
                rw [postResults_j6] at hz
                refine W_cond hT62_85 (fun hc65 => ?_) (fun hc65 => ?_)
                · replace hz := bif_ok_t hz hc65
                  refine W_seq ?_
                  refine W_reg ?_
                  refine WL_y (Y_assign (.bool false) rfl) ?_
                  refine WL_nil (nm_then ?_)
                  cases hz
                  exact W_ret (rt_then (rt_blk (rt_then (rt_then (rt_blk (rt_then (R_t1 rfl rfl ⟨rfl, (St.dropB (St.dropB hS hb10) hb4).kept⟩)))))))
                · replace hz := bif_ok_f hz hc65
                  refine W_skip (nm_then ?_)
                  exact ⟨M61, hF59, hS, hT62_1, hT62_2, hT62_5, hT62_10, hT62_14, hT62_15, hz⟩
            · rintro T57 w55 ⟨M56, hx58, hS, hT57_1, hT57_2, hT57_5, hT57_10, hT57_14, hT57_15, hz⟩
              replace hcx1 := Rep.mono hx58.1 hcx1
              replace hvx2 := repL.mono hx58.1 hvx2
              replace hb48 := Rep.mono hx58.1 hb48
              replace f53_0 := repL.mono hx58.1 f53_0
              replace hE := Mm.ext.trans hE hx58
              replace hF29 := Mm.ext.trans hF29 hx58
              replace hF44 := Mm.ext.trans hF44 hx58
              rw [postResults_j5] at hz
              refine W_reg ?_
              refine WL_y (Y_move (v53_0) hT57_14) ?_
              refine WL_y (Y_move (.bool r54.2) hT57_15) ?_
              refine WL_y (Y_assign (v53_0) rfl) ?_
              refine WL_y (Y_assign (.bool r54.2) rfl) ?_
              refine WL_nil (nm_blk ?_)
              refine (nm_then ?_)
              exact ⟨M56, cs48, d49, v53_0, r54.1, r54.2, hF44, hS, hb48, f53_0, hT57_1, hT57_2, hT57_5, rfl, rfl, hT57_10, hz⟩
        · rintro T37 w35 ⟨M36, cs38, d39, v41, l40, c42, hx43, hS, hb38, hv41, hT37_1, hT37_2, hT37_5, hT37_8, hT37_9, hT37_10, hz⟩
          replace hcx1 := Rep.mono hx43.1 hcx1
          replace hvx2 := repL.mono hx43.1 hvx2
          replace hE := Mm.ext.trans hE hx43
          replace hF29 := Mm.ext.trans hF29 hx43
          rw [postResults_j3] at hz
          refine W_reg ?_
          refine WL_y (Y_move (.int .i64 y26) hT37_10) ?_
          refine WL_y (Y_add rfl rfl) ?_
          refine WL_y (Y_assign (.int .i64 (IntKind.wrap .i64 (y26 + 1))) rfl) ?_
          refine WL_nil (nm_then ?_)
          exact ⟨M36, cs38, d39, v41, l40, c42, (IntKind.wrap .i64 (y26 + 1)), hF29, hS, hb38, hv41, hT37_1, hT37_2, hT37_5, hT37_8, hT37_9, rfl, (by rw [← hrec27]; exact hz)⟩

end Go.Proofs.Ytopgdemmdcipcaa
