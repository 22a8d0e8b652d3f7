/- What the proof of TopEnds rests on, part 7: rules of walks, what functions compute, and plain laws of it. -/
import Derived.Test.YteilffoclpgijaaTopEndsB6
namespace Go.Proofs.Yteilffoclpgijaa
open Go.RowKit
open Rep (rep)
set_option linter.unusedVariables false
abbrev Jz := @clDo_ok
abbrev K0 := @GReply.p0
def alive_j1 (d41 : GCluster) (l44 : List ByteArray) (c47 : Bool) : Option Bool :=
 some c47
def aliveD (fu : Nat) : Option Bool :=
 (clNewD fu).bind fun r3 =>
 (some ({ kind := 2, key := 1, n := 4 } : GOp)).bind fun d6 =>
 (some ({ kind := 1, n := Zr.zd, m := Zr.zd, ops := ([d6] : List GOp) } : GAct)).bind fun d10 =>
 (clDoD fu r3.1 r3.2 d10).bind fun r13 =>
 (some r13.1).bind fun d18 =>
 (some ({ kind := 2, n := 1, m := Zr.zd, ops := Zr.zd } : GAct)).bind fun d20 =>
 (clDoD fu r13.2.1 r13.2.2 d20).bind fun r23 =>
 (some r23.1).bind fun d28 =>
 (clNodeD fu r23.2.1 4).bind fun r31 =>
 (some r31.1).bind fun d36 =>
 (bif d18.code == 0 then
 (bif d28.code == 0 then
 (clNetD fu r23.2.1 r23.2.2).bind fun r54 =>
 (bif (r54.1.length : Int) == 3 then
 (idxV d36.entries 0).bind fun x57 =>
 alive_j1 r23.2.1 r54.2 (x57.state == 1)
 else
 alive_j1 r23.2.1 r54.2 false)
 else
 alive_j1 r23.2.1 r23.2.2 false)
 else
 alive_j1 r23.2.1 r23.2.2 false)
set_option maxRecDepth 100000 in
set_option maxHeartbeats 4000000 in
theorem alive_ok {M : Mm} {w : World} {fu : Nat} {r : Bool} (hA : Agree M w)  (hz : aliveD fu = some r) :
    Calls Try.prog 33 #[] w (GivesV w (.bool r)) := by
 refine Zf Try.func33 rfl 43 rfl rfl (by kernel_rfl) fun T hT => ?_
 clear hT
 have hE := Qg w.heap.size noX M
 have hS : St w noX M [] w := Zq hA
 rw [aliveD] at hz
 refine Qh <|Qi <|Qc (Qk (.bool false) rfl) ?_
 refine Qf (Qa ?_)
 refine Qh <|Qi ?_
 obtain ⟨r3, hr2, hz⟩ := Qb hz
 refine Qt (Zn (vs := []) (L := []) (R := []) (rv := (fun M' u L' => ∃ b0 k0 uP6 xP6, u = .pointer (some ⟨b0, 0, none⟩) ∧ L' = [.box b0 k0 90, .stk uP6 9 1 xP6] ∧ rep M' k0 r3.1 ∧ skr M' uP6 xP6 r3.2 ∧ sl k0 1993 1 = [uP6])) cb41 args0 hS (hS.sel [] (by decide) rfl) (fun hS => clNew_ok hS.agree hr2) ?_)
 rintro u2 M2 w1 L2 hx2 ⟨b0_2, k0_2, uP6_2, xP6_2, rfl, hL2, f2_0, f2_1, f2_2⟩ hS
 replace hS := hS _ hL2
 refine Qc (Qk (.pointer (some ⟨b0_2, 0, none⟩)) rfl) ?_
 refine Qf (Qa ?_)
 refine Qh <|Qh <|Qi <|Qc (Qe (.pointer (some ⟨b0_2, 0, none⟩)) rfl) <|Qc (Jy rfl rfl Y6) ?_
 refine Qf (Qa ?_)
 refine W_cond_f rfl ?_
 refine Qu (Qa ?_)
 refine Qh <|Qi <|Qc (Qe (.pointer (some ⟨b0_2, 0, none⟩)) rfl) ?_
 have k5_0 := GOp.w0 (Zr.zr : rep M2 (Zr.zc GOp) (Zr.zd : GOp)) (ri 2 : rep M2 _ _)
 have k5_1 := GOp.w1 k5_0 (ri 1 : rep M2 _ _)
 have k5_2 := GOp.w2 k5_1 (ri 4 : rep M2 _ _)
 obtain ⟨d6, hd5, hz⟩ := Qb hz
 obtain ⟨cs5, hf5, ha5⟩ : ∃ cs, fillZ (([(0, 1), (1, 1), (2, 1)] : List (Nat × Nat))[·]?) (Zr.zc GOp) [(0, .int .i64 2), (1, .int .i64 1), (2, .int .i64 4)] = some cs ∧ rep M2 cs d6 := ⟨_, (Ze (Zr.zr : rep M2 (Zr.zc GOp) (Zr.zd : GOp)) rfl rfl (Rep.len (ri 2 : rep M2 _ _)) (by decide) (Ze k5_0 rfl rfl (Rep.len (ri 1 : rep M2 _ _)) (by decide) (Ze k5_1 rfl rfl (Rep.len (ri 4 : rep M2 _ _)) (by decide) Z9))), Ya (x := ({ kind := 2, key := 1, n := 4 } : GOp)) k5_2 hd5⟩
 refine Qc (Zx [(0, .int .i64 2), (1, .int .i64 1), (2, .int .i64 4)] tb65 (Yw rfl (Yw rfl (Yw rfl Vj))) hf5) ?_
 refine Qt (Z4 (α := GOp) (l := ([d6] : List GOp)) [.agg cs5.toArray] tl27 (Yw rfl Vj) rfl rfl (by decide) (by decide) (by decide) hS (Ja ha5 Jt) ?_)
 intro v8 M8 w7 hx8 hv8 hS
 replace f2_0 := Rep.mono hx8.1 f2_0
 replace f2_1 := Zd hx8.1 f2_1
 have k9_0 := GAct.w0 (Zr.zr : rep M8 (Zr.zc GAct) (Zr.zd : GAct)) (ri 1 : rep M8 _ _)
 have k9_1 := GAct.w3 k9_0 (Q3 hv8)
 obtain ⟨d10, hd9, hz⟩ := Qb hz
 obtain ⟨cs9, hf9, ha9⟩ : ∃ cs, fillZ (([(0, 1), (1, 1), (2, 1), (3, 1)] : List (Nat × Nat))[·]?) (Zr.zc GAct) [(0, .int .i64 1), (3, v8)] = some cs ∧ rep M8 cs d10 := ⟨_, (Ze (Zr.zr : rep M8 (Zr.zc GAct) (Zr.zd : GAct)) rfl rfl (Rep.len (ri 1 : rep M8 _ _)) (by decide) (Ze k9_0 rfl (Zc hv8) (Rep.len (Q3 hv8)) (by decide) Z9)), Ya (x := ({ kind := 1, n := Zr.zd, m := Zr.zd, ops := ([d6] : List GOp) } : GAct)) k9_1 hd9⟩
 refine Qc (Zx [(0, .int .i64 1), (3, v8)] tb43 (Yw rfl (Yw rfl Vj)) hf9) ?_
 obtain ⟨r13, hr12, hz⟩ := Qb hz
 refine Qt (Zn (vs := [.pointer (some ⟨b0_2, 0, none⟩), .agg cs9.toArray]) (L := [.box b0_2 k0_2 90, .stk uP6_2 9 1 xP6_2]) (R := []) (rv := (fun M' u L' => ∃ c0 k0 u1 x1, u = .agg c0.toArray ∧ L' = [.box b0_2 k0 90, .stk u1 9 1 x1] ∧ rep M' c0 r13.1 ∧ rep M' k0 r13.2.1 ∧ skr M' u1 x1 r13.2.2 ∧ sl k0 1993 1 = [u1])) cb19 (Zy rfl rfl) hS (hS.sel [0, 1] (by decide) rfl) (fun hS => Jz hS f2_0 f2_1 f2_2 ha9 hr12) ?_)
 rintro u12 M12 w11 L12 hx12 ⟨c0_12, k0_12, u1_12, x1_12, rfl, hL12, f12_0, f12_1, f12_2, f12_3⟩ hS
 replace hS := hS _ hL12
 refine Qt (Zk tz40 hS ?_)
 intro b15 w14 hb15 hS
 have zb15 : rep M12 (Zr.zc GReply) (Zr.zd : GReply) := Zr.zr
 obtain ⟨d18, hd17, hz⟩ := Qb hz
 refine Qt (Q7 0 3 hS rfl zb15 rfl rfl f12_0 rfl rfl (Lf (rr zb15) f12_0) hd17 ?_)
 intro cs17 w16 hb17 ha17 hs17 hS
 refine Qf (Qa ?_)
 refine Qh <|Qi <|Qc (Qe (.pointer (some ⟨b0_2, 0, none⟩)) rfl) ?_
 have k19_0 := GAct.w0 (Zr.zr : rep M12 (Zr.zc GAct) (Zr.zd : GAct)) (ri 2 : rep M12 _ _)
 have k19_1 := GAct.w1 k19_0 (ri 1 : rep M12 _ _)
 obtain ⟨d20, hd19, hz⟩ := Qb hz
 obtain ⟨cs19, hf19, ha19⟩ : ∃ cs, fillZ (([(0, 1), (1, 1), (2, 1), (3, 1)] : List (Nat × Nat))[·]?) (Zr.zc GAct) [(0, .int .i64 2), (1, .int .i64 1)] = some cs ∧ rep M12 cs d20 := ⟨_, (Ze (Zr.zr : rep M12 (Zr.zc GAct) (Zr.zd : GAct)) rfl rfl (Rep.len (ri 2 : rep M12 _ _)) (by decide) (Ze k19_0 rfl rfl (Rep.len (ri 1 : rep M12 _ _)) (by decide) Z9)), Ya (x := ({ kind := 2, n := 1, m := Zr.zd, ops := Zr.zd } : GAct)) k19_1 hd19⟩
 refine Qc (Zx [(0, .int .i64 2), (1, .int .i64 1)] tb43 (Yw rfl (Yw rfl Vj)) hf19) ?_
 obtain ⟨r23, hr22, hz⟩ := Qb hz
 refine Qt (Zn (vs := [.pointer (some ⟨b0_2, 0, none⟩), .agg cs19.toArray]) (L := [.box b0_2 k0_12 90, .stk u1_12 9 1 x1_12]) (R := [.box b15 cs17 40]) (rv := (fun M' u L' => ∃ c0 k0 u1 x1, u = .agg c0.toArray ∧ L' = [.box b0_2 k0 90, .stk u1 9 1 x1] ∧ rep M' c0 r23.1 ∧ rep M' k0 r23.2.1 ∧ skr M' u1 x1 r23.2.2 ∧ sl k0 1993 1 = [u1])) cb19 (Zy rfl rfl) hS (hS.sel [1, 2, 0] (by decide) rfl) (fun hS => Jz hS f12_1 f12_2 f12_3 ha19 hr22) ?_)
 rintro u22 M22 w21 L22 hx22 ⟨c0_22, k0_22, u1_22, x1_22, rfl, hL22, f22_0, f22_1, f22_2, f22_3⟩ hS
 replace hS := hS _ hL22
 refine Qt (Zk tz40 hS ?_)
 intro b25 w24 hb25 hS
 have zb25 : rep M22 (Zr.zc GReply) (Zr.zd : GReply) := Zr.zr
 obtain ⟨d28, hd27, hz⟩ := Qb hz
 refine Qt (Q7 0 3 hS rfl zb25 rfl rfl f22_0 rfl rfl (Lf (rr zb25) f22_0) hd27 ?_)
 intro cs27 w26 hb27 ha27 hs27 hS
 refine Qf (Qa ?_)
 refine Qh <|Qi <|Qc (Qe (.pointer (some ⟨b0_2, 0, none⟩)) rfl) ?_
 obtain ⟨r31, hr30, hz⟩ := Qb hz
 refine Qt (Zn (vs := [.pointer (some ⟨b0_2, 0, none⟩), .int .i64 4]) (L := [.box b0_2 k0_22 90]) (R := [.box b25 cs27 40, .stk u1_22 9 1 x1_22, .box b15 cs17 40]) (rv := (fun M' u L' => ∃ c0, u = .tuple #[.agg c0.toArray, .bool r31.2] ∧ L' = [.box b0_2 k0_22 90] ∧ rep M' c0 r31.1)) cb17 (Zy rfl rfl) hS (hS.sel [1, 0, 2, 3] (by decide) rfl) (fun hS => clNode_ok hS f22_1 hr30) ?_)
 rintro u30 M30 w29 L30 hx30 ⟨c0_30, rfl, hL30, f30_0⟩ hS
 replace hS := hS _ hL30
 replace hb17 := Rep.mono (hx22.1.trans hx30.1) hb17
 replace f22_1 := Rep.mono hx30.1 f22_1
 replace f22_2 := Zd hx30.1 f22_2
 replace hb27 := Rep.mono hx30.1 hb27
 refine Qc (Qe (.tuple #[.agg c0_30.toArray, .bool r31.2]) rfl) <|Qc (Q9 (v := .agg c0_30.toArray) rfl rfl) <|Qc (Q9 (v := .bool r31.2) rfl rfl) ?_
 refine Qt (Zk tz34 hS ?_)
 intro b33 w32 hb33 hS
 have zb33 : rep M30 (Zr.zc GNode) (Zr.zd : GNode) := Zr.zr
 obtain ⟨d36, hd35, hz⟩ := Qb hz
 refine Qt (Q7 0 201 hS rfl zb33 rfl rfl f30_0 rfl rfl (Lf (rr zb33) f30_0) hd35 ?_)
 intro cs35 w34 hb35 ha35 hs35 hS
 refine Qc (Qk (.bool r31.2) rfl) ?_
 refine Qf (Qa ?_)
 refine Qz (fun T' w' => ∃ M38 cs40 d41 v42 xs43 l44 c47, Mm.ext w.heap.size noX M30 M38 ∧ St w noX M38 [.box b33 cs35 34, .box b0_2 cs40 90, .box b25 cs27 40, .stk v42 9 1 xs43, .box b15 cs17 40] w' ∧ rep M38 cs40 d41 ∧ skr M38 v42 xs43 l44 ∧ sl cs40 (0 + 1993) 1 = [v42] ∧ T' 0 = .bool c47 ∧ alive_j1 d41 l44 c47 = some r) ?_ ?_
 have hF49 := Qg w.heap.size noX M30
 refine Qi <|Qc (Qp fa40_0 rfl) <|Qc (Ql (.int .i64 d18.code) ts38 rfl (hS.bvB 4 rfl) (K0 (rr hb17))) <|Qc (Yh rfl rfl) <|Qc (Qe (.bool (d18.code == 0)) rfl) ?_
 rcases ic hz with ⟨hc50, hz⟩ | ⟨hc50, hz⟩ <;> rw [hc50]
 refine Qj rfl rfl (Qp fa40_0 rfl) <|Qj rfl rfl (Ql (.int .i64 d28.code) ts38 rfl (hS.bvB 2 rfl) (K0 (rr hb27))) <|Qj rfl rfl (Yh rfl rfl) <|Q1 2 rfl ?_
 rcases ic hz with ⟨hc51, hz⟩ | ⟨hc51, hz⟩ <;> rw [hc51]
 refine Qj rfl rfl (Qe (.pointer (some ⟨b0_2, 0, none⟩)) rfl) ?_
 obtain ⟨r54, hr53, hz⟩ := Qb hz
 refine Vv rfl rfl (Zn (vs := [.pointer (some ⟨b0_2, 0, none⟩)]) (L := [.box b0_2 k0_22 90, .stk u1_22 9 1 x1_22]) (R := [.box b33 cs35 34, .box b25 cs27 40, .box b15 cs17 40]) (rv := (fun M' u L' => ∃ v0 u1 x1, u = v0 ∧ L' = [.box b0_2 k0_22 90, .stk u1 9 1 x1] ∧ repL M' v0 r54.1 ∧ skr M' u1 x1 r54.2 ∧ sl k0_22 1993 1 = [u1])) cb32 (Zw rfl) hS (hS.sel [1, 3, 0, 2, 4] (by decide) rfl) (fun hS => clNet_ok hS f22_1 f22_2 f22_3 hr53) ?_)
 rintro u53 M53 w52 L53 hx53 ⟨v0_53, u1_53, x1_53, rfl, hL53, f53_0, f53_1, f53_2⟩ hS
 replace hS := hS _ hL53
 replace f22_1 := Rep.mono hx53.1 f22_1
 replace hb35 := Rep.mono hx53.1 hb35
 replace hF49 := Qd hF49 hx53
 obtain ⟨a55, c55, hv55, _⟩ := Q2 f53_0
 refine Qj rfl rfl (Zg Yn (Vo hv55 rfl)) <|Qj rfl rfl (Yh rfl rfl) <|Q1 2 rfl ?_
 rcases ic hz with ⟨hc56, hz⟩ | ⟨hc56, hz⟩ <;> rw [hc56]
 refine Qj rfl rfl (Qp V7 rfl) <|Qj rfl rfl (Zh ia31 rfl rfl (by decide) (by decide)) <|Qj rfl rfl (Qp Y5 rfl) ?_
 obtain ⟨x57, hx58, hz⟩ := Qb hz
 refine Qj rfl rfl (Ql (.int .i64 x57.state) Yd rfl (hS.bvB 2 rfl) (Yf (vp (k := 6) rfl rfl (Q5 (rr hb35)) hx58))) <|Qj rfl rfl (Yh rfl rfl) <|Q1 2 rfl ?_
 refine Qf (Qa ?_)
 exact ⟨M53, k0_22, r23.2.1, u1_53, x1_53, r54.2, (x57.state == 1), hF49, (hS.sel (H' := [.box b33 cs35 34, .box b0_2 k0_22 90, .box b25 cs27 40, .stk u1_53 9 1 x1_53, .box b15 cs17 40]) [2, 0, 3, 1, 4] (by decide) rfl), f22_1, f53_1, f53_2, rfl, hz⟩
 refine Q1 7 rfl ?_
 refine Qf (Qa ?_)
 exact ⟨M53, k0_22, r23.2.1, u1_53, x1_53, r54.2, false, hF49, (hS.sel (H' := [.box b33 cs35 34, .box b0_2 k0_22 90, .box b25 cs27 40, .stk u1_53 9 1 x1_53, .box b15 cs17 40]) [2, 0, 3, 1, 4] (by decide) rfl), f22_1, f53_1, f53_2, rfl, hz⟩
 refine Q1 13 rfl ?_
 refine Qf (Qa ?_)
 exact ⟨M30, k0_22, r23.2.1, u1_22, x1_22, r23.2.2, false, hF49, hS, f22_1, f22_2, f22_3, rfl, hz⟩
 refine Q1 18 rfl ?_
 refine Qf (Qa ?_)
 exact ⟨M30, k0_22, r23.2.1, u1_22, x1_22, r23.2.2, false, hF49, hS, f22_1, f22_2, f22_3, rfl, hz⟩
 rintro T39 w37 ⟨M38, cs40, d41, v42, xs43, l44, c47, hx48, hS, hb40, hk45, hp46, hT39_0, hz⟩
 rw [alive_j1] at hz
 cases hz
 exact Q4 (Yg rfl hT39_0 ⟨rfl, (Qm (Qm (Qm (Qm (Qm hS))))).kept⟩)
def quietD (fu : Nat) (x1 : GCluster) (x2 : GAct) (x3 : GReply) : Option Bool :=
 some true
set_option maxRecDepth 100000 in
set_option maxHeartbeats 4000000 in
theorem quiet_ok {M : Mm} {w : World} {bx1 : Nat} {cx1 : List Value} {cx2 : List Value} {cx3 : List Value} {x1 : GCluster} {x2 : GAct} {x3 : GReply} {fu : Nat} {r : Bool} (hS : St w (lentX [.box bx1 cx1 90]) M [.box bx1 cx1 90] w) (hcx1 : rep M cx1 x1) (hcx2 : rep M cx2 x2) (hcx3 : rep M cx3 x3) (hz : quietD fu x1 x2 x3 = some r) :
    Calls Try.prog 16 #[.pointer (some ⟨bx1, 0, none⟩), .agg cx2.toArray, .agg cx3.toArray] w (GivesL M w [.box bx1 cx1 90] (fun M' u L' => u = .bool r ∧ L' = [.box bx1 cx1 90])) := by
 refine Zf Try.func16 rfl 7 rfl rfl (by kernel_rfl) fun T hT => ?_
 have hT_0 : T 0 = .pointer (some ⟨bx1, 0, none⟩) := hT 0
 have hT_1 : T 1 = .agg cx2.toArray := hT 1
 have hT_2 : T 2 = .agg cx3.toArray := hT 2
 clear hT
 have hE := Qg w.heap.size (lentX [.box bx1 cx1 90]) M
 rw [quietD] at hz
 refine Qh <|Qi ?_
 refine Qt (Yl (v := .agg cx2.toArray) (cs := cx2) hT_1 rfl hS ?_)
 intro b5 w4 hb5 hS
 refine Qt (Yl (v := .agg cx3.toArray) (cs := cx3) hT_2 rfl hS ?_)
 intro b7 w6 hb7 hS
 refine Qc (Qk (.bool false) rfl) ?_
 refine Qf (Qa ?_)
 refine Qh <|Qi <|Qc (Qk (.bool true) rfl) ?_
 refine Qf (Qa ?_)
 cases hz
 exact Q4 (Yg rfl rfl ⟨_, M, _, rfl, hE, (hS.sel (H' := [.box bx1 cx1 90]) [2] (by decide) rfl), rfl, rfl⟩)
def playQ_j1 (fu : Nat) (x1 : List GAct) (d14 : GCluster) (l17 : List ByteArray) (y20 : Int) (rec21 : GCluster → (List ByteArray) → Int → Option (GCluster × Bool × (List ByteArray))) : Option (GCluster × Bool × (List ByteArray)) :=
 (idx x1 y20).bind fun x30 =>
 (clDoD fu d14 l17 x30).bind fun r34 =>
 (some r34.1).bind fun d39 =>
 (idx x1 y20).bind fun x44 =>
 (quietD fu r34.2.1 x44 d39).bind fun r50 =>
 (bif !r50 then
 some (r34.2.1, false, r34.2.2)
 else
 rec21 r34.2.1 r34.2.2 (IntKind.wrap .i64 (y20 + 1)))
def playQ_j2 (fu : Nat) (x1 : List GAct) (d14 : GCluster) (l17 : List ByteArray) (y20 : Int) (rec21 : GCluster → (List ByteArray) → Int → Option (GCluster × Bool × (List ByteArray))) (c57 : Bool) : Option (GCluster × Bool × (List ByteArray)) :=
 (bif c57 then
 playQ_j1 fu x1 d14 l17 y20 rec21
 else
 some (d14, true, l17))
def playQ_l1 (fu : Nat) (x1 : List GAct) : Nat → GCluster → (List ByteArray) → Int → Option (GCluster × Bool × (List ByteArray))
 | 0, _, _, _ => none
 | n + 1, d14, l17, y20 =>
 (bif decide (y20 < (x1.length : Int)) then
 playQ_j2 fu x1 d14 l17 y20 (playQ_l1 fu x1 n) (decide (y20 < 150))
 else
 playQ_j2 fu x1 d14 l17 y20 (playQ_l1 fu x1 n) false)
def playQD (fu : Nat) (x1 : List GAct) : Option (GCluster × Bool × (List ByteArray)) :=
 (aliveD fu).bind fun r4 =>
 (bif !r4 then
 none
 else
 (clNewD fu).bind fun r8 =>
 playQ_l1 fu x1 fu r8.1 r8.2 0)
set_option maxRecDepth 100000 in
set_option maxHeartbeats 4000000 in
theorem playQ_ok {M : Mm} {w : World} {vx1 : Value} {x1 : List GAct} {fu : Nat} {r : GCluster × Bool × (List ByteArray)} (hA : Agree M w) (hvx1 : repL M vx1 x1) (hz : playQD fu x1 = some r) :
    Calls Try.prog 15 #[vx1, evT (fun _ => undef) (.func 16)] w (GivesL M w [] (fun M' u L' => ∃ b0 k0 uP6 xP6, u = .tuple #[.pointer (some ⟨b0, 0, none⟩), .bool r.2.1] ∧ L' = [.box b0 k0 90, .stk uP6 9 1 xP6] ∧ rep M' k0 r.1 ∧ skr M' uP6 xP6 r.2.2 ∧ sl k0 1993 1 = [uP6])) := by
 refine Zf Try.func15 rfl 39 rfl rfl (by kernel_rfl) fun T hT => ?_
 have hT_0 : T 0 = vx1 := hT 0
 have hT_1 : T 1 = evT (fun _ => undef) (.func 16) := hT 1
 clear hT
 have hE := Qg w.heap.size (lentX []) M
 have hS : St w (lentX []) M [] w := Zq hA
 rw [playQD] at hz
 refine Qh <|Qi <|Q1 2 rfl ?_
 refine Qf (Qa ?_)
 refine Qh <|Qh <|Qi ?_
 obtain ⟨r4, hr3, hz⟩ := Qb hz
 refine Qt (Z0 (vs := []) (v := .bool r4) cb33 args0 hS (alive_ok hS.agree hr3) ?_)
 intro w2 hS
 refine Qc (Yc rfl) ?_
 refine Qf (Qa ?_)
 refine Qr rfl (fun hc5 => ?_) (fun hc5 => ?_)
 replace hz := Qn hz hc5
 refine Qh <|Qi <|Q1 2 rfl ?_
 refine Qf (Qa ?_)
 cases hz
 replace hz := Qo hz hc5
 refine Qu (Qa ?_)
 refine Qh <|Qi ?_
 obtain ⟨r8, hr7, hz⟩ := Qb hz
 refine Qt (Zn (vs := []) (L := []) (R := []) (rv := (fun M' u L' => ∃ b0 k0 uP6 xP6, u = .pointer (some ⟨b0, 0, none⟩) ∧ L' = [.box b0 k0 90, .stk uP6 9 1 xP6] ∧ rep M' k0 r8.1 ∧ skr M' uP6 xP6 r8.2 ∧ sl k0 1993 1 = [uP6])) cb41 args0 hS (hS.sel [] (by decide) rfl) (fun hS => clNew_ok hS.agree hr7) ?_)
 rintro u7 M7 w6 L7 hx7 ⟨b0_7, k0_7, uP6_7, xP6_7, rfl, hL7, f7_0, f7_1, f7_2⟩ hS
 replace hS := hS _ hL7
 replace hvx1 := Qv hx7.1 hvx1
 replace hE := Qd hE hx7
 refine Qc (Qk (.pointer (some ⟨b0_7, 0, none⟩)) rfl) ?_
 refine Qf (Qa ?_)
 refine Qh <|Qh <|Qi <|Qc (Qk (.int .i64 0) rfl) ?_
 refine Qf (Qa ?_)
 refine Qy ?_
 refine Z1 (fun k22 T' w' => ∃ M11 cs13 d14 v15 xs16 l17 y20, Mm.ext w.heap.size (lentX []) M7 M11 ∧ St w (lentX []) M11 [.box b0_7 cs13 90, .stk v15 9 1 xs16] w' ∧ rep M11 cs13 d14 ∧ skr M11 v15 xs16 l17 ∧ sl cs13 (0 + 1993) 1 = [v15] ∧ T' 0 = vx1 ∧ T' 1 = evT (fun _ => undef) (.func 16) ∧ T' 6 = .pointer (some ⟨b0_7, 0, none⟩) ∧ T' 7 = .int .i64 y20 ∧ playQ_l1 fu x1 k22 d14 l17 y20 = some r) fu ?_ ?_ ?_
 exact ⟨M7, k0_7, r8.1, uP6_7, xP6_7, r8.2, (0 : Int), (Qg _ _ _), hS, f7_0, f7_1, f7_2, hT_0, hT_1, rfl, rfl, hz⟩
 rintro T' w' ⟨_, _, _, _, _, _, _, _, _, _, _, _, _, _, _, _, hz⟩
 rw [playQ_l1] at hz
 cases hz
 intro k22
 rintro T12 w10 ⟨M11, cs13, d14, v15, xs16, l17, y20, hx24, hS, hb13, hk18, hp19, hT12_0, hT12_1, hT12_6, hT12_7, hz⟩
 replace hvx1 := Qv hx24.1 hvx1
 replace hE := Qd hE hx24
 have hF23 := hx24
 rw [playQ_l1] at hz
 obtain ⟨rec21, hrec21⟩ : ∃ f, f = playQ_l1 fu x1 k22 := ⟨_, rfl⟩
 rw [← hrec21] at hz
 refine Qz (fun T' w' => ∃ M26, Mm.ext w.heap.size (lentX []) M11 M26 ∧ St w (lentX []) M26 [.box b0_7 cs13 90, .stk v15 9 1 xs16] w' ∧ T' 0 = vx1 ∧ T' 1 = evT (fun _ => undef) (.func 16) ∧ T' 6 = .pointer (some ⟨b0_7, 0, none⟩) ∧ T' 7 = .int .i64 y20 ∧ playQ_j1 fu x1 d14 l17 y20 rec21 = some r) ?_ ?_
 have hF53 := Qg w.heap.size (lentX []) M11
 refine Qz (fun T' w' => ∃ M55 c57, Mm.ext w.heap.size (lentX []) M11 M55 ∧ St w (lentX []) M55 [.box b0_7 cs13 90, .stk v15 9 1 xs16] w' ∧ T' 0 = vx1 ∧ T' 1 = evT (fun _ => undef) (.func 16) ∧ T' 6 = .pointer (some ⟨b0_7, 0, none⟩) ∧ T' 7 = .int .i64 y20 ∧ T' 19 = .bool c57 ∧ playQ_j2 fu x1 d14 l17 y20 rec21 c57 = some r) ?_ ?_
 have hF60 := Qg w.heap.size (lentX []) M11
 refine Qi <|Qc (Qe (.int .i64 y20) hT12_7) <|Qc (Qe (vx1) hT12_0) ?_
 obtain ⟨a61, c61, hv61, _⟩ := Q2 hvx1
 refine Qc (Zg Try.underlying22 (Vo hv61 rfl)) <|Qc (Zt rfl rfl) <|Qc (Qe (.bool (decide (y20 < (x1.length : Int)))) rfl) ?_
 rcases ic hz with ⟨hc62, hz⟩ | ⟨hc62, hz⟩ <;> rw [hc62]
 refine Qj rfl rfl (Qe (.int .i64 y20) hT12_7) <|Qj rfl rfl (Zt rfl rfl) <|Qc (Z3 (.bool (decide (y20 < 150))) rfl rfl) ?_
 refine Qf (Qa ?_)
 exact ⟨M11, (decide (y20 < 150)), hF60, hS, hT12_0, hT12_1, hT12_6, hT12_7, rfl, hz⟩
 refine Q1 3 rfl ?_
 refine Qf (Qa ?_)
 exact ⟨M11, false, hF60, hS, hT12_0, hT12_1, hT12_6, hT12_7, rfl, hz⟩
 rintro T56 w54 ⟨M55, c57, hx58, hS, hT56_0, hT56_1, hT56_6, hT56_7, hT56_19, hz⟩
 replace hb13 := Rep.mono hx58.1 hb13
 replace hk18 := Zd hx58.1 hk18
 replace hE := Qd hE hx58
 replace hF53 := Qd hF53 hx58
 rw [playQ_j2] at hz
 refine Qr hT56_19 (fun hc59 => ?_) (fun hc59 => ?_)
 replace hz := Qn hz hc59
 refine Qu (Qa ?_)
 exact ⟨M55, hF53, hS, hT56_0, hT56_1, hT56_6, hT56_7, hz⟩
 replace hz := Qo hz hc59
 refine Zu <|Q0 <|Q0 <|Zv ?_
 refine (Qa ?_)
 refine Qh <|Qi <|Qc (Qe (.pointer (some ⟨b0_7, 0, none⟩)) hT56_6) <|Q1 2 rfl ?_
 refine Qf (Qa ?_)
 cases hz
 exact Q4 (R_t2 rfl rfl rfl ⟨_, M55, _, rfl, hE, (hS.sel (H' := [.box b0_7 cs13 90, .stk v15 9 1 xs16]) [0, 1] (by decide) rfl), b0_7, cs13, v15, xs16, rfl, rfl, hb13, hk18, hp19⟩)
 rintro T27 w25 ⟨M26, hx28, hS, hT27_0, hT27_1, hT27_6, hT27_7, hz⟩
 replace hvx1 := Qv hx28.1 hvx1
 replace hb13 := Rep.mono hx28.1 hb13
 replace hk18 := Zd hx28.1 hk18
 rw [playQ_j1] at hz
 refine Qh <|Qy <|Qh <|Qi <|Qc (Qe (.pointer (some ⟨b0_7, 0, none⟩)) hT27_6) <|Qc (Qe (vx1) hT27_0) <|Qc (Qe (.int .i64 y20) hT27_7) ?_
 obtain ⟨x30, hx29, hz⟩ := Qb hz
 obtain ⟨b29, o29, c29, p29, hv29, hi29, hj29, hM29, hr29⟩ := Z6 hvx1 hx29
 replace hr29 : rep _ (sl p29 (o29 + Int.toNat y20 * 4) 4) x30 := hr29
 refine Qc (Yk il22 rfl hv29 rfl hi29 hj29) ?_
 have ha31 := hr29
 refine Qc (Za ta43 rfl (hS.bvM hM29) (Rep.len ha31)) ?_
 obtain ⟨r34, hr33, hz⟩ := Qb hz
 refine Qt (Zn (vs := [.pointer (some ⟨b0_7, 0, none⟩), .agg (sl p29 (o29 + Int.toNat y20 * 4) 4).toArray]) (L := [.box b0_7 cs13 90, .stk v15 9 1 xs16]) (R := []) (rv := (fun M' u L' => ∃ c0 k0 u1 x1, u = .agg c0.toArray ∧ L' = [.box b0_7 k0 90, .stk u1 9 1 x1] ∧ rep M' c0 r34.1 ∧ rep M' k0 r34.2.1 ∧ skr M' u1 x1 r34.2.2 ∧ sl k0 1993 1 = [u1])) cb19 (Zy rfl rfl) hS (hS.sel [0, 1] (by decide) rfl) (fun hS => Jz hS hb13 hk18 hp19 ha31 hr33) ?_)
 rintro u33 M33 w32 L33 hx33 ⟨c0_33, k0_33, u1_33, x1_33, rfl, hL33, f33_0, f33_1, f33_2, f33_3⟩ hS
 replace hS := hS _ hL33
 replace hvx1 := Qv hx33.1 hvx1
 refine Qt (Zk tz40 hS ?_)
 intro b36 w35 hb36 hS
 have zb36 : rep M33 (Zr.zc GReply) (Zr.zd : GReply) := Zr.zr
 obtain ⟨d39, hd38, hz⟩ := Qb hz
 refine Qt (Q7 0 3 hS rfl zb36 rfl rfl f33_0 rfl rfl (Lf (rr zb36) f33_0) hd38 ?_)
 intro cs38 w37 hb38 ha38 hs38 hS
 refine Qf (Qa ?_)
 refine Qh <|Yx [.box b36 cs38 40] [] Yb hS fun w40 hS hG41 hR42 => wy 0 rfl (Qe (evT (fun _ => undef) (.func 16)) hT27_1) (fun _ => hR42) <|wy 1 rfl (Qe (.pointer (some ⟨b0_7, 0, none⟩)) hT27_6) (fun _ => hR42) <|wy 2 rfl (Qe (vx1) hT27_0) (fun _ => hR42) <|wy 3 rfl (Qe (.int .i64 y20) hT27_7) (fun _ => hR42) ?_
 obtain ⟨x44, hx43, hz⟩ := Qb hz
 obtain ⟨b43, o43, c43, p43, hv43, hi43, hj43, hM43, hr43⟩ := Z6 hvx1 hx43
 replace hr43 : rep _ (sl p43 (o43 + Int.toNat y20 * 4) 4) x44 := hr43
 refine wy 4 rfl (Yk il22 rfl hv43 rfl hi43 hj43) (fun _ => hR42) ?_
 have ha45 := hr43
 refine Va 5 rfl (Za ta43 rfl (bvRM hM43) (Rep.len ha45)) hR42 ?_
 have ha46 := (rr hb38)
 refine Va 6 rfl (Za Ks rfl (Yu 0 rfl) (Rep.len ha46)) hR42 ?_
 obtain ⟨r50, hr49, hz⟩ := Qb hz
 refine w1 7 rfl (OW_fn rfl (Zn (vs := [.pointer (some ⟨b0_7, 0, none⟩), .agg (sl p43 (o43 + Int.toNat y20 * 4) 4).toArray, .agg (sl cs38 (0) 3).toArray]) (L := [.box b0_7 k0_33 90]) (R := [.box b36 cs38 40, .stk u1_33 9 1 x1_33]) (rv := (fun M' u L' => u = .bool r50 ∧ L' = [.box b0_7 k0_33 90])) cb16 (Js rfl rfl rfl) hS (hS.sel [1, 0, 2] (by decide) rfl) (fun hS => quiet_ok hS f33_1 ha45 ha46 hr49)) ?_)
 rintro u49 M49 w48 L49 hx49 ⟨rfl, hL49⟩ hS
 replace hS := hS _ hL49
 replace f33_1 := Rep.mono hx49.1 f33_1
 replace f33_2 := Zd hx49.1 f33_2
 replace hE := Qd hE (hx28.trans (hx33.trans hx49))
 replace hF23 := Qd hF23 (hx28.trans (hx33.trans hx49))
 replace hG41 := Qd hG41 hx49
 refine Ys hS hG41 fun hR51 => wy 8 rfl (Yc rfl) (fun _ => hR51) ?_
 refine wd (Qa ?_)
 refine Qr rfl (fun hc52 => ?_) (fun hc52 => ?_)
 replace hz := Qn hz hc52
 refine Qh <|Qi <|Qc (Qe (.pointer (some ⟨b0_7, 0, none⟩)) hT27_6) <|Q1 2 rfl ?_
 refine Qf (Qa ?_)
 cases hz
 exact Q4 (Zb (Qq (Qq (Zb (Qq (R_t2 rfl rfl rfl ⟨_, M49, _, rfl, hE, (hS.sel (H' := [.box b0_7 k0_33 90, .stk u1_33 9 1 x1_33]) [0, 2] (by decide) rfl), b0_7, k0_33, u1_33, x1_33, rfl, rfl, f33_1, f33_2, f33_3⟩))))))
 replace hz := Qo hz hc52
 refine Qu (Q8 ?_)
 refine (Qa ?_)
 refine Qi <|Qc (Qe (.int .i64 y20) hT27_7) <|Qc (Z2 rfl rfl) <|Qc (Qk (.int .i64 (IntKind.wrap .i64 (y20 + 1))) rfl) ?_
 refine Qf (Qa ?_)
 exact ⟨M49, k0_33, r34.2.1, u1_33, x1_33, r34.2.2, (IntKind.wrap .i64 (y20 + 1)), hF23, (hS.sel (H' := [.box b0_7 k0_33 90, .stk u1_33 9 1 x1_33]) [0, 2] (by decide) rfl), f33_1, f33_2, f33_3, hT27_0, hT27_1, hT27_6, rfl, (by rw [← hrec21]; exact hz)⟩
def topSameNumbers_l1 (x1 : List Int) (x2 : List Int) : Nat → Int → Option Bool
 | 0, _ => none
 | n + 1, y10 =>
 (bif decide (y10 < (x1.length : Int)) then
 (idx x1 y10).bind fun x17 =>
 (idx x2 y10).bind fun x19 =>
 (bif x17 != x19 then
 some false
 else
 (topSameNumbers_l1 x1 x2 n) (IntKind.wrap .i64 (y10 + 1)))
 else
 some true)
def topSameNumbersD (fu : Nat) (x1 : List Int) (x2 : List Int) : Option Bool :=
 (bif (x1.length : Int) != (x2.length : Int) then
 some false
 else
 topSameNumbers_l1 x1 x2 fu 0)
set_option maxRecDepth 100000 in
set_option maxHeartbeats 4000000 in
theorem topSameNumbers_ok {M : Mm} {w : World} {vx1 : Value} {vx2 : Value} {x1 : List Int} {x2 : List Int} {fu : Nat} {r : Bool} (hA : Agree M w) (hvx1 : repL M vx1 x1) (hvx2 : repL M vx2 x2) (hz : topSameNumbersD fu x1 x2 = some r) :
    Calls Try.prog 29 #[vx1, vx2] w (GivesV w (.bool r)) := by
 refine Zf Try.func29 rfl 26 rfl rfl (by kernel_rfl) fun T hT => ?_
 have hT_0 : T 0 = vx1 := hT 0
 have hT_1 : T 1 = vx2 := hT 1
 clear hT
 have hE := Qg w.heap.size noX M
 have hS : St w noX M [] w := Zq hA
 rw [topSameNumbersD] at hz
 refine Qh <|Qi <|Qc (Qk (.bool false) rfl) ?_
 refine Qf (Qa ?_)
 refine Qh <|Qh <|Qi <|Qc (Qe (vx1) hT_0) ?_
 obtain ⟨a3, c3, hv3, _⟩ := Q2 hvx1
 refine Qc (Zg Qs (Vo hv3 rfl)) <|Qc (Qe (vx2) hT_1) ?_
 obtain ⟨a4, c4, hv4, _⟩ := Q2 hvx2
 refine Qc (Zg Qs (Vo hv4 rfl)) <|Qc (Yj rfl rfl) ?_
 refine Qf (Qa ?_)
 refine Qr rfl (fun hc5 => ?_) (fun hc5 => ?_)
 replace hz := Qn hz hc5
 refine Qh <|Qi <|Qc (Qk (.bool false) rfl) ?_
 refine Qf (Qa ?_)
 cases hz
 exact Q4 (Qq (Yg rfl rfl ⟨rfl, hS.kept⟩))
 replace hz := Qo hz hc5
 refine Qu (Qa ?_)
 refine Qh <|Qh <|Qi <|Qc (Qe (vx1) hT_0) ?_
 obtain ⟨a6, c6, hv6, _⟩ := Q2 hvx1
 refine Qc (Zg Qs (Vo hv6 rfl)) <|Qc (Qe (.int .i64 0) rfl) ?_
 refine Qf (Qa ?_)
 refine Qy ?_
 refine Z1 (fun k12 T' w' => ∃ M8 y10, Mm.ext w.heap.size noX M M8 ∧ St w noX M8 [] w' ∧ T' 0 = vx1 ∧ T' 1 = vx2 ∧ T' 12 = .int .i64 (x1.length : Int) ∧ T' 13 = .int .i64 y10 ∧ topSameNumbers_l1 x1 x2 k12 y10 = some r) fu ?_ ?_ ?_
 exact ⟨M, (0 : Int), (Qg _ _ _), hS, hT_0, hT_1, rfl, rfl, hz⟩
 rintro T' w' ⟨_, _, _, _, _, _, _, _, hz⟩
 rw [topSameNumbers_l1] at hz
 cases hz
 intro k12
 rintro T9 w7 ⟨M8, y10, hx14, hS, hT9_0, hT9_1, hT9_12, hT9_13, hz⟩
 replace hvx1 := Qv hx14.1 hvx1
 replace hvx2 := Qv hx14.1 hvx2
 have hF13 := hx14
 rw [topSameNumbers_l1] at hz
 obtain ⟨rec11, hrec11⟩ : ∃ f, f = topSameNumbers_l1 x1 x2 k12 := ⟨_, rfl⟩
 rw [← hrec11] at hz
 refine Qh <|Qi <|Qc (Zt hT9_13 hT9_12) ?_
 refine Qf (Qa ?_)
 refine Qh ?_
 refine Qr rfl (fun hc15 => ?_) (fun hc15 => ?_)
 replace hz := Qn hz hc15
 refine Qu (Qa ?_)
 refine Qh <|Qy <|Qh <|Qi <|Qc (Qe (.int .i64 y10) hT9_13) <|Qc (Qk (.int .i64 y10) rfl) ?_
 refine Qf (Qa ?_)
 refine Qh <|K4 Yb (by kernel_rfl) hS <|Z7 (Qe (vx1) hT9_0) <|Z7 (Qe (.int .i64 y10) rfl) ?_
 obtain ⟨x17, hx16, hz⟩ := Qb hz
 obtain ⟨b16, o16, c16, p16, hv16, hi16, hj16, hM16, hr16⟩ := Z6 hvx1 hx16
 replace hr16 : rep _ (sl p16 (o16 + Int.toNat y10 * 1) 1) x17 := hr16
 refine Z7 (Yk V6 rfl hv16 rfl hi16 hj16) <|Z7 (Ql (.int .i64 x17) Yd rfl (bvMS hM16) hr16) <|Z7 (Qe (vx2) hT9_1) <|Z7 (Qe (.int .i64 y10) rfl) ?_
 obtain ⟨x19, hx18, hz⟩ := Qb hz
 obtain ⟨b18, o18, c18, p18, hv18, hi18, hj18, hM18, hr18⟩ := Z6 hvx2 hx18
 replace hr18 : rep _ (sl p18 (o18 + Int.toNat y10 * 1) 1) x19 := hr18
 refine Z7 (Yk V6 rfl hv18 rfl hi18 hj18) <|Z7 (Ql (.int .i64 x19) Yd rfl (bvMS hM18) hr18) <|Z7 (Yj rfl rfl) <|Jv ?_
 intro w20 hS
 refine (Qa ?_)
 refine Qr rfl (fun hc21 => ?_) (fun hc21 => ?_)
 replace hz := Qn hz hc21
 refine Qh <|Qi <|Qc (Qk (.bool false) rfl) ?_
 refine Qf (Qa ?_)
 cases hz
 exact Q4 (Zb (Qq (Qq (Zb (Qq (Yg rfl rfl ⟨rfl, hS.kept⟩))))))
 replace hz := Qo hz hc21
 refine Qu (Q8 ?_)
 refine (Qa ?_)
 refine Qi <|Qc (Z2 hT9_13 rfl) <|Qc (Qe (.int .i64 (IntKind.wrap .i64 (y10 + 1))) rfl) ?_
 refine Qf (Qa ?_)
 exact ⟨M8, (IntKind.wrap .i64 (y10 + 1)), hF13, hS, hT9_0, hT9_1, hT9_12, rfl, (by rw [← hrec11]; exact hz)⟩
 replace hz := Qo hz hc15
 refine Zu <|Q0 <|Q0 <|Zv ?_
 refine (Qa ?_)
 refine Qh <|Qi <|Qc (Qk (.bool true) rfl) ?_
 refine Qf (Qa ?_)
 cases hz
 exact Q4 (Yg rfl rfl ⟨rfl, hS.kept⟩)
def topSameTexts_l1 (x1 : List ByteArray) (x2 : List ByteArray) : Nat → Int → Option Bool
 | 0, _ => none
 | n + 1, y10 =>
 (bif decide (y10 < (x1.length : Int)) then
 (idx x1 y10).bind fun x17 =>
 (idx x2 y10).bind fun x19 =>
 (bif !(x17.toList == x19.toList) then
 some false
 else
 (topSameTexts_l1 x1 x2 n) (IntKind.wrap .i64 (y10 + 1)))
 else
 some true)
def topSameTextsD (fu : Nat) (x1 : List ByteArray) (x2 : List ByteArray) : Option Bool :=
 (bif (x1.length : Int) != (x2.length : Int) then
 some false
 else
 topSameTexts_l1 x1 x2 fu 0)
set_option maxRecDepth 100000 in
set_option maxHeartbeats 4000000 in
theorem topSameTexts_ok {M : Mm} {w : World} {vx1 : Value} {vx2 : Value} {x1 : List ByteArray} {x2 : List ByteArray} {fu : Nat} {r : Bool} (hA : Agree M w) (hvx1 : repL M vx1 x1) (hvx2 : repL M vx2 x2) (hz : topSameTextsD fu x1 x2 = some r) :
    Calls Try.prog 64 #[vx1, vx2] w (GivesV w (.bool r)) := by
 refine Zf Try.func64 rfl 26 rfl rfl (by kernel_rfl) fun T hT => ?_
 have hT_0 : T 0 = vx1 := hT 0
 have hT_1 : T 1 = vx2 := hT 1
 clear hT
 have hE := Qg w.heap.size noX M
 have hS : St w noX M [] w := Zq hA
 rw [topSameTextsD] at hz
 refine Qh <|Qi <|Qc (Qk (.bool false) rfl) ?_
 refine Qf (Qa ?_)
 refine Qh <|Qh <|Qi <|Qc (Qe (vx1) hT_0) ?_
 obtain ⟨a3, c3, hv3, _⟩ := Q2 hvx1
 refine Qc (Zg Yn (Vo hv3 rfl)) <|Qc (Qe (vx2) hT_1) ?_
 obtain ⟨a4, c4, hv4, _⟩ := Q2 hvx2
 refine Qc (Zg Yn (Vo hv4 rfl)) <|Qc (Yj rfl rfl) ?_
 refine Qf (Qa ?_)
 refine Qr rfl (fun hc5 => ?_) (fun hc5 => ?_)
 replace hz := Qn hz hc5
 refine Qh <|Qi <|Qc (Qk (.bool false) rfl) ?_
 refine Qf (Qa ?_)
 cases hz
 exact Q4 (Qq (Yg rfl rfl ⟨rfl, hS.kept⟩))
 replace hz := Qo hz hc5
 refine Qu (Qa ?_)
 refine Qh <|Qh <|Qi <|Qc (Qe (vx1) hT_0) ?_
 obtain ⟨a6, c6, hv6, _⟩ := Q2 hvx1
 refine Qc (Zg Yn (Vo hv6 rfl)) <|Qc (Qe (.int .i64 0) rfl) ?_
 refine Qf (Qa ?_)
 refine Qy ?_
 refine Z1 (fun k12 T' w' => ∃ M8 y10, Mm.ext w.heap.size noX M M8 ∧ St w noX M8 [] w' ∧ T' 0 = vx1 ∧ T' 1 = vx2 ∧ T' 12 = .int .i64 (x1.length : Int) ∧ T' 13 = .int .i64 y10 ∧ topSameTexts_l1 x1 x2 k12 y10 = some r) fu ?_ ?_ ?_
 exact ⟨M, (0 : Int), (Qg _ _ _), hS, hT_0, hT_1, rfl, rfl, hz⟩
 rintro T' w' ⟨_, _, _, _, _, _, _, _, hz⟩
 rw [topSameTexts_l1] at hz
 cases hz
 intro k12
 rintro T9 w7 ⟨M8, y10, hx14, hS, hT9_0, hT9_1, hT9_12, hT9_13, hz⟩
 replace hvx1 := Qv hx14.1 hvx1
 replace hvx2 := Qv hx14.1 hvx2
 have hF13 := hx14
 rw [topSameTexts_l1] at hz
 obtain ⟨rec11, hrec11⟩ : ∃ f, f = topSameTexts_l1 x1 x2 k12 := ⟨_, rfl⟩
 rw [← hrec11] at hz
 refine Qh <|Qi <|Qc (Zt hT9_13 hT9_12) ?_
 refine Qf (Qa ?_)
 refine Qh ?_
 refine Qr rfl (fun hc15 => ?_) (fun hc15 => ?_)
 replace hz := Qn hz hc15
 refine Qu (Qa ?_)
 refine Qh <|Qy <|Qh <|Qi <|Qc (Qe (.int .i64 y10) hT9_13) <|Qc (Qk (.int .i64 y10) rfl) ?_
 refine Qf (Qa ?_)
 refine Qh <|K4 Yb (by kernel_rfl) hS <|Z7 (Qe (vx1) hT9_0) <|Z7 (Qe (.int .i64 y10) rfl) ?_
 obtain ⟨x17, hx16, hz⟩ := Qb hz
 obtain ⟨b16, o16, c16, p16, hv16, hi16, hj16, hM16, hr16⟩ := Z6 hvx1 hx16
 replace hr16 : rep _ (sl p16 (o16 + Int.toNat y10 * 1) 1) x17 := hr16
 refine Z7 (Yk il72 rfl hv16 rfl hi16 hj16) <|Z7 (Ql (.string x17) ts9 rfl (bvMS hM16) hr16.1) <|Z7 (Qe (vx2) hT9_1) <|Z7 (Qe (.int .i64 y10) rfl) ?_
 obtain ⟨x19, hx18, hz⟩ := Qb hz
 obtain ⟨b18, o18, c18, p18, hv18, hi18, hj18, hM18, hr18⟩ := Z6 hvx2 hx18
 replace hr18 : rep _ (sl p18 (o18 + Int.toNat y10 * 1) 1) x19 := hr18
 refine Z7 (Yk il72 rfl hv18 rfl hi18 hj18) <|Z7 (Ql (.string x19) ts9 rfl (bvMS hM18) hr18.1) <|Z7 (Y_neS rfl rfl) <|Jv ?_
 intro w20 hS
 refine (Qa ?_)
 refine Qr rfl (fun hc21 => ?_) (fun hc21 => ?_)
 replace hz := Qn hz hc21
 refine Qh <|Qi <|Qc (Qk (.bool false) rfl) ?_
 refine Qf (Qa ?_)
 cases hz
 exact Q4 (Zb (Qq (Qq (Zb (Qq (Yg rfl rfl ⟨rfl, hS.kept⟩))))))
 replace hz := Qo hz hc21
 refine Qu (Q8 ?_)
 refine (Qa ?_)
 refine Qi <|Qc (Z2 hT9_13 rfl) <|Qc (Qe (.int .i64 (IntKind.wrap .i64 (y10 + 1))) rfl) ?_
 refine Qf (Qa ?_)
 exact ⟨M8, (IntKind.wrap .i64 (y10 + 1)), hF13, hS, hT9_0, hT9_1, hT9_12, rfl, (by rw [← hrec11]; exact hz)⟩
 replace hz := Qo hz hc15
 refine Zu <|Q0 <|Q0 <|Zv ?_
 refine (Qa ?_)
 refine Qh <|Qi <|Qc (Qk (.bool true) rfl) ?_
 refine Qf (Qa ?_)
 cases hz
 exact Q4 (Yg rfl rfl ⟨rfl, hS.kept⟩)
def topSameNode_j1 (y10 : Int) (rec11 : Int → Option Bool) : Option Bool :=
 rec11 (IntKind.wrap .i64 (y10 + 1))
def topSameNode_l2 (y10 : Int) (rec11 : Int → Option Bool) (d25 : GEntry) (d27 : GEntry) : Nat → Int → Option Bool
 | 0, _ => none
 | n + 1, y38 =>
 (bif decide (y38 < (d25.ops.length : Int)) then
 (idx d25.ops y38).bind fun x46 =>
 (idx d27.ops y38).bind fun x50 =>
 (bif !decide (x46 = x50) then
 some false
 else
 (topSameNode_l2 y10 rec11 d25 d27 n) (IntKind.wrap .i64 (y38 + 1)))
 else
 topSameNode_j1 y10 rec11)
def topSameNode_j3 (fu : Nat) (y10 : Int) (rec11 : Int → Option Bool) (d25 : GEntry) (d27 : GEntry) : Option Bool :=
 topSameNode_l2 y10 rec11 d25 d27 fu 0
def topSameNode_j4 (fu : Nat) (y10 : Int) (rec11 : Int → Option Bool) (d25 : GEntry) (d27 : GEntry) (c58 : Bool) : Option Bool :=
 (bif c58 then
 some false
 else
 topSameNode_j3 fu y10 rec11 d25 d27)
def topSameNode_j2 (fu : Nat) (y10 : Int) (rec11 : Int → Option Bool) (d25 : GEntry) (d27 : GEntry) : Option Bool :=
 (bif d25.state != d27.state then
 topSameNode_j4 fu y10 rec11 d25 d27 true
 else
 (bif (d25.ops.length : Int) != (d27.ops.length : Int) then
 topSameNode_j4 fu y10 rec11 d25 d27 true
 else
 (topSameNumbersD fu d25.first d27.first).bind fun r72 =>
 (bif !r72 then
 topSameNode_j4 fu y10 rec11 d25 d27 true
 else
 (topSameNumbersD fu d25.deps d27.deps).bind fun r78 =>
 (bif !r78 then
 topSameNode_j4 fu y10 rec11 d25 d27 true
 else
 (topSameNumbersD fu d25.at_ d27.at_).bind fun r84 =>
 (bif !r84 then
 topSameNode_j4 fu y10 rec11 d25 d27 true
 else
 (topSameNumbersD fu d25.values d27.values).bind fun r90 =>
 topSameNode_j4 fu y10 rec11 d25 d27 (!r90))))))
def topSameNode_j5 (c126 : Bool) : Option Bool :=
 some c126
def topSameNode_l1 (fu : Nat) (x1 : GNode) (x2 : GNode) : Nat → Int → Option Bool
 | 0, _ => none
 | n + 1, y10 =>
 (bif decide (y10 < 32) then
 (inR y10 32).bind fun _ =>
 (idxV x1.entries y10).bind fun x97 =>
 (inR y10 32).bind fun _ =>
 (idxV x2.entries y10).bind fun x102 =>
 (some x97).bind fun d111 =>
 (some x102).bind fun d114 =>
 topSameNode_j2 fu y10 (topSameNode_l1 fu x1 x2 n) d111 d114
 else
 (topSameNumbersD fu x1.order x2.order).bind fun r133 =>
 (bif r133 then
 topSameNode_j5 (decide (x1.values = x2.values))
 else
 topSameNode_j5 false))
def topSameNodeD (fu : Nat) (x1 : GNode) (x2 : GNode) : Option Bool :=
 topSameNode_l1 fu x1 x2 fu 0
set_option maxRecDepth 100000 in
set_option maxHeartbeats 4000000 in
theorem topSameNode_ok {M : Mm} {w : World} {cx1 : List Value} {cx2 : List Value} {x1 : GNode} {x2 : GNode} {fu : Nat} {r : Bool} (hA : Agree M w) (hcx1 : rep M cx1 x1) (hcx2 : rep M cx2 x2) (hz : topSameNodeD fu x1 x2 = some r) :
    Calls Try.prog 18 #[.agg cx1.toArray, .agg cx2.toArray] w (GivesV w (.bool r)) := by
 refine Zf Try.func18 rfl 97 rfl rfl (by kernel_rfl) fun T hT => ?_
 have hT_0 : T 0 = .agg cx1.toArray := hT 0
 have hT_1 : T 1 = .agg cx2.toArray := hT 1
 clear hT
 have hE := Qg w.heap.size noX M
 have hS : St w noX M [] w := Zq hA
 rw [topSameNodeD] at hz
 refine Qh <|Qi ?_
 refine Qt (Yl (v := .agg cx1.toArray) (cs := cx1) hT_0 rfl hS ?_)
 intro b4 w3 hb4 hS
 refine Qt (Yl (v := .agg cx2.toArray) (cs := cx2) hT_1 rfl hS ?_)
 intro b6 w5 hb6 hS
 refine Qc (Qk (.bool false) rfl) ?_
 refine Qf (Qa ?_)
 refine Qh <|Qh <|Qi <|Qc (Qe (.int .i64 0) rfl) ?_
 refine Qf (Qa ?_)
 refine Qy ?_
 refine Z1 (fun k12 T' w' => ∃ M8 y10, Mm.ext w.heap.size noX M M8 ∧ St w noX M8 [.box b6 cx2 34, .box b4 cx1 34] w' ∧ T' 2 = .pointer (some ⟨b4, 0, none⟩) ∧ T' 3 = .pointer (some ⟨b6, 0, none⟩) ∧ T' 9 = .int .i64 y10 ∧ topSameNode_l1 fu x1 x2 k12 y10 = some r) fu ?_ ?_ ?_
 exact ⟨M, (0 : Int), (Qg _ _ _), hS, rfl, rfl, rfl, hz⟩
 rintro T' w' ⟨_, _, _, _, _, _, _, hz⟩
 rw [topSameNode_l1] at hz
 cases hz
 intro k12
 rintro T9 w7 ⟨M8, y10, hx14, hS, hT9_2, hT9_3, hT9_9, hz⟩
 replace hcx1 := Rep.mono hx14.1 hcx1
 replace hcx2 := Rep.mono hx14.1 hcx2
 have hF13 := hx14
 rw [topSameNode_l1] at hz
 obtain ⟨rec11, hrec11⟩ : ∃ f, f = topSameNode_l1 fu x1 x2 k12 := ⟨_, rfl⟩
 rw [← hrec11] at hz
 refine Qh <|Qi <|Qc (Zt hT9_9 rfl) ?_
 refine Qf (Qa ?_)
 refine Qh ?_
 refine Qr rfl (fun hc15 => ?_) (fun hc15 => ?_)
 replace hz := Qn hz hc15
 refine Qu (Qa ?_)
 refine Qz (fun T' w' => ∃ M17, Mm.ext w.heap.size noX M8 M17 ∧ St w noX M17 [.box b6 cx2 34, .box b4 cx1 34] w' ∧ T' 2 = .pointer (some ⟨b4, 0, none⟩) ∧ T' 3 = .pointer (some ⟨b6, 0, none⟩) ∧ T' 9 = .int .i64 y10 ∧ topSameNode_j1 y10 rec11 = some r) ?_ ?_
 have hF20 := Qg w.heap.size noX M8
 refine Qy <|Qh <|Qi <|Qc (Qe (.int .i64 y10) hT9_9) <|Qc (Qk (.int .i64 y10) rfl) ?_
 refine Qf (Qa ?_)
 refine Qz (fun T' w' => ∃ M22 b24 cs24 d25 b26 cs26 d27, Mm.ext w.heap.size noX M8 M22 ∧ St w noX M22 [.box b26 cs26 30, .box b24 cs24 30, .box b6 cx2 34, .box b4 cx1 34] w' ∧ rep M22 cs24 d25 ∧ w.heap.size ≤ b24 ∧ rep M22 cs26 d27 ∧ w.heap.size ≤ b26 ∧ T' 6 = .pointer (some ⟨b24, 0, none⟩) ∧ T' 7 = .pointer (some ⟨b26, 0, none⟩) ∧ T' 2 = .pointer (some ⟨b4, 0, none⟩) ∧ T' 3 = .pointer (some ⟨b6, 0, none⟩) ∧ T' 9 = .int .i64 y10 ∧ topSameNode_j2 fu y10 rec11 d25 d27 = some r) ?_ ?_
 have hF91 := Qg w.heap.size noX M8
 refine Yx [.box b6 cx2 34, .box b4 cx1 34] [] Yb hS fun w92 hS hG93 hR94 => wy 0 rfl (Qe (.int .i64 y10) rfl) (fun _ => hR94) <|wy 1 rfl (Qp V7 hT9_2) (fun _ => hR94) ?_
 obtain ⟨u95, hx96, hz⟩ := Qb hz
 obtain ⟨hx96a, hx96b⟩ := Qw hx96
 refine wy 2 rfl (Zh ia31 rfl rfl hx96a hx96b) (fun _ => hR94) ?_
 obtain ⟨x97, hx98, hz⟩ := Qb hz
 have ha99 := (vp (k := 6) rfl rfl (Q5 (rr hcx1)) hx98)
 refine Va 3 rfl (Za ta30 rfl (Yu 1 rfl) (Rep.len ha99)) hR94 <|wy 4 rfl (Qe (.int .i64 y10) rfl) (fun _ => hR94) <|wy 5 rfl (Qp V7 hT9_3) (fun _ => hR94) ?_
 obtain ⟨u100, hx101, hz⟩ := Qb hz
 obtain ⟨hx101a, hx101b⟩ := Qw hx101
 refine wy 6 rfl (Zh ia31 rfl rfl hx101a hx101b) (fun _ => hR94) ?_
 obtain ⟨x102, hx103, hz⟩ := Qb hz
 have ha104 := (vp (k := 6) rfl rfl (Q5 (rr hcx2)) hx103)
 refine Va 7 rfl (Za ta30 rfl (Yu 0 rfl) (Rep.len ha104)) hR94 ?_
 obtain ⟨d111, hd110, hz⟩ := Qb hz
 obtain ⟨d114, hd113, hz⟩ := Qb hz
 refine WB_two (i := 8) (j := 9) (by kernel_rfl) rfl rfl (Zk tz30 hS ?_) (Zk tz30 hS ?_)
 intro b106 w105 hb106 hS
 have zb106 : rep M8 (Zr.zc GEntry) (Zr.zd : GEntry) := Zr.zr
 refine Ys hS hG93 fun hR115 => ?_
 refine w1 9 rfl (Zk tz30 hS ?_)
 intro b108 w107 hb108 hS
 have zb108 : rep M8 (Zr.zc GEntry) (Zr.zd : GEntry) := Zr.zr
 refine Ys hS hG93 fun hR116 => ?_
 refine w1 10 rfl (Q7 1 6 hS rfl zb106 rfl rfl ha99 rfl rfl (Lf (rr zb106) ha99) hd110 ?_)
 intro cs110 w109 hb110 ha110 hs110 hS
 refine Ys hS hG93 fun hR117 => ?_
 refine w1 11 rfl (Q7 0 6 hS rfl zb108 rfl rfl ha104 rfl rfl (Lf (rr zb108) ha104) hd113 ?_)
 intro cs113 w112 hb113 ha113 hs113 hS
 refine Ys hS hG93 fun hR118 => ?_
 refine wd (Qa ?_)
 exact ⟨M8, b106, cs110, d111, b108, cs113, d114, hF91, hS, hb110, hb106, hb113, hb108, rfl, rfl, hT9_2, hT9_3, hT9_9, hz⟩
 intro b108 w107 hb108 hS
 have zb108 : rep M8 (Zr.zc GEntry) (Zr.zd : GEntry) := Zr.zr
 refine Ys hS hG93 fun hR119 => ?_
 refine w1 8 rfl (Zk tz30 hS ?_)
 intro b106 w105 hb106 hS
 have zb106 : rep M8 (Zr.zc GEntry) (Zr.zd : GEntry) := Zr.zr
 refine Ys hS hG93 fun hR120 => ?_
 refine w1 10 rfl (Q7 0 6 hS rfl zb106 rfl rfl ha99 rfl rfl (Lf (rr zb106) ha99) hd110 ?_)
 intro cs110 w109 hb110 ha110 hs110 hS
 refine Ys hS hG93 fun hR121 => ?_
 refine w1 11 rfl (Q7 1 6 hS rfl zb108 rfl rfl ha104 rfl rfl (Lf (rr zb108) ha104) hd113 ?_)
 intro cs113 w112 hb113 ha113 hs113 hS
 refine Ys hS hG93 fun hR122 => ?_
 refine wd (Qa ?_)
 exact ⟨M8, b106, cs110, d111, b108, cs113, d114, hF91, (hS.sel (H' := [.box b108 cs113 30, .box b106 cs110 30, .box b6 cx2 34, .box b4 cx1 34]) [1, 0, 2, 3] (by decide) rfl), hb110, hb106, hb113, hb108, rfl, rfl, hT9_2, hT9_3, hT9_9, hz⟩
 rintro T23 w21 ⟨M22, b24, cs24, d25, b26, cs26, d27, hx28, hS, hb24, hs24, hb26, hs26, hT23_6, hT23_7, hT23_2, hT23_3, hT23_9, hz⟩
 replace hF20 := Qd hF20 hx28
 rw [topSameNode_j2] at hz
 refine Qz (fun T' w' => ∃ M30, Mm.ext w.heap.size noX M22 M30 ∧ St w noX M30 [.box b26 cs26 30, .box b24 cs24 30, .box b6 cx2 34, .box b4 cx1 34] w' ∧ T' 2 = .pointer (some ⟨b4, 0, none⟩) ∧ T' 3 = .pointer (some ⟨b6, 0, none⟩) ∧ T' 6 = .pointer (some ⟨b24, 0, none⟩) ∧ T' 7 = .pointer (some ⟨b26, 0, none⟩) ∧ T' 9 = .int .i64 y10 ∧ topSameNode_j3 fu y10 rec11 d25 d27 = some r) ?_ ?_
 have hF54 := Qg w.heap.size noX M22
 refine Qz (fun T' w' => ∃ M56 c58, Mm.ext w.heap.size noX M22 M56 ∧ St w noX M56 [.box b26 cs26 30, .box b24 cs24 30, .box b6 cx2 34, .box b4 cx1 34] w' ∧ T' 2 = .pointer (some ⟨b4, 0, none⟩) ∧ T' 3 = .pointer (some ⟨b6, 0, none⟩) ∧ T' 6 = .pointer (some ⟨b24, 0, none⟩) ∧ T' 7 = .pointer (some ⟨b26, 0, none⟩) ∧ T' 9 = .int .i64 y10 ∧ T' 65 = .bool c58 ∧ topSameNode_j4 fu y10 rec11 d25 d27 c58 = some r) ?_ ?_
 have hF61 := Qg w.heap.size noX M22
 refine Qi <|Qc (Qp Y5 hT23_6) <|Qc (Ql (.int .i64 d25.state) Yd rfl (hS.bvB 1 rfl) (Yf (rr hb24))) <|Qc (Qp Y5 hT23_7) <|Qc (Ql (.int .i64 d27.state) Yd rfl (hS.bvB 0 rfl) (Yf (rr hb26))) <|Qc (Yj rfl rfl) <|Qc (Qe (.bool (d25.state != d27.state)) rfl) ?_
 rcases ic hz with ⟨hc62, hz⟩ | ⟨hc62, hz⟩ <;> rw [hc62]
 refine Q1 40 rfl ?_
 refine Qf (Qa ?_)
 exact ⟨M22, true, hF61, hS, hT23_2, hT23_3, hT23_6, hT23_7, hT23_9, rfl, hz⟩
 refine Qj rfl rfl (Qp V8 hT23_6) ?_
 obtain ⟨v63, ev63, hv63⟩ := (Yv (rr hb24))
 refine Qj rfl rfl (Ql v63 Y3 rfl (hS.bvB 1 rfl) ev63) ?_
 obtain ⟨a64, c64, hv64, _⟩ := Q2 hv63
 refine Qj rfl rfl (Zg Zm (Vo hv64 rfl)) <|Qj rfl rfl (Qp V8 hT23_7) ?_
 obtain ⟨v65, ev65, hv65⟩ := (Yv (rr hb26))
 refine Qj rfl rfl (Ql v65 Y3 rfl (hS.bvB 0 rfl) ev65) ?_
 obtain ⟨a66, c66, hv66, _⟩ := Q2 hv65
 refine Qj rfl rfl (Zg Zm (Vo hv66 rfl)) <|Qj rfl rfl (Yj rfl rfl) <|Q1 2 rfl ?_
 rcases ic hz with ⟨hc67, hz⟩ | ⟨hc67, hz⟩ <;> rw [hc67]
 refine Q1 31 rfl ?_
 refine Qf (Qa ?_)
 exact ⟨M22, true, hF61, hS, hT23_2, hT23_3, hT23_6, hT23_7, hT23_9, rfl, hz⟩
 refine Qj rfl rfl (Qp Jh hT23_6) ?_
 obtain ⟨v68, ev68, hv68⟩ := (Vz (rr hb24))
 refine Qj rfl rfl (Ql v68 Zz rfl (hS.bvB 1 rfl) ev68) <|Qj rfl rfl (Qp Jh hT23_7) ?_
 obtain ⟨v69, ev69, hv69⟩ := (Vz (rr hb26))
 refine Qj rfl rfl (Ql v69 Zz rfl (hS.bvB 0 rfl) ev69) ?_
 obtain ⟨r72, hr71, hz⟩ := Qb hz
 refine Vv rfl rfl (Z0 (vs := [v68, v69]) (v := .bool r72) cb29 (Zy rfl rfl) hS (topSameNumbers_ok hS.agree hv68 hv69 hr71) ?_)
 intro w70 hS
 refine Qj rfl rfl (Yc rfl) <|Q1 2 rfl ?_
 rcases ic hz with ⟨hc73, hz⟩ | ⟨hc73, hz⟩ <;> rw [hc73]
 refine Q1 23 rfl ?_
 refine Qf (Qa ?_)
 exact ⟨M22, true, hF61, hS, hT23_2, hT23_3, hT23_6, hT23_7, hT23_9, rfl, hz⟩
 refine Qj rfl rfl (Qp K5 hT23_6) ?_
 obtain ⟨v74, ev74, hv74⟩ := (Vs (rr hb24))
 refine Qj rfl rfl (Ql v74 Zz rfl (hS.bvB 1 rfl) ev74) <|Qj rfl rfl (Qp K5 hT23_7) ?_
 obtain ⟨v75, ev75, hv75⟩ := (Vs (rr hb26))
 refine Qj rfl rfl (Ql v75 Zz rfl (hS.bvB 0 rfl) ev75) ?_
 obtain ⟨r78, hr77, hz⟩ := Qb hz
 refine Vv rfl rfl (Z0 (vs := [v74, v75]) (v := .bool r78) cb29 (Zy rfl rfl) hS (topSameNumbers_ok hS.agree hv74 hv75 hr77) ?_)
 intro w76 hS
 refine Qj rfl rfl (Yc rfl) <|Q1 2 rfl ?_
 rcases ic hz with ⟨hc79, hz⟩ | ⟨hc79, hz⟩ <;> rw [hc79]
 refine Q1 15 rfl ?_
 refine Qf (Qa ?_)
 exact ⟨M22, true, hF61, hS, hT23_2, hT23_3, hT23_6, hT23_7, hT23_9, rfl, hz⟩
 refine Qj rfl rfl (Qp Vf hT23_6) ?_
 obtain ⟨v80, ev80, hv80⟩ := (Yi (rr hb24))
 refine Qj rfl rfl (Ql v80 Zz rfl (hS.bvB 1 rfl) ev80) <|Qj rfl rfl (Qp Vf hT23_7) ?_
 obtain ⟨v81, ev81, hv81⟩ := (Yi (rr hb26))
 refine Qj rfl rfl (Ql v81 Zz rfl (hS.bvB 0 rfl) ev81) ?_
 obtain ⟨r84, hr83, hz⟩ := Qb hz
 refine Vv rfl rfl (Z0 (vs := [v80, v81]) (v := .bool r84) cb29 (Zy rfl rfl) hS (topSameNumbers_ok hS.agree hv80 hv81 hr83) ?_)
 intro w82 hS
 refine Qj rfl rfl (Yc rfl) <|Q1 2 rfl ?_
 rcases ic hz with ⟨hc85, hz⟩ | ⟨hc85, hz⟩ <;> rw [hc85]
 refine Q1 7 rfl ?_
 refine Qf (Qa ?_)
 exact ⟨M22, true, hF61, hS, hT23_2, hT23_3, hT23_6, hT23_7, hT23_9, rfl, hz⟩
 refine Qj rfl rfl (Qp V4 hT23_6) ?_
 obtain ⟨v86, ev86, hv86⟩ := (Yr (rr hb24))
 refine Qj rfl rfl (Ql v86 Zz rfl (hS.bvB 1 rfl) ev86) <|Qj rfl rfl (Qp V4 hT23_7) ?_
 obtain ⟨v87, ev87, hv87⟩ := (Yr (rr hb26))
 refine Qj rfl rfl (Ql v87 Zz rfl (hS.bvB 0 rfl) ev87) ?_
 obtain ⟨r90, hr89, hz⟩ := Qb hz
 refine Vv rfl rfl (Z0 (vs := [v86, v87]) (v := .bool r90) cb29 (Zy rfl rfl) hS (topSameNumbers_ok hS.agree hv86 hv87 hr89) ?_)
 intro w88 hS
 refine Qj rfl rfl (Yc rfl) <|Qc (Zi (.bool (!r90)) rfl rfl) ?_
 refine Qf (Qa ?_)
 exact ⟨M22, (!r90), hF61, hS, hT23_2, hT23_3, hT23_6, hT23_7, hT23_9, rfl, hz⟩
 rintro T57 w55 ⟨M56, c58, hx59, hS, hT57_2, hT57_3, hT57_6, hT57_7, hT57_9, hT57_65, hz⟩
 replace hF54 := Qd hF54 hx59
 rw [topSameNode_j4] at hz
 refine Qr hT57_65 (fun hc60 => ?_) (fun hc60 => ?_)
 replace hz := Qn hz hc60
 refine Qh <|Qi <|Qc (Qk (.bool false) rfl) ?_
 refine Qf (Qa ?_)
 cases hz
 exact Q4 (Qq (Zb (Qq (Qq (Zb (Qq (Yg rfl rfl ⟨rfl, (Qm (Qm (Qm (Qm hS)))).kept⟩)))))))
 replace hz := Qo hz hc60
 refine Qu (Qa ?_)
 exact ⟨M56, hF54, hS, hT57_2, hT57_3, hT57_6, hT57_7, hT57_9, hz⟩
 rintro T31 w29 ⟨M30, hx32, hS, hT31_2, hT31_3, hT31_6, hT31_7, hT31_9, hz⟩
 replace hb24 := Rep.mono hx32.1 hb24
 replace hb26 := Rep.mono hx32.1 hb26
 replace hF20 := Qd hF20 hx32
 rw [topSameNode_j3] at hz
 refine Qh <|Qi <|Qc (Qp V8 hT31_6) ?_
 obtain ⟨v33, ev33, hv33⟩ := (Yv (rr hb24))
 refine Qc (Ql v33 Y3 rfl (hS.bvB 1 rfl) ev33) ?_
 obtain ⟨a34, c34, hv34, _⟩ := Q2 hv33
 refine Qc (Zg Zm (Vo hv34 rfl)) <|Qc (Qe (.int .i64 0) rfl) ?_
 refine Qf (Qa ?_)
 refine Qy ?_
 refine Z1 (fun k40 T' w' => ∃ M36 y38, Mm.ext w.heap.size noX M30 M36 ∧ St w noX M36 [.box b26 cs26 30, .box b24 cs24 30, .box b6 cx2 34, .box b4 cx1 34] w' ∧ T' 2 = .pointer (some ⟨b4, 0, none⟩) ∧ T' 3 = .pointer (some ⟨b6, 0, none⟩) ∧ T' 6 = .pointer (some ⟨b24, 0, none⟩) ∧ T' 7 = .pointer (some ⟨b26, 0, none⟩) ∧ T' 9 = .int .i64 y10 ∧ T' 68 = .int .i64 (d25.ops.length : Int) ∧ T' 69 = .int .i64 y38 ∧ topSameNode_l2 y10 rec11 d25 d27 k40 y38 = some r) fu ?_ ?_ ?_
 exact ⟨M30, (0 : Int), (Qg _ _ _), hS, hT31_2, hT31_3, hT31_6, hT31_7, hT31_9, rfl, rfl, hz⟩
 rintro T' w' ⟨_, _, _, _, _, _, _, _, _, _, _, hz⟩
 rw [topSameNode_l2] at hz
 cases hz
 intro k40
 rintro T37 w35 ⟨M36, y38, hx42, hS, hT37_2, hT37_3, hT37_6, hT37_7, hT37_9, hT37_68, hT37_69, hz⟩
 replace hb24 := Rep.mono hx42.1 hb24
 replace hb26 := Rep.mono hx42.1 hb26
 replace hF20 := Qd hF20 hx42
 have hF41 := hx42
 rw [topSameNode_l2] at hz
 obtain ⟨rec39, hrec39⟩ : ∃ f, f = topSameNode_l2 y10 rec11 d25 d27 k40 := ⟨_, rfl⟩
 rw [← hrec39] at hz
 refine Qh <|Qi <|Qc (Zt hT37_69 hT37_68) ?_
 refine Qf (Qa ?_)
 refine Qh ?_
 refine Qr rfl (fun hc43 => ?_) (fun hc43 => ?_)
 replace hz := Qn hz hc43
 refine Qu (Qa ?_)
 refine Qh <|Qy <|Qh <|Qi <|Qc (Qe (.int .i64 y38) hT37_69) <|Qc (Qk (.int .i64 y38) rfl) ?_
 refine Qf (Qa ?_)
 refine Qh <|K4 Yb (by kernel_rfl) hS <|Z7 (Qp V8 hT37_6) ?_
 obtain ⟨v44, ev44, hv44⟩ := (Yv (rr hb24))
 refine Z7 (Ql v44 Y3 rfl (bvBS (j := 1) rfl) ev44) <|Z7 (Qe (.int .i64 y38) rfl) ?_
 obtain ⟨x46, hx45, hz⟩ := Qb hz
 obtain ⟨b45, o45, c45, p45, hv45, hi45, hj45, hM45, hr45⟩ := Z6 hv44 hx45
 replace hr45 : rep _ (sl p45 (o45 + Int.toNat y38 * 3) 3) x46 := hr45
 refine Z7 (Yk il27 rfl hv45 rfl hi45 hj45) ?_
 have ha47 := hr45
 refine Z7 (Za ta65 rfl (bvMS hM45) (Rep.len ha47)) <|Z7 (Qp V8 hT37_7) ?_
 obtain ⟨v48, ev48, hv48⟩ := (Yv (rr hb26))
 refine Z7 (Ql v48 Y3 rfl (bvBS (j := 0) rfl) ev48) <|Z7 (Qe (.int .i64 y38) rfl) ?_
 obtain ⟨x50, hx49, hz⟩ := Qb hz
 obtain ⟨b49, o49, c49, p49, hv49, hi49, hj49, hM49, hr49⟩ := Z6 hv48 hx49
 replace hr49 : rep _ (sl p49 (o49 + Int.toNat y38 * 3) 3) x50 := hr49
 refine Z7 (Yk il27 rfl hv49 rfl hi49 hj49) ?_
 have ha51 := hr49
 refine Z7 (Za ta65 rfl (bvMS hM49) (Rep.len ha51)) <|Z7 (Y_neA rfl rfl eg65 ha47 ha51) <|Jv ?_
 intro w52 hS
 refine (Qa ?_)
 refine Qr rfl (fun hc53 => ?_) (fun hc53 => ?_)
 replace hz := Qn hz hc53
 refine Qh <|Qi <|Qc (Qk (.bool false) rfl) ?_
 refine Qf (Qa ?_)
 cases hz
 exact Q4 (Zb (Qq (Qq (Zb (Zb (Qq (Qq (Zb (Qq (Yg rfl rfl ⟨rfl, (Qm (Qm (Qm (Qm hS)))).kept⟩))))))))))
 replace hz := Qo hz hc53
 refine Qu (Q8 ?_)
 refine (Qa ?_)
 refine Qi <|Qc (Z2 hT37_69 rfl) <|Qc (Qe (.int .i64 (IntKind.wrap .i64 (y38 + 1))) rfl) ?_
 refine Qf (Qa ?_)
 exact ⟨M36, (IntKind.wrap .i64 (y38 + 1)), hF41, hS, hT37_2, hT37_3, hT37_6, hT37_7, hT37_9, hT37_68, rfl, (by rw [← hrec39]; exact hz)⟩
 replace hz := Qo hz hc43
 refine Zu <|Q0 <|Q0 <|Zv ?_
 refine (Q8 ?_)
 refine (Qa ?_)
 exact ⟨M36, hF20, (Yy (Yy hS hs26) hs24), hT37_2, hT37_3, hT37_9, hz⟩
 rintro T18 w16 ⟨M17, hx19, hS, hT18_2, hT18_3, hT18_9, hz⟩
 replace hF13 := Qd hF13 hx19
 rw [topSameNode_j1] at hz
 refine Qi <|Qc (Z2 hT18_9 rfl) <|Qc (Qe (.int .i64 (IntKind.wrap .i64 (y10 + 1))) rfl) ?_
 refine Qf (Qa ?_)
 exact ⟨M17, (IntKind.wrap .i64 (y10 + 1)), hF13, hS, hT18_2, hT18_3, rfl, (by rw [← hrec11]; exact hz)⟩
 replace hz := Qo hz hc15
 refine Zu <|Q0 <|Q0 <|Zv ?_
 refine (Qa ?_)
 refine Qz (fun T' w' => ∃ M124 c126, Mm.ext w.heap.size noX M8 M124 ∧ St w noX M124 [.box b6 cx2 34, .box b4 cx1 34] w' ∧ T' 4 = .bool c126 ∧ topSameNode_j5 c126 = some r) ?_ ?_
 have hF128 := Qg w.heap.size noX M8
 refine Qi <|Qc (Qp Jg hT9_2) ?_
 obtain ⟨v129, ev129, hv129⟩ := (Kb (rr hcx1))
 refine Qc (Ql v129 Zz rfl (hS.bvB 1 rfl) ev129) <|Qc (Qp Jg hT9_3) ?_
 obtain ⟨v130, ev130, hv130⟩ := (Kb (rr hcx2))
 refine Qc (Ql v130 Zz rfl (hS.bvB 0 rfl) ev130) ?_
 obtain ⟨r133, hr132, hz⟩ := Qb hz
 refine Qt (Z0 (vs := [v129, v130]) (v := .bool r133) cb29 (Zy rfl rfl) hS (topSameNumbers_ok hS.agree hv129 hv130 hr132) ?_)
 intro w131 hS
 refine Qc (Qe (.bool r133) rfl) ?_
 rcases ic hz with ⟨hc134, hz⟩ | ⟨hc134, hz⟩ <;> rw [hc134]
 refine Qj rfl rfl (Qp fa34_2 hT9_2) ?_
 have ha135 := (Ji (rr hcx1))
 refine Qj rfl rfl (Za ta32 rfl (hS.bvB 1 rfl) (Rep.len ha135)) <|Qj rfl rfl (Qp fa34_2 hT9_3) ?_
 have ha136 := (Ji (rr hcx2))
 refine Qj rfl rfl (Za ta32 rfl (hS.bvB 0 rfl) (Rep.len ha136)) <|Qj rfl rfl (Y_eqA rfl rfl eg32 ha135 ha136) <|Q1 2 rfl ?_
 refine Qf (Qa ?_)
 exact ⟨M8, (decide (x1.values = x2.values)), hF128, hS, rfl, hz⟩
 refine Q1 7 rfl ?_
 refine Qf (Qa ?_)
 exact ⟨M8, false, hF128, hS, rfl, hz⟩
 rintro T125 w123 ⟨M124, c126, hx127, hS, hT125_4, hz⟩
 rw [topSameNode_j5] at hz
 cases hz
 exact Q4 (Yg rfl hT125_4 ⟨rfl, (Qm (Qm hS)).kept⟩)
def topSameCase_j1 (c36 : Bool) : Option Bool :=
 some c36
def topSameCase_l1 (fu : Nat) (x1 : GCase) (x2 : GCase) : Nat → Int → Option Bool
 | 0, _ => none
 | n + 1, y17 =>
 (bif decide (y17 < (x1.ops.length : Int)) then
 (idx x1.ops y17).bind fun x25 =>
 (idx x2.ops y17).bind fun x29 =>
 (bif !decide (x25 = x29) then
 some false
 else
 (topSameCase_l1 fu x1 x2 n) (IntKind.wrap .i64 (y17 + 1)))
 else
 (bif x1.begun == x2.begun then
 (bif x1.fixed == x2.fixed then
 (bif decide (x1.told = x2.told) then
 (bif decide (x1.known = x2.known) then
 (topSameNumbersD fu x1.deps x2.deps).bind fun r51 =>
 (bif r51 then
 (bif decide (x1.has = x2.has) then
 topSameCase_j1 (decide (x1.values = x2.values))
 else
 topSameCase_j1 false)
 else
 topSameCase_j1 false)
 else
 topSameCase_j1 false)
 else
 topSameCase_j1 false)
 else
 topSameCase_j1 false)
 else
 topSameCase_j1 false))
def topSameCaseD (fu : Nat) (x1 : GCase) (x2 : GCase) : Option Bool :=
 (bif (x1.ops.length : Int) != (x2.ops.length : Int) then
 some false
 else
 topSameCase_l1 fu x1 x2 fu 0)
set_option maxRecDepth 100000 in
set_option maxHeartbeats 4000000 in
theorem topSameCase_ok {M : Mm} {w : World} {cx1 : List Value} {cx2 : List Value} {x1 : GCase} {x2 : GCase} {fu : Nat} {r : Bool} (hA : Agree M w) (hcx1 : rep M cx1 x1) (hcx2 : rep M cx2 x2) (hz : topSameCaseD fu x1 x2 = some r) :
    Calls Try.prog 63 #[.agg cx1.toArray, .agg cx2.toArray] w (GivesV w (.bool r)) := by
 refine Zf Try.func63 rfl 78 rfl rfl (by kernel_rfl) fun T hT => ?_
 have hT_0 : T 0 = .agg cx1.toArray := hT 0
 have hT_1 : T 1 = .agg cx2.toArray := hT 1
 clear hT
 have hE := Qg w.heap.size noX M
 have hS : St w noX M [] w := Zq hA
 rw [topSameCaseD] at hz
 refine Qh <|Qi ?_
 refine Qt (Yl (v := .agg cx1.toArray) (cs := cx1) hT_0 rfl hS ?_)
 intro b4 w3 hb4 hS
 refine Qt (Yl (v := .agg cx2.toArray) (cs := cx2) hT_1 rfl hS ?_)
 intro b6 w5 hb6 hS
 refine Qc (Qk (.bool false) rfl) ?_
 refine Qf (Qa ?_)
 refine Qh <|Qh <|Qi <|Qc (Qp Vk rfl) ?_
 obtain ⟨v7, ev7, hv7⟩ := (Yo (rr hcx1))
 refine Qc (Ql v7 Y3 rfl (hS.bvB 1 rfl) ev7) ?_
 obtain ⟨a8, c8, hv8, _⟩ := Q2 hv7
 refine Qc (Zg Zm (Vo hv8 rfl)) <|Qc (Qp Vk rfl) ?_
 obtain ⟨v9, ev9, hv9⟩ := (Yo (rr hcx2))
 refine Qc (Ql v9 Y3 rfl (hS.bvB 0 rfl) ev9) ?_
 obtain ⟨a10, c10, hv10, _⟩ := Q2 hv9
 refine Qc (Zg Zm (Vo hv10 rfl)) <|Qc (Yj rfl rfl) ?_
 refine Qf (Qa ?_)
 refine Qr rfl (fun hc11 => ?_) (fun hc11 => ?_)
 replace hz := Qn hz hc11
 refine Qh <|Qi <|Qc (Qk (.bool false) rfl) ?_
 refine Qf (Qa ?_)
 cases hz
 exact Q4 (Qq (Yg rfl rfl ⟨rfl, (Qm (Qm hS)).kept⟩))
 replace hz := Qo hz hc11
 refine Qu (Qa ?_)
 refine Qh <|Qh <|Qi <|Qc (Qp Vk rfl) ?_
 obtain ⟨v12, ev12, hv12⟩ := (Yo (rr hcx1))
 refine Qc (Ql v12 Y3 rfl (hS.bvB 1 rfl) ev12) ?_
 obtain ⟨a13, c13, hv13, _⟩ := Q2 hv12
 refine Qc (Zg Zm (Vo hv13 rfl)) <|Qc (Qe (.int .i64 0) rfl) ?_
 refine Qf (Qa ?_)
 refine Qy ?_
 refine Z1 (fun k19 T' w' => ∃ M15 y17, Mm.ext w.heap.size noX M M15 ∧ St w noX M15 [.box b6 cx2 49, .box b4 cx1 49] w' ∧ T' 2 = .pointer (some ⟨b4, 0, none⟩) ∧ T' 3 = .pointer (some ⟨b6, 0, none⟩) ∧ T' 15 = .int .i64 (x1.ops.length : Int) ∧ T' 16 = .int .i64 y17 ∧ topSameCase_l1 fu x1 x2 k19 y17 = some r) fu ?_ ?_ ?_
 exact ⟨M, (0 : Int), (Qg _ _ _), hS, rfl, rfl, rfl, rfl, hz⟩
 rintro T' w' ⟨_, _, _, _, _, _, _, _, hz⟩
 rw [topSameCase_l1] at hz
 cases hz
 intro k19
 rintro T16 w14 ⟨M15, y17, hx21, hS, hT16_2, hT16_3, hT16_15, hT16_16, hz⟩
 replace hcx1 := Rep.mono hx21.1 hcx1
 replace hcx2 := Rep.mono hx21.1 hcx2
 have hF20 := hx21
 rw [topSameCase_l1] at hz
 obtain ⟨rec18, hrec18⟩ : ∃ f, f = topSameCase_l1 fu x1 x2 k19 := ⟨_, rfl⟩
 rw [← hrec18] at hz
 refine Qh <|Qi <|Qc (Zt hT16_16 hT16_15) ?_
 refine Qf (Qa ?_)
 refine Qh ?_
 refine Qr rfl (fun hc22 => ?_) (fun hc22 => ?_)
 replace hz := Qn hz hc22
 refine Qu (Qa ?_)
 refine Qh <|Qy <|Qh <|Qi <|Qc (Qe (.int .i64 y17) hT16_16) <|Qc (Qk (.int .i64 y17) rfl) ?_
 refine Qf (Qa ?_)
 refine Qh <|K4 Yb (by kernel_rfl) hS <|Z7 (Qp Vk hT16_2) ?_
 obtain ⟨v23, ev23, hv23⟩ := (Yo (rr hcx1))
 refine Z7 (Ql v23 Y3 rfl (bvBS (j := 1) rfl) ev23) <|Z7 (Qe (.int .i64 y17) rfl) ?_
 obtain ⟨x25, hx24, hz⟩ := Qb hz
 obtain ⟨b24, o24, c24, p24, hv24, hi24, hj24, hM24, hr24⟩ := Z6 hv23 hx24
 replace hr24 : rep _ (sl p24 (o24 + Int.toNat y17 * 3) 3) x25 := hr24
 refine Z7 (Yk il27 rfl hv24 rfl hi24 hj24) ?_
 have ha26 := hr24
 refine Z7 (Za ta65 rfl (bvMS hM24) (Rep.len ha26)) <|Z7 (Qp Vk hT16_3) ?_
 obtain ⟨v27, ev27, hv27⟩ := (Yo (rr hcx2))
 refine Z7 (Ql v27 Y3 rfl (bvBS (j := 0) rfl) ev27) <|Z7 (Qe (.int .i64 y17) rfl) ?_
 obtain ⟨x29, hx28, hz⟩ := Qb hz
 obtain ⟨b28, o28, c28, p28, hv28, hi28, hj28, hM28, hr28⟩ := Z6 hv27 hx28
 replace hr28 : rep _ (sl p28 (o28 + Int.toNat y17 * 3) 3) x29 := hr28
 refine Z7 (Yk il27 rfl hv28 rfl hi28 hj28) ?_
 have ha30 := hr28
 refine Z7 (Za ta65 rfl (bvMS hM28) (Rep.len ha30)) <|Z7 (Y_neA rfl rfl eg65 ha26 ha30) <|Jv ?_
 intro w31 hS
 refine (Qa ?_)
 refine Qr rfl (fun hc32 => ?_) (fun hc32 => ?_)
 replace hz := Qn hz hc32
 refine Qh <|Qi <|Qc (Qk (.bool false) rfl) ?_
 refine Qf (Qa ?_)
 cases hz
 exact Q4 (Zb (Qq (Qq (Zb (Qq (Yg rfl rfl ⟨rfl, (Qm (Qm hS)).kept⟩))))))
 replace hz := Qo hz hc32
 refine Qu (Q8 ?_)
 refine (Qa ?_)
 refine Qi <|Qc (Z2 hT16_16 rfl) <|Qc (Qe (.int .i64 (IntKind.wrap .i64 (y17 + 1))) rfl) ?_
 refine Qf (Qa ?_)
 exact ⟨M15, (IntKind.wrap .i64 (y17 + 1)), hF20, hS, hT16_2, hT16_3, hT16_15, rfl, (by rw [← hrec18]; exact hz)⟩
 replace hz := Qo hz hc22
 refine Zu <|Q0 <|Q0 <|Zv ?_
 refine (Qa ?_)
 refine Qz (fun T' w' => ∃ M34 c36, Mm.ext w.heap.size noX M15 M34 ∧ St w noX M34 [.box b6 cx2 49, .box b4 cx1 49] w' ∧ T' 4 = .bool c36 ∧ topSameCase_j1 c36 = some r) ?_ ?_
 have hF38 := Qg w.heap.size noX M15
 refine Qi <|Qc (Qp fa49_0 hT16_2) <|Qc (Ql (.bool x1.begun) Jb rfl (hS.bvB 1 rfl) (Jc (rr hcx1))) <|Qc (Qp fa49_0 hT16_3) <|Qc (Ql (.bool x2.begun) Jb rfl (hS.bvB 0 rfl) (Jc (rr hcx2))) <|Qc (Y_eqB rfl rfl Vc) <|Qc (Qe (.bool (x1.begun == x2.begun)) rfl) ?_
 rcases ic hz with ⟨hc39, hz⟩ | ⟨hc39, hz⟩ <;> rw [hc39]
 refine Qj rfl rfl (Qp K1 hT16_2) <|Qj rfl rfl (Ql (.bool x1.fixed) Jb rfl (hS.bvB 1 rfl) (V3 (rr hcx1))) <|Qj rfl rfl (Qp K1 hT16_3) <|Qj rfl rfl (Ql (.bool x2.fixed) Jb rfl (hS.bvB 0 rfl) (V3 (rr hcx2))) <|Qj rfl rfl (Y_eqB rfl rfl Vc) <|Q1 2 rfl ?_
 rcases ic hz with ⟨hc40, hz⟩ | ⟨hc40, hz⟩ <;> rw [hc40]
 refine Qj rfl rfl (Qp fa49_3 hT16_2) ?_
 have ha41 := (Kk (rr hcx1))
 refine Qj rfl rfl (Za ta45 rfl (hS.bvB 1 rfl) (Rep.len ha41)) <|Qj rfl rfl (Qp fa49_3 hT16_3) ?_
 have ha42 := (Kk (rr hcx2))
 refine Qj rfl rfl (Za ta45 rfl (hS.bvB 0 rfl) (Rep.len ha42)) <|Qj rfl rfl (Y_eqA rfl rfl eg45 ha41 ha42) <|Q1 2 rfl ?_
 rcases ic hz with ⟨hc43, hz⟩ | ⟨hc43, hz⟩ <;> rw [hc43]
 refine Qj rfl rfl (Qp fa49_4 hT16_2) ?_
 have ha44 := (Jd (rr hcx1))
 refine Qj rfl rfl (Za ta45 rfl (hS.bvB 1 rfl) (Rep.len ha44)) <|Qj rfl rfl (Qp fa49_4 hT16_3) ?_
 have ha45 := (Jd (rr hcx2))
 refine Qj rfl rfl (Za ta45 rfl (hS.bvB 0 rfl) (Rep.len ha45)) <|Qj rfl rfl (Y_eqA rfl rfl eg45 ha44 ha45) <|Q1 2 rfl ?_
 rcases ic hz with ⟨hc46, hz⟩ | ⟨hc46, hz⟩ <;> rw [hc46]
 refine Qj rfl rfl (Qp Kq hT16_2) ?_
 obtain ⟨v47, ev47, hv47⟩ := (Vw (rr hcx1))
 refine Qj rfl rfl (Ql v47 Zz rfl (hS.bvB 1 rfl) ev47) <|Qj rfl rfl (Qp Kq hT16_3) ?_
 obtain ⟨v48, ev48, hv48⟩ := (Vw (rr hcx2))
 refine Qj rfl rfl (Ql v48 Zz rfl (hS.bvB 0 rfl) ev48) ?_
 obtain ⟨r51, hr50, hz⟩ := Qb hz
 refine Vv rfl rfl (Z0 (vs := [v47, v48]) (v := .bool r51) cb29 (Zy rfl rfl) hS (topSameNumbers_ok hS.agree hv47 hv48 hr50) ?_)
 intro w49 hS
 refine Q1 2 rfl ?_
 rcases ic hz with ⟨hc52, hz⟩ | ⟨hc52, hz⟩ <;> rw [hc52]
 refine Qj rfl rfl (Qp fa49_6 hT16_2) ?_
 have ha53 := (Kw (rr hcx1))
 refine Qj rfl rfl (Za ta46 rfl (hS.bvB 1 rfl) (Rep.len ha53)) <|Qj rfl rfl (Qp fa49_6 hT16_3) ?_
 have ha54 := (Kw (rr hcx2))
 refine Qj rfl rfl (Za ta46 rfl (hS.bvB 0 rfl) (Rep.len ha54)) <|Qj rfl rfl (Y_eqA rfl rfl eg46 ha53 ha54) <|Q1 2 rfl ?_
 rcases ic hz with ⟨hc55, hz⟩ | ⟨hc55, hz⟩ <;> rw [hc55]
 refine Qj rfl rfl (Qp fa49_7 hT16_2) ?_
 have ha56 := (Je (rr hcx1))
 refine Qj rfl rfl (Za ta47 rfl (hS.bvB 1 rfl) (Rep.len ha56)) <|Qj rfl rfl (Qp fa49_7 hT16_3) ?_
 have ha57 := (Je (rr hcx2))
 refine Qj rfl rfl (Za ta47 rfl (hS.bvB 0 rfl) (Rep.len ha57)) <|Qj rfl rfl (Y_eqA rfl rfl eg47 ha56 ha57) <|Q1 2 rfl ?_
 refine Qf (Qa ?_)
 exact ⟨M15, (decide (x1.values = x2.values)), hF38, hS, rfl, hz⟩
 refine Q1 7 rfl ?_
 refine Qf (Qa ?_)
 exact ⟨M15, false, hF38, hS, rfl, hz⟩
 refine Q1 14 rfl ?_
 refine Qf (Qa ?_)
 exact ⟨M15, false, hF38, hS, rfl, hz⟩
 refine Q1 21 rfl ?_
 refine Qf (Qa ?_)
 exact ⟨M15, false, hF38, hS, rfl, hz⟩
 refine Q1 28 rfl ?_
 refine Qf (Qa ?_)
 exact ⟨M15, false, hF38, hS, rfl, hz⟩
 refine Q1 35 rfl ?_
 refine Qf (Qa ?_)
 exact ⟨M15, false, hF38, hS, rfl, hz⟩
 refine Q1 42 rfl ?_
 refine Qf (Qa ?_)
 exact ⟨M15, false, hF38, hS, rfl, hz⟩
 rintro T35 w33 ⟨M34, c36, hx37, hS, hT35_4, hz⟩
 rw [topSameCase_j1] at hz
 cases hz
 exact Q4 (Yg rfl hT35_4 ⟨rfl, (Qm (Qm hS)).kept⟩)
def topSame__j1 (y24 : Int) (rec25 : GCluster → GCluster → (List ByteArray) → (List ByteArray) → Int → Option (Bool × GCluster × (List ByteArray) × GCluster × (List ByteArray))) (d34 : GCluster) (d36 : GCluster) (l39 : List ByteArray) (l44 : List ByteArray) : Option (Bool × GCluster × (List ByteArray) × GCluster × (List ByteArray)) :=
 rec25 d34 d36 l39 l44 (IntKind.wrap .i64 (y24 + 1))
def topSame__j2 (l16 : List ByteArray) (l21 : List ByteArray) (y24 : Int) (rec25 : GCluster → GCluster → (List ByteArray) → (List ByteArray) → Int → Option (Bool × GCluster × (List ByteArray) × GCluster × (List ByteArray))) (d69 : GCluster) (d71 : GCluster) (c74 : Bool) : Option (Bool × GCluster × (List ByteArray) × GCluster × (List ByteArray)) :=
 (bif c74 then
 some (false, d71, l16, d69, l21)
 else
 topSame__j1 y24 rec25 d71 d69 l16 l21)
def topSame__l2 (fu : Nat) (l16 : List ByteArray) (l21 : List ByteArray) : Nat → GCluster → GCluster → Int → Option (Bool × GCluster × (List ByteArray) × GCluster × (List ByteArray))
 | 0, _, _, _ => none
 | n + 1, d95, d97, y100 =>
 (bif decide (y100 < 32) then
 (clCaseD fu d95 y100).bind fun r108 =>
 (clCaseD fu d97 y100).bind fun r111 =>
 (topSameCaseD fu r108 r111).bind fun r114 =>
 (bif !r114 then
 some (false, d95, l16, d97, l21)
 else
 (topSame__l2 fu l16 l21 n) d95 d97 (IntKind.wrap .i64 (y100 + 1)))
 else
 (clNetD fu d95 l16).bind fun r118 =>
 (clNetD fu d97 l21).bind fun r121 =>
 (topSameTextsD fu r118.1 r121.1).bind fun r124 =>
 some (r124, d95, r118.2, d97, r121.2))
def topSame__l1 (fu : Nat) : Nat → GCluster → GCluster → (List ByteArray) → (List ByteArray) → Int → Option (Bool × GCluster × (List ByteArray) × GCluster × (List ByteArray))
 | 0, _, _, _, _, _ => none
 | n + 1, d11, d13, l16, l21, y24 =>
 (bif decide (y24 < 6) then
 (clNodeD fu d11 y24).bind fun r51 =>
 (some r51.1).bind fun d56 =>
 (clNodeD fu d13 y24).bind fun r59 =>
 (some r59.1).bind fun d64 =>
 (topSameNodeD fu d56 d64).bind fun r82 =>
 (bif !r82 then
 topSame__j2 l16 l21 y24 (topSame__l1 fu n) d13 d11 true
 else
 (bif !(r51.2 == r59.2) then
 topSame__j2 l16 l21 y24 (topSame__l1 fu n) d13 d11 true
 else
 (clLogD fu d11 y24).bind fun r87 =>
 (clLogD fu d13 y24).bind fun r90 =>
 topSame__j2 l16 l21 y24 (topSame__l1 fu n) d13 d11 (!(r87.toList == r90.toList))))
 else
 topSame__l2 fu l16 l21 fu d11 d13 0)
def topSame_D (fu : Nat) (x1 : GCluster) (l3 : List ByteArray) (x4 : GCluster) (l6 : List ByteArray) : Option (Bool × GCluster × (List ByteArray) × GCluster × (List ByteArray)) :=
 topSame__l1 fu fu x1 x4 l3 l6 0
set_option maxRecDepth 100000 in
set_option maxHeartbeats 4000000 in
theorem topSame__ok {M : Mm} {w : World} {bx1 : Nat} {cx1 : List Value} {ux1_6 : Value} {xsx1_6 : List Value} {bx4 : Nat} {cx4 : List Value} {ux4_6 : Value} {xsx4_6 : List Value} {x1 : GCluster} {l3 : List ByteArray} {x4 : GCluster} {l6 : List ByteArray} {fu : Nat} {r : Bool × GCluster × (List ByteArray) × GCluster × (List ByteArray)} (hS : St w (lentX [.box bx1 cx1 90, .stk ux1_6 9 1 xsx1_6, .box bx4 cx4 90, .stk ux4_6 9 1 xsx4_6]) M [.box bx1 cx1 90, .stk ux1_6 9 1 xsx1_6, .box bx4 cx4 90, .stk ux4_6 9 1 xsx4_6] w) (hcx1 : rep M cx1 x1) (hkx1_6 : skr M ux1_6 xsx1_6 l3) (hpx1_6 : sl cx1 1993 1 = [ux1_6]) (hcx4 : rep M cx4 x4) (hkx4_6 : skr M ux4_6 xsx4_6 l6) (hpx4_6 : sl cx4 1993 1 = [ux4_6]) (hz : topSame_D fu x1 l3 x4 l6 = some r) :
    Calls Try.prog 40 #[.pointer (some ⟨bx1, 0, none⟩), .pointer (some ⟨bx4, 0, none⟩)] w (GivesL M w [.box bx1 cx1 90, .stk ux1_6 9 1 xsx1_6, .box bx4 cx4 90, .stk ux4_6 9 1 xsx4_6] (fun M' u L' => ∃ k0 u1 x1 k2 u3 x3, u = .bool r.1 ∧ L' = [.box bx1 k0 90, .stk u1 9 1 x1, .box bx4 k2 90, .stk u3 9 1 x3] ∧ rep M' k0 r.2.1 ∧ skr M' u1 x1 r.2.2.1 ∧ sl k0 1993 1 = [u1] ∧ rep M' k2 r.2.2.2.1 ∧ skr M' u3 x3 r.2.2.2.2 ∧ sl k2 1993 1 = [u3])) := by
 refine Zf Try.func40 rfl 62 rfl rfl (by kernel_rfl) fun T hT => ?_
 have hT_0 : T 0 = .pointer (some ⟨bx1, 0, none⟩) := hT 0
 have hT_1 : T 1 = .pointer (some ⟨bx4, 0, none⟩) := hT 1
 clear hT
 have hE := Qg w.heap.size (lentX [.box bx1 cx1 90, .stk ux1_6 9 1 xsx1_6, .box bx4 cx4 90, .stk ux4_6 9 1 xsx4_6]) M
 rw [topSame_D] at hz
 refine Qh <|Qi <|Qc (Qk (.bool false) rfl) ?_
 refine Qf (Qa ?_)
 refine Qh <|Qh <|Qi <|Qc (Qe (.int .i64 0) rfl) ?_
 refine Qf (Qa ?_)
 refine Qy ?_
 refine Z1 (fun k26 T' w' => ∃ M8 cs10 d11 cs12 d13 v14 xs15 l16 v19 xs20 l21 y24, Mm.ext w.heap.size (lentX [.box bx1 cx1 90, .stk ux1_6 9 1 xsx1_6, .box bx4 cx4 90, .stk ux4_6 9 1 xsx4_6]) M M8 ∧ St w (lentX [.box bx1 cx1 90, .stk ux1_6 9 1 xsx1_6, .box bx4 cx4 90, .stk ux4_6 9 1 xsx4_6]) M8 [.box bx1 cs10 90, .stk v14 9 1 xs15, .box bx4 cs12 90, .stk v19 9 1 xs20] w' ∧ rep M8 cs10 d11 ∧ rep M8 cs12 d13 ∧ skr M8 v14 xs15 l16 ∧ sl cs10 (0 + 1993) 1 = [v14] ∧ skr M8 v19 xs20 l21 ∧ sl cs12 (0 + 1993) 1 = [v19] ∧ T' 0 = .pointer (some ⟨bx1, 0, none⟩) ∧ T' 1 = .pointer (some ⟨bx4, 0, none⟩) ∧ T' 11 = .int .i64 y24 ∧ topSame__l1 fu k26 d11 d13 l16 l21 y24 = some r) fu ?_ ?_ ?_
 exact ⟨M, cx1, x1, cx4, x4, ux1_6, xsx1_6, l3, ux4_6, xsx4_6, l6, (0 : Int), (Qg _ _ _), hS, hcx1, hcx4, hkx1_6, hpx1_6, hkx4_6, hpx4_6, hT_0, hT_1, rfl, hz⟩
 rintro T' w' ⟨_, _, _, _, _, _, _, _, _, _, _, _, _, _, _, _, _, _, _, _, _, _, _, hz⟩
 rw [topSame__l1] at hz
 cases hz
 intro k26
 rintro T9 w7 ⟨M8, cs10, d11, cs12, d13, v14, xs15, l16, v19, xs20, l21, y24, hx28, hS, hb10, hb12, hk17, hp18, hk22, hp23, hT9_0, hT9_1, hT9_11, hz⟩
 replace hE := Qd hE hx28
 have hF27 := hx28
 rw [topSame__l1] at hz
 obtain ⟨rec25, hrec25⟩ : ∃ f, f = topSame__l1 fu k26 := ⟨_, rfl⟩
 rw [← hrec25] at hz
 refine Qh <|Qi <|Qc (Zt hT9_11 rfl) ?_
 refine Qf (Qa ?_)
 refine Qh ?_
 refine Qr rfl (fun hc29 => ?_) (fun hc29 => ?_)
 replace hz := Qn hz hc29
 refine Qu (Qa ?_)
 refine Qz (fun T' w' => ∃ M31 cs33 d34 cs35 d36 v37 xs38 l39 v42 xs43 l44, Mm.ext w.heap.size (lentX [.box bx1 cx1 90, .stk ux1_6 9 1 xsx1_6, .box bx4 cx4 90, .stk ux4_6 9 1 xsx4_6]) M8 M31 ∧ St w (lentX [.box bx1 cx1 90, .stk ux1_6 9 1 xsx1_6, .box bx4 cx4 90, .stk ux4_6 9 1 xsx4_6]) M31 [.box bx1 cs33 90, .stk v37 9 1 xs38, .box bx4 cs35 90, .stk v42 9 1 xs43] w' ∧ rep M31 cs33 d34 ∧ rep M31 cs35 d36 ∧ skr M31 v37 xs38 l39 ∧ sl cs33 (0 + 1993) 1 = [v37] ∧ skr M31 v42 xs43 l44 ∧ sl cs35 (0 + 1993) 1 = [v42] ∧ T' 0 = .pointer (some ⟨bx1, 0, none⟩) ∧ T' 1 = .pointer (some ⟨bx4, 0, none⟩) ∧ T' 11 = .int .i64 y24 ∧ topSame__j1 y24 rec25 d34 d36 l39 l44 = some r) ?_ ?_
 have hF48 := Qg w.heap.size (lentX [.box bx1 cx1 90, .stk ux1_6 9 1 xsx1_6, .box bx4 cx4 90, .stk ux4_6 9 1 xsx4_6]) M8
 refine Qy <|Qh <|Qi <|Qc (Qe (.int .i64 y24) hT9_11) <|Qc (Qk (.int .i64 y24) rfl) ?_
 refine Qf (Qa ?_)
 refine Qh <|Qi <|Qc (Qe (.pointer (some ⟨bx1, 0, none⟩)) hT9_0) <|Qc (Qe (.int .i64 y24) rfl) ?_
 obtain ⟨r51, hr50, hz⟩ := Qb hz
 refine Qt (Zn (vs := [.pointer (some ⟨bx1, 0, none⟩), .int .i64 y24]) (L := [.box bx1 cs10 90]) (R := [.stk v14 9 1 xs15, .box bx4 cs12 90, .stk v19 9 1 xs20]) (rv := (fun M' u L' => ∃ c0, u = .tuple #[.agg c0.toArray, .bool r51.2] ∧ L' = [.box bx1 cs10 90] ∧ rep M' c0 r51.1)) cb17 (Zy rfl rfl) hS (hS.sel [0, 1, 2, 3] (by decide) rfl) (fun hS => clNode_ok hS hb10 hr50) ?_)
 rintro u50 M50 w49 L50 hx50 ⟨c0_50, rfl, hL50, f50_0⟩ hS
 replace hS := hS _ hL50
 replace hb12 := Rep.mono hx50.1 hb12
 refine Qc (Qe (.tuple #[.agg c0_50.toArray, .bool r51.2]) rfl) <|Qc (Q9 (v := .agg c0_50.toArray) rfl rfl) <|Qc (Q9 (v := .bool r51.2) rfl rfl) ?_
 refine Qt (Zk tz34 hS ?_)
 intro b53 w52 hb53 hS
 have zb53 : rep M50 (Zr.zc GNode) (Zr.zd : GNode) := Zr.zr
 obtain ⟨d56, hd55, hz⟩ := Qb hz
 refine Qt (Q7 0 201 hS rfl zb53 rfl rfl f50_0 rfl rfl (Lf (rr zb53) f50_0) hd55 ?_)
 intro cs55 w54 hb55 ha55 hs55 hS
 refine Qc (Qk (.bool r51.2) rfl) ?_
 refine Qf (Qa ?_)
 refine Qh <|Qi <|Qc (Qe (.pointer (some ⟨bx4, 0, none⟩)) hT9_1) <|Qc (Qe (.int .i64 y24) rfl) ?_
 obtain ⟨r59, hr58, hz⟩ := Qb hz
 refine Qt (Zn (vs := [.pointer (some ⟨bx4, 0, none⟩), .int .i64 y24]) (L := [.box bx4 cs12 90]) (R := [.box b53 cs55 34, .box bx1 cs10 90, .stk v14 9 1 xs15, .stk v19 9 1 xs20]) (rv := (fun M' u L' => ∃ c0, u = .tuple #[.agg c0.toArray, .bool r59.2] ∧ L' = [.box bx4 cs12 90] ∧ rep M' c0 r59.1)) cb17 (Zy rfl rfl) hS (hS.sel [3, 0, 1, 2, 4] (by decide) rfl) (fun hS => clNode_ok hS hb12 hr58) ?_)
 rintro u58 M58 w57 L58 hx58 ⟨c0_58, rfl, hL58, f58_0⟩ hS
 replace hS := hS _ hL58
 replace hb10 := Rep.mono (hx50.1.trans hx58.1) hb10
 replace hb12 := Rep.mono hx58.1 hb12
 replace hk17 := Zd (hx50.1.trans hx58.1) hk17
 replace hk22 := Zd (hx50.1.trans hx58.1) hk22
 replace hb55 := Rep.mono hx58.1 hb55
 replace hE := Qd hE (hx50.trans hx58)
 replace hF48 := Qd hF48 (hx50.trans hx58)
 refine Qc (Qe (.tuple #[.agg c0_58.toArray, .bool r59.2]) rfl) <|Qc (Q9 (v := .agg c0_58.toArray) rfl rfl) <|Qc (Q9 (v := .bool r59.2) rfl rfl) ?_
 refine Qt (Zk tz34 hS ?_)
 intro b61 w60 hb61 hS
 have zb61 : rep M58 (Zr.zc GNode) (Zr.zd : GNode) := Zr.zr
 obtain ⟨d64, hd63, hz⟩ := Qb hz
 refine Qt (Q7 0 201 hS rfl zb61 rfl rfl f58_0 rfl rfl (Lf (rr zb61) f58_0) hd63 ?_)
 intro cs63 w62 hb63 ha63 hs63 hS
 refine Qc (Qk (.bool r59.2) rfl) ?_
 refine Qf (Qa ?_)
 refine Qz (fun T' w' => ∃ M66 cs68 d69 cs70 d71 c74, Mm.ext w.heap.size (lentX [.box bx1 cx1 90, .stk ux1_6 9 1 xsx1_6, .box bx4 cx4 90, .stk ux4_6 9 1 xsx4_6]) M58 M66 ∧ St w (lentX [.box bx1 cx1 90, .stk ux1_6 9 1 xsx1_6, .box bx4 cx4 90, .stk ux4_6 9 1 xsx4_6]) M66 [.box b61 cs63 34, .box bx4 cs68 90, .box b53 cs55 34, .box bx1 cs70 90, .stk v14 9 1 xs15, .stk v19 9 1 xs20] w' ∧ rep M66 cs68 d69 ∧ rep M66 cs70 d71 ∧ sl cs70 (0 + 1993) 1 = [v14] ∧ sl cs68 (0 + 1993) 1 = [v19] ∧ T' 0 = .pointer (some ⟨bx1, 0, none⟩) ∧ T' 1 = .pointer (some ⟨bx4, 0, none⟩) ∧ T' 11 = .int .i64 y24 ∧ T' 43 = .bool c74 ∧ topSame__j2 l16 l21 y24 rec25 d69 d71 c74 = some r) ?_ ?_
 have hF77 := Qg w.heap.size (lentX [.box bx1 cx1 90, .stk ux1_6 9 1 xsx1_6, .box bx4 cx4 90, .stk ux4_6 9 1 xsx4_6]) M58
 refine Qi ?_
 have ha78 := (rr hb55)
 refine Qc (Za Vi rfl (hS.bvB 2 rfl) (Rep.len ha78)) ?_
 have ha79 := (rr hb63)
 refine Qc (Za Vi rfl (hS.bvB 0 rfl) (Rep.len ha79)) ?_
 obtain ⟨r82, hr81, hz⟩ := Qb hz
 refine Qt (Z0 (vs := [.agg (sl cs55 (0) 201).toArray, .agg (sl cs63 (0) 201).toArray]) (v := .bool r82) cb18 (Zy rfl rfl) hS (topSameNode_ok hS.agree ha78 ha79 hr81) ?_)
 intro w80 hS
 refine Qc (Yc rfl) <|Qc (Qe (.bool (!r82)) rfl) ?_
 rcases ic hz with ⟨hc83, hz⟩ | ⟨hc83, hz⟩ <;> rw [hc83]
 refine Q1 13 rfl ?_
 refine Qf (Qa ?_)
 exact ⟨M58, cs12, d13, cs10, d11, true, hF77, hS, hb12, hb10, hp18, hp23, hT9_0, hT9_1, hT9_11, rfl, hz⟩
 refine Q1 2 rfl <|Qj rfl rfl (Y_neB rfl rfl Vc) <|Q1 2 rfl ?_
 rcases ic hz with ⟨hc84, hz⟩ | ⟨hc84, hz⟩ <;> rw [hc84]
 refine Q1 8 rfl ?_
 refine Qf (Qa ?_)
 exact ⟨M58, cs12, d13, cs10, d11, true, hF77, hS, hb12, hb10, hp18, hp23, hT9_0, hT9_1, hT9_11, rfl, hz⟩
 refine Qj rfl rfl (Qe (.pointer (some ⟨bx1, 0, none⟩)) hT9_0) <|Qj rfl rfl (Qe (.int .i64 y24) rfl) ?_
 obtain ⟨r87, hr86, hz⟩ := Qb hz
 refine Vv rfl rfl (Zn (vs := [.pointer (some ⟨bx1, 0, none⟩), .int .i64 y24]) (L := [.box bx1 cs10 90]) (R := [.box b61 cs63 34, .box bx4 cs12 90, .box b53 cs55 34, .stk v14 9 1 xs15, .stk v19 9 1 xs20]) (rv := (fun M' u L' => u = .string r87 ∧ L' = [.box bx1 cs10 90])) cb38 (Zy rfl rfl) hS (hS.sel [3, 0, 1, 2, 4, 5] (by decide) rfl) (fun hS => clLog_ok hS hb10 hr86) ?_)
 rintro u86 M86 w85 L86 hx86 ⟨rfl, hL86⟩ hS
 replace hS := hS _ hL86
 replace hb12 := Rep.mono hx86.1 hb12
 refine Qj rfl rfl (Qe (.pointer (some ⟨bx4, 0, none⟩)) hT9_1) <|Qj rfl rfl (Qe (.int .i64 y24) rfl) ?_
 obtain ⟨r90, hr89, hz⟩ := Qb hz
 refine Vv rfl rfl (Zn (vs := [.pointer (some ⟨bx4, 0, none⟩), .int .i64 y24]) (L := [.box bx4 cs12 90]) (R := [.box bx1 cs10 90, .box b61 cs63 34, .box b53 cs55 34, .stk v14 9 1 xs15, .stk v19 9 1 xs20]) (rv := (fun M' u L' => u = .string r90 ∧ L' = [.box bx4 cs12 90])) cb38 (Zy rfl rfl) hS (hS.sel [2, 0, 1, 3, 4, 5] (by decide) rfl) (fun hS => clLog_ok hS hb12 hr89) ?_)
 rintro u89 M89 w88 L89 hx89 ⟨rfl, hL89⟩ hS
 replace hS := hS _ hL89
 replace hb10 := Rep.mono (hx86.1.trans hx89.1) hb10
 replace hb12 := Rep.mono hx89.1 hb12
 replace hF77 := Qd hF77 (hx86.trans hx89)
 refine Qj rfl rfl (Y_neS rfl rfl) <|Qc (Zi (.bool (!(r87.toList == r90.toList))) rfl rfl) ?_
 refine Qf (Qa ?_)
 exact ⟨M89, cs12, d13, cs10, d11, (!(r87.toList == r90.toList)), hF77, (hS.sel (H' := [.box b61 cs63 34, .box bx4 cs12 90, .box b53 cs55 34, .box bx1 cs10 90, .stk v14 9 1 xs15, .stk v19 9 1 xs20]) [2, 0, 3, 1, 4, 5] (by decide) rfl), hb12, hb10, hp18, hp23, hT9_0, hT9_1, hT9_11, rfl, hz⟩
 rintro T67 w65 ⟨M66, cs68, d69, cs70, d71, c74, hx75, hS, hb68, hb70, hp72, hp73, hT67_0, hT67_1, hT67_11, hT67_43, hz⟩
 replace hk17 := Zd hx75.1 hk17
 replace hk22 := Zd hx75.1 hk22
 replace hE := Qd hE hx75
 replace hF48 := Qd hF48 hx75
 rw [topSame__j2] at hz
 refine Qr hT67_43 (fun hc76 => ?_) (fun hc76 => ?_)
 replace hz := Qn hz hc76
 refine Qh <|Qi <|Qc (Qk (.bool false) rfl) ?_
 refine Qf (Qa ?_)
 cases hz
 exact Q4 (Zb (Qq (Qq (Zb (Qq (Yg rfl rfl ⟨_, M66, _, rfl, hE, (hS.sel (H' := [.box bx1 cs70 90, .stk v14 9 1 xs15, .box bx4 cs68 90, .stk v19 9 1 xs20]) [3, 4, 1, 5] (by decide) rfl), cs70, v14, xs15, cs68, v19, xs20, rfl, rfl, hb70, hk17, hp72, hb68, hk22, hp73⟩))))))
 replace hz := Qo hz hc76
 refine Qu (Q8 ?_)
 refine (Qa ?_)
 exact ⟨M66, cs70, d71, cs68, d69, v14, xs15, l16, v19, xs20, l21, hF48, (hS.sel (H' := [.box bx1 cs70 90, .stk v14 9 1 xs15, .box bx4 cs68 90, .stk v19 9 1 xs20]) [3, 4, 1, 5] (by decide) rfl), hb70, hb68, hk17, hp72, hk22, hp73, hT67_0, hT67_1, hT67_11, hz⟩
 rintro T32 w30 ⟨M31, cs33, d34, cs35, d36, v37, xs38, l39, v42, xs43, l44, hx47, hS, hb33, hb35, hk40, hp41, hk45, hp46, hT32_0, hT32_1, hT32_11, hz⟩
 replace hF27 := Qd hF27 hx47
 rw [topSame__j1] at hz
 refine Qi <|Qc (Z2 hT32_11 rfl) <|Qc (Qe (.int .i64 (IntKind.wrap .i64 (y24 + 1))) rfl) ?_
 refine Qf (Qa ?_)
 exact ⟨M31, cs33, d34, cs35, d36, v37, xs38, l39, v42, xs43, l44, (IntKind.wrap .i64 (y24 + 1)), hF27, hS, hb33, hb35, hk40, hp41, hk45, hp46, hT32_0, hT32_1, rfl, (by rw [← hrec25]; exact hz)⟩
 replace hz := Qo hz hc29
 refine Zu <|Q0 <|Q0 <|Zv ?_
 refine (Qa ?_)
 refine Qh <|Qh <|Qi <|Qc (Qe (.int .i64 0) rfl) ?_
 refine Qf (Qa ?_)
 refine Qy ?_
 refine Z1 (fun k102 T' w' => ∃ M92 cs94 d95 cs96 d97 y100, Mm.ext w.heap.size (lentX [.box bx1 cx1 90, .stk ux1_6 9 1 xsx1_6, .box bx4 cx4 90, .stk ux4_6 9 1 xsx4_6]) M8 M92 ∧ St w (lentX [.box bx1 cx1 90, .stk ux1_6 9 1 xsx1_6, .box bx4 cx4 90, .stk ux4_6 9 1 xsx4_6]) M92 [.box bx1 cs94 90, .stk v14 9 1 xs15, .box bx4 cs96 90, .stk v19 9 1 xs20] w' ∧ rep M92 cs94 d95 ∧ rep M92 cs96 d97 ∧ sl cs94 (0 + 1993) 1 = [v14] ∧ sl cs96 (0 + 1993) 1 = [v19] ∧ T' 0 = .pointer (some ⟨bx1, 0, none⟩) ∧ T' 1 = .pointer (some ⟨bx4, 0, none⟩) ∧ T' 45 = .int .i64 y100 ∧ topSame__l2 fu l16 l21 k102 d95 d97 y100 = some r) fu ?_ ?_ ?_
 exact ⟨M8, cs10, d11, cs12, d13, (0 : Int), (Qg _ _ _), hS, hb10, hb12, hp18, hp23, hT9_0, hT9_1, rfl, hz⟩
 rintro T' w' ⟨_, _, _, _, _, _, _, _, _, _, _, _, _, _, _, hz⟩
 rw [topSame__l2] at hz
 cases hz
 intro k102
 rintro T93 w91 ⟨M92, cs94, d95, cs96, d97, y100, hx104, hS, hb94, hb96, hp98, hp99, hT93_0, hT93_1, hT93_45, hz⟩
 replace hk17 := Zd hx104.1 hk17
 replace hk22 := Zd hx104.1 hk22
 replace hE := Qd hE hx104
 have hF103 := hx104
 rw [topSame__l2] at hz
 obtain ⟨rec101, hrec101⟩ : ∃ f, f = topSame__l2 fu l16 l21 k102 := ⟨_, rfl⟩
 rw [← hrec101] at hz
 refine Qh <|Qi <|Qc (Zt hT93_45 rfl) ?_
 refine Qf (Qa ?_)
 refine Qh ?_
 refine Qr rfl (fun hc105 => ?_) (fun hc105 => ?_)
 replace hz := Qn hz hc105
 refine Qu (Qa ?_)
 refine Qh <|Qy <|Qh <|Qi <|Qc (Qe (.int .i64 y100) hT93_45) <|Qc (Qk (.int .i64 y100) rfl) ?_
 refine Qf (Qa ?_)
 refine Qh <|Qi <|Qc (Qe (.pointer (some ⟨bx1, 0, none⟩)) hT93_0) <|Qc (Qe (.int .i64 y100) rfl) ?_
 obtain ⟨r108, hr107, hz⟩ := Qb hz
 refine Qt (Zn (vs := [.pointer (some ⟨bx1, 0, none⟩), .int .i64 y100]) (L := [.box bx1 cs94 90]) (R := [.stk v14 9 1 xs15, .box bx4 cs96 90, .stk v19 9 1 xs20]) (rv := (fun M' u L' => ∃ c0, u = .agg c0.toArray ∧ L' = [.box bx1 cs94 90] ∧ rep M' c0 r108)) cb20 (Zy rfl rfl) hS (hS.sel [0, 1, 2, 3] (by decide) rfl) (fun hS => clCase_ok hS hb94 hr107) ?_)
 rintro u107 M107 w106 L107 hx107 ⟨c0_107, rfl, hL107, f107_0⟩ hS
 replace hS := hS _ hL107
 replace hb96 := Rep.mono hx107.1 hb96
 refine Qc (Qe (.pointer (some ⟨bx4, 0, none⟩)) hT93_1) <|Qc (Qe (.int .i64 y100) rfl) ?_
 obtain ⟨r111, hr110, hz⟩ := Qb hz
 refine Qt (Zn (vs := [.pointer (some ⟨bx4, 0, none⟩), .int .i64 y100]) (L := [.box bx4 cs96 90]) (R := [.box bx1 cs94 90, .stk v14 9 1 xs15, .stk v19 9 1 xs20]) (rv := (fun M' u L' => ∃ c0, u = .agg c0.toArray ∧ L' = [.box bx4 cs96 90] ∧ rep M' c0 r111)) cb20 (Zy rfl rfl) hS (hS.sel [2, 0, 1, 3] (by decide) rfl) (fun hS => clCase_ok hS hb96 hr110) ?_)
 rintro u110 M110 w109 L110 hx110 ⟨c0_110, rfl, hL110, f110_0⟩ hS
 replace hS := hS _ hL110
 replace hk17 := Zd (hx107.1.trans hx110.1) hk17
 replace hk22 := Zd (hx107.1.trans hx110.1) hk22
 replace hb94 := Rep.mono (hx107.1.trans hx110.1) hb94
 replace hb96 := Rep.mono hx110.1 hb96
 replace f107_0 := Rep.mono hx110.1 f107_0
 replace hE := Qd hE (hx107.trans hx110)
 replace hF103 := Qd hF103 (hx107.trans hx110)
 obtain ⟨r114, hr113, hz⟩ := Qb hz
 refine Qt (Z0 (vs := [.agg c0_107.toArray, .agg c0_110.toArray]) (v := .bool r114) cb63 (Zy rfl rfl) hS (topSameCase_ok hS.agree f107_0 f110_0 hr113) ?_)
 intro w112 hS
 refine Qc (Yc rfl) ?_
 refine Qf (Qa ?_)
 refine Qr rfl (fun hc115 => ?_) (fun hc115 => ?_)
 replace hz := Qn hz hc115
 refine Qh <|Qi <|Qc (Qk (.bool false) rfl) ?_
 refine Qf (Qa ?_)
 cases hz
 exact Q4 (Zb (Qq (Qq (Zb (Qq (Yg rfl rfl ⟨_, M110, _, rfl, hE, (hS.sel (H' := [.box bx1 cs94 90, .stk v14 9 1 xs15, .box bx4 cs96 90, .stk v19 9 1 xs20]) [1, 2, 0, 3] (by decide) rfl), cs94, v14, xs15, cs96, v19, xs20, rfl, rfl, hb94, hk17, hp98, hb96, hk22, hp99⟩))))))
 replace hz := Qo hz hc115
 refine Qu (Q8 ?_)
 refine (Qa ?_)
 refine Qi <|Qc (Z2 hT93_45 rfl) <|Qc (Qe (.int .i64 (IntKind.wrap .i64 (y100 + 1))) rfl) ?_
 refine Qf (Qa ?_)
 exact ⟨M110, cs94, d95, cs96, d97, (IntKind.wrap .i64 (y100 + 1)), hF103, (hS.sel (H' := [.box bx1 cs94 90, .stk v14 9 1 xs15, .box bx4 cs96 90, .stk v19 9 1 xs20]) [1, 2, 0, 3] (by decide) rfl), hb94, hb96, hp98, hp99, hT93_0, hT93_1, rfl, (by rw [← hrec101]; exact hz)⟩
 replace hz := Qo hz hc105
 refine Zu <|Q0 <|Q0 <|Zv ?_
 refine (Qa ?_)
 refine Qh <|Qi <|Qc (Qe (.pointer (some ⟨bx1, 0, none⟩)) hT93_0) ?_
 obtain ⟨r118, hr117, hz⟩ := Qb hz
 refine Qt (Zn (vs := [.pointer (some ⟨bx1, 0, none⟩)]) (L := [.box bx1 cs94 90, .stk v14 9 1 xs15]) (R := [.box bx4 cs96 90, .stk v19 9 1 xs20]) (rv := (fun M' u L' => ∃ v0 u1 x1, u = v0 ∧ L' = [.box bx1 cs94 90, .stk u1 9 1 x1] ∧ repL M' v0 r118.1 ∧ skr M' u1 x1 r118.2 ∧ sl cs94 1993 1 = [u1])) cb32 (Zw rfl) hS (hS.sel [0, 1, 2, 3] (by decide) rfl) (fun hS => clNet_ok hS hb94 hk17 hp98 hr117) ?_)
 rintro u117 M117 w116 L117 hx117 ⟨v0_117, u1_117, x1_117, rfl, hL117, f117_0, f117_1, f117_2⟩ hS
 replace hS := hS _ hL117
 replace hk22 := Zd hx117.1 hk22
 replace hb96 := Rep.mono hx117.1 hb96
 refine Qc (Qe (.pointer (some ⟨bx4, 0, none⟩)) hT93_1) ?_
 obtain ⟨r121, hr120, hz⟩ := Qb hz
 refine Qt (Zn (vs := [.pointer (some ⟨bx4, 0, none⟩)]) (L := [.box bx4 cs96 90, .stk v19 9 1 xs20]) (R := [.box bx1 cs94 90, .stk u1_117 9 1 x1_117]) (rv := (fun M' u L' => ∃ v0 u1 x1, u = v0 ∧ L' = [.box bx4 cs96 90, .stk u1 9 1 x1] ∧ repL M' v0 r121.1 ∧ skr M' u1 x1 r121.2 ∧ sl cs96 1993 1 = [u1])) cb32 (Zw rfl) hS (hS.sel [2, 3, 0, 1] (by decide) rfl) (fun hS => clNet_ok hS hb96 hk22 hp99 hr120) ?_)
 rintro u120 M120 w119 L120 hx120 ⟨v0_120, u1_120, x1_120, rfl, hL120, f120_0, f120_1, f120_2⟩ hS
 replace hS := hS _ hL120
 replace hb94 := Rep.mono (hx117.1.trans hx120.1) hb94
 replace hb96 := Rep.mono hx120.1 hb96
 replace f117_0 := Qv hx120.1 f117_0
 replace f117_1 := Zd hx120.1 f117_1
 replace hE := Qd hE (hx117.trans hx120)
 obtain ⟨r124, hr123, hz⟩ := Qb hz
 refine Qt (Z0 (vs := [u117, u120]) (v := .bool r124) cb64 (Zy rfl rfl) hS (topSameTexts_ok hS.agree f117_0 f120_0 hr123) ?_)
 intro w122 hS
 refine Qc (Qk (.bool r124) rfl) ?_
 refine Qf (Qa ?_)
 cases hz
 exact Q4 (Yg rfl rfl ⟨_, M120, _, rfl, hE, (hS.sel (H' := [.box bx1 cs94 90, .stk u1_117 9 1 x1_117, .box bx4 cs96 90, .stk u1_120 9 1 x1_120]) [2, 3, 0, 1] (by decide) rfl), cs94, u1_117, x1_117, cs96, u1_120, x1_120, rfl, rfl, hb94, f117_1, f117_2, hb96, f120_1, f120_2⟩)
def topSameReply_j1 (c10 : Bool) : Option Bool :=
 some c10
def topSameReplyD (fu : Nat) (x1 : GReply) (x2 : GReply) : Option Bool :=
 (bif x1.code == x2.code then
 (bif x1.n == x2.n then
 (topSameNumbersD fu x1.values x2.values).bind fun r19 =>
 topSameReply_j1 r19
 else
 topSameReply_j1 false)
 else
 topSameReply_j1 false)
set_option maxRecDepth 100000 in
set_option maxHeartbeats 4000000 in
theorem topSameReply_ok {M : Mm} {w : World} {cx1 : List Value} {cx2 : List Value} {x1 : GReply} {x2 : GReply} {fu : Nat} {r : Bool} (hA : Agree M w) (hcx1 : rep M cx1 x1) (hcx2 : rep M cx2 x2) (hz : topSameReplyD fu x1 x2 = some r) :
    Calls Try.prog 35 #[.agg cx1.toArray, .agg cx2.toArray] w (GivesV w (.bool r)) := by
 refine Zf Try.func35 rfl 24 rfl rfl (by kernel_rfl) fun T hT => ?_
 have hT_0 : T 0 = .agg cx1.toArray := hT 0
 have hT_1 : T 1 = .agg cx2.toArray := hT 1
 clear hT
 have hE := Qg w.heap.size noX M
 have hS : St w noX M [] w := Zq hA
 rw [topSameReplyD] at hz
 refine Qh <|Qi ?_
 refine Qt (Yl (v := .agg cx1.toArray) (cs := cx1) hT_0 rfl hS ?_)
 intro b4 w3 hb4 hS
 refine Qt (Yl (v := .agg cx2.toArray) (cs := cx2) hT_1 rfl hS ?_)
 intro b6 w5 hb6 hS
 refine Qc (Qk (.bool false) rfl) ?_
 refine Qf (Qa ?_)
 refine Qz (fun T' w' => ∃ M8 c10, Mm.ext w.heap.size noX M M8 ∧ St w noX M8 [.box b6 cx2 40, .box b4 cx1 40] w' ∧ T' 4 = .bool c10 ∧ topSameReply_j1 c10 = some r) ?_ ?_
 have hF12 := Qg w.heap.size noX M
 refine Qi <|Qc (Qp fa40_0 rfl) <|Qc (Ql (.int .i64 x1.code) ts38 rfl (hS.bvB 1 rfl) (K0 (rr hcx1))) <|Qc (Qp fa40_0 rfl) <|Qc (Ql (.int .i64 x2.code) ts38 rfl (hS.bvB 0 rfl) (K0 (rr hcx2))) <|Qc (Yh rfl rfl) <|Qc (Qe (.bool (x1.code == x2.code)) rfl) ?_
 rcases ic hz with ⟨hc13, hz⟩ | ⟨hc13, hz⟩ <;> rw [hc13]
 refine Qj rfl rfl (Qp fa40_1 rfl) <|Qj rfl rfl (Ql (.int .i64 x1.n) Yd rfl (hS.bvB 1 rfl) (GReply.p1 (rr hcx1))) <|Qj rfl rfl (Qp fa40_1 rfl) <|Qj rfl rfl (Ql (.int .i64 x2.n) Yd rfl (hS.bvB 0 rfl) (GReply.p1 (rr hcx2))) <|Qj rfl rfl (Yh rfl rfl) <|Q1 2 rfl ?_
 rcases ic hz with ⟨hc14, hz⟩ | ⟨hc14, hz⟩ <;> rw [hc14]
 refine Qj rfl rfl (Qp fa40_2 rfl) ?_
 obtain ⟨v15, ev15, hv15⟩ := (GReply.p2 (rr hcx1))
 refine Qj rfl rfl (Ql v15 Zz rfl (hS.bvB 1 rfl) ev15) <|Qj rfl rfl (Qp fa40_2 rfl) ?_
 obtain ⟨v16, ev16, hv16⟩ := (GReply.p2 (rr hcx2))
 refine Qj rfl rfl (Ql v16 Zz rfl (hS.bvB 0 rfl) ev16) ?_
 obtain ⟨r19, hr18, hz⟩ := Qb hz
 refine Vv rfl rfl (Z0 (vs := [v15, v16]) (v := .bool r19) cb29 (Zy rfl rfl) hS (topSameNumbers_ok hS.agree hv15 hv16 hr18) ?_)
 intro w17 hS
 refine Q1 2 rfl ?_
 refine Qf (Qa ?_)
 exact ⟨M, r19, hF12, hS, rfl, hz⟩
 refine Q1 7 rfl ?_
 refine Qf (Qa ?_)
 exact ⟨M, false, hF12, hS, rfl, hz⟩
 refine Q1 14 rfl ?_
 refine Qf (Qa ?_)
 exact ⟨M, false, hF12, hS, rfl, hz⟩
 rintro T9 w7 ⟨M8, c10, hx11, hS, hT9_4, hz⟩
 rw [topSameReply_j1] at hz
 cases hz
 exact Q4 (Yg rfl hT9_4 ⟨rfl, (Qm (Qm hS)).kept⟩)
def topEnds_j2 (y35 : Int) (rec36 : GCluster → GCluster → (List ByteArray) → (List ByteArray) → Int → Option Bool) (d45 : GCluster) (d47 : GCluster) (l50 : List ByteArray) (l55 : List ByteArray) : Option Bool :=
 rec36 d45 d47 l50 l55 (IntKind.wrap .i64 (y35 + 1))
def topEnds_j3 (y35 : Int) (rec36 : GCluster → GCluster → (List ByteArray) → (List ByteArray) → Int → Option Bool) (d64 : GCluster) (d66 : GCluster) (l69 : List ByteArray) (l74 : List ByteArray) (c77 : Bool) : Option Bool :=
 (bif c77 then
 some false
 else
 topEnds_j2 y35 rec36 d64 d66 l69 l74)
def topEnds_j4 (d96 : GCluster) (d98 : GCluster) (l101 : List ByteArray) (l106 : List ByteArray) (c109 : Bool) : Option Bool :=
 some c109
def topEnds_l1 (fu : Nat) (x2 : GAct) : Nat → GCluster → GCluster → (List ByteArray) → (List ByteArray) → Int → Option Bool
 | 0, _, _, _, _, _ => none
 | n + 1, d22, d24, l27, l32, y35 =>
 (bif decide (y35 < 400) then
 (some ({ kind := Zr.zd, n := Zr.zd, m := Zr.zd, ops := Zr.zd } : GAct)).bind fun d82 =>
 (clDoD fu d24 l27 d82).bind fun r85 =>
 (bif r85.1.code != 3 then
 topEnds_j3 y35 (topEnds_l1 fu x2 n) d22 r85.2.1 r85.2.2 l32 true
 else
 (some ({ kind := Zr.zd, n := Zr.zd, m := Zr.zd, ops := Zr.zd } : GAct)).bind fun d88 =>
 (clDoD fu d22 l32 d88).bind fun r91 =>
 topEnds_j3 y35 (topEnds_l1 fu x2 n) r91.2.1 r85.2.1 r85.2.2 r91.2.2 (r91.1.code != 3))
 else
 (clDoD fu d24 l27 x2).bind fun r115 =>
 (some ({ code := 5, n := Zr.zd, values := Zr.zd } : GReply)).bind fun d117 =>
 (topSameReplyD fu r115.1 d117).bind fun r120 =>
 (bif r120 then
 (topSame_D fu d22 l32 r115.2.1 r115.2.2).bind fun r124 =>
 topEnds_j4 r124.2.1 r124.2.2.2.1 r124.2.2.2.2 r124.2.2.1 r124.1
 else
 topEnds_j4 d22 r115.2.1 r115.2.2 l32 false))
def topEnds_j1 (fu : Nat) (x1 : List GAct) (x2 : GAct) (r7 : GCluster × Bool × (List ByteArray)) (r11 : GCluster × Bool × (List ByteArray)) : Option Bool :=
 topEnds_l1 fu x2 fu r11.1 r7.1 r7.2.2 r11.2.2 (min (x1.length : Int) 150)
def topEnds_j5 (fu : Nat) (x1 : List GAct) (x2 : GAct) (r7 : GCluster × Bool × (List ByteArray)) (r11 : GCluster × Bool × (List ByteArray)) (c129 : Bool) : Option Bool :=
 (bif c129 then
 some false
 else
 topEnds_j1 fu x1 x2 r7 r11)
def topEndsD (fu : Nat) (x1 : List GAct) (x2 : GAct) : Option Bool :=
 (playQD fu x1).bind fun r7 =>
 (playQD fu x1).bind fun r11 =>
 (bif !r7.2.1 then
 topEnds_j5 fu x1 x2 r7 r11 true
 else
 topEnds_j5 fu x1 x2 r7 r11 (!r11.2.1))
set_option maxRecDepth 100000 in
set_option maxHeartbeats 4000000 in
theorem topEnds_ok {M : Mm} {w : World} {vx1 : Value} {cx2 : List Value} {x1 : List GAct} {x2 : GAct} {fu : Nat} {r : Bool} (hA : Agree M w) (hvx1 : repL M vx1 x1) (hcx2 : rep M cx2 x2) (hz : topEndsD fu x1 x2 = some r) :
    Calls Try.prog 14 #[vx1, .agg cx2.toArray] w (GivesV w (.bool r)) := by
 refine Zf Try.func14 rfl 55 rfl rfl (by kernel_rfl) fun T hT => ?_
 have hT_0 : T 0 = vx1 := hT 0
 have hT_1 : T 1 = .agg cx2.toArray := hT 1
 clear hT
 have hE := Qg w.heap.size noX M
 have hS : St w noX M [] w := Zq hA
 rw [topEndsD] at hz
 refine Qh <|Qi ?_
 refine Qt (Yl (v := .agg cx2.toArray) (cs := cx2) hT_1 rfl hS ?_)
 intro b4 w3 hb4 hS
 refine Qc (Qk (.bool false) rfl) ?_
 refine Qf (Qa ?_)
 refine Qh <|Qi <|Qc (Qe (vx1) hT_0) ?_
 obtain ⟨r7, hr6, hz⟩ := Qb hz
 refine Qt (Zn (vs := [vx1, evT (fun _ => undef) (.func 16)]) (L := []) (R := [.box b4 cx2 43]) (rv := (fun M' u L' => ∃ b0 k0 uP6 xP6, u = .tuple #[.pointer (some ⟨b0, 0, none⟩), .bool r7.2.1] ∧ L' = [.box b0 k0 90, .stk uP6 9 1 xP6] ∧ rep M' k0 r7.1 ∧ skr M' uP6 xP6 r7.2.2 ∧ sl k0 1993 1 = [uP6])) cb15 (Zy rfl rfl) hS (hS.sel [0] (by decide) rfl) (fun hS => playQ_ok hS.agree hvx1 hr6) ?_)
 rintro u6 M6 w5 L6 hx6 ⟨b0_6, k0_6, uP6_6, xP6_6, rfl, hL6, f6_0, f6_1, f6_2⟩ hS
 replace hS := hS _ hL6
 replace hvx1 := Qv hx6.1 hvx1
 refine Qc (Qe (.tuple #[.pointer (some ⟨b0_6, 0, none⟩), .bool r7.2.1]) rfl) <|Qc (Q9 (v := .pointer (some ⟨b0_6, 0, none⟩)) rfl rfl) <|Qc (Q9 (v := .bool r7.2.1) rfl rfl) <|Q1 2 rfl ?_
 refine Qf (Qa ?_)
 refine Qh <|Qi <|Qc (Qe (vx1) hT_0) ?_
 obtain ⟨r11, hr10, hz⟩ := Qb hz
 refine Qt (Zn (vs := [vx1, evT (fun _ => undef) (.func 16)]) (L := []) (R := [.box b0_6 k0_6 90, .stk uP6_6 9 1 xP6_6, .box b4 cx2 43]) (rv := (fun M' u L' => ∃ b0 k0 uP6 xP6, u = .tuple #[.pointer (some ⟨b0, 0, none⟩), .bool r11.2.1] ∧ L' = [.box b0 k0 90, .stk uP6 9 1 xP6] ∧ rep M' k0 r11.1 ∧ skr M' uP6 xP6 r11.2.2 ∧ sl k0 1993 1 = [uP6])) cb15 (Zy rfl rfl) hS (hS.sel [0, 1, 2] (by decide) rfl) (fun hS => playQ_ok hS.agree hvx1 hr10) ?_)
 rintro u10 M10 w9 L10 hx10 ⟨b0_10, k0_10, uP6_10, xP6_10, rfl, hL10, f10_0, f10_1, f10_2⟩ hS
 replace hS := hS _ hL10
 replace hvx1 := Qv hx10.1 hvx1
 replace hcx2 := Rep.mono (hx6.1.trans hx10.1) hcx2
 replace f6_0 := Rep.mono hx10.1 f6_0
 replace f6_1 := Zd hx10.1 f6_1
 refine Qc (Qe (.tuple #[.pointer (some ⟨b0_10, 0, none⟩), .bool r11.2.1]) rfl) <|Qc (Q9 (v := .pointer (some ⟨b0_10, 0, none⟩)) rfl rfl) <|Qc (Q9 (v := .bool r11.2.1) rfl rfl) <|Q1 2 rfl ?_
 refine Qf (Qa ?_)
 refine Qz (fun T' w' => ∃ M14, Mm.ext w.heap.size noX M10 M14 ∧ St w noX M14 [.box b0_10 k0_10 90, .stk uP6_10 9 1 xP6_10, .box b0_6 k0_6 90, .stk uP6_6 9 1 xP6_6, .box b4 cx2 43] w' ∧ T' 0 = vx1 ∧ T' 3 = .pointer (some ⟨b4, 0, none⟩) ∧ T' 5 = .pointer (some ⟨b0_6, 0, none⟩) ∧ T' 7 = .pointer (some ⟨b0_10, 0, none⟩) ∧ topEnds_j1 fu x1 x2 r7 r11 = some r) ?_ ?_
 have hF125 := Qg w.heap.size noX M10
 refine Qz (fun T' w' => ∃ M127 c129, Mm.ext w.heap.size noX M10 M127 ∧ St w noX M127 [.box b0_10 k0_10 90, .stk uP6_10 9 1 xP6_10, .box b0_6 k0_6 90, .stk uP6_6 9 1 xP6_6, .box b4 cx2 43] w' ∧ T' 0 = vx1 ∧ T' 3 = .pointer (some ⟨b4, 0, none⟩) ∧ T' 5 = .pointer (some ⟨b0_6, 0, none⟩) ∧ T' 7 = .pointer (some ⟨b0_10, 0, none⟩) ∧ T' 25 = .bool c129 ∧ topEnds_j5 fu x1 x2 r7 r11 c129 = some r) ?_ ?_
 have hF132 := Qg w.heap.size noX M10
 refine Qi <|Qc (Qe (.bool r7.2.1) rfl) <|Qc (Yc rfl) <|Qc (Qe (.bool (!r7.2.1)) rfl) ?_
 rcases ic hz with ⟨hc133, hz⟩ | ⟨hc133, hz⟩ <;> rw [hc133]
 refine Q1 3 rfl ?_
 refine Qf (Qa ?_)
 exact ⟨M10, true, hF132, hS, hT_0, rfl, rfl, rfl, rfl, hz⟩
 refine Qj rfl rfl (Qe (.bool r11.2.1) rfl) <|Qj rfl rfl (Yc rfl) <|Qc (Zi (.bool (!r11.2.1)) rfl rfl) ?_
 refine Qf (Qa ?_)
 exact ⟨M10, (!r11.2.1), hF132, hS, hT_0, rfl, rfl, rfl, rfl, hz⟩
 rintro T128 w126 ⟨M127, c129, hx130, hS, hT128_0, hT128_3, hT128_5, hT128_7, hT128_25, hz⟩
 replace hF125 := Qd hF125 hx130
 rw [topEnds_j5] at hz
 refine Qr hT128_25 (fun hc131 => ?_) (fun hc131 => ?_)
 replace hz := Qn hz hc131
 refine Qh <|Qi <|Qc (Qk (.bool false) rfl) ?_
 refine Qf (Qa ?_)
 cases hz
 exact Q4 (Qq (Yg rfl rfl ⟨rfl, (Qm (Qm (Qm (Qm (Qm hS))))).kept⟩))
 replace hz := Qo hz hc131
 refine Qu (Qa ?_)
 exact ⟨M127, hF125, hS, hT128_0, hT128_3, hT128_5, hT128_7, hz⟩
 rintro T15 w13 ⟨M14, hx16, hS, hT15_0, hT15_3, hT15_5, hT15_7, hz⟩
 replace hvx1 := Qv hx16.1 hvx1
 replace hcx2 := Rep.mono hx16.1 hcx2
 replace f6_0 := Rep.mono hx16.1 f6_0
 replace f6_1 := Zd hx16.1 f6_1
 replace f10_0 := Rep.mono hx16.1 f10_0
 replace f10_1 := Zd hx16.1 f10_1
 rw [topEnds_j1] at hz
 refine Qh <|Qh <|Qi <|Qc (Qe (vx1) hT15_0) ?_
 obtain ⟨a17, c17, hv17, _⟩ := Q2 hvx1
 refine Qc (Zg Try.underlying22 (Vo hv17 rfl)) <|Qc (Y_min rfl rfl) <|Qc (Qk (.int .i64 (min (x1.length : Int) 150)) rfl) ?_
 refine Qf (Qa ?_)
 refine Qy ?_
 refine Z1 (fun k37 T' w' => ∃ M19 cs21 d22 cs23 d24 v25 xs26 l27 v30 xs31 l32 y35, Mm.ext w.heap.size noX M14 M19 ∧ St w noX M19 [.box b0_10 cs21 90, .stk v30 9 1 xs31, .box b0_6 cs23 90, .stk v25 9 1 xs26, .box b4 cx2 43] w' ∧ rep M19 cs21 d22 ∧ rep M19 cs23 d24 ∧ skr M19 v25 xs26 l27 ∧ sl cs23 (0 + 1993) 1 = [v25] ∧ skr M19 v30 xs31 l32 ∧ sl cs21 (0 + 1993) 1 = [v30] ∧ T' 3 = .pointer (some ⟨b4, 0, none⟩) ∧ T' 5 = .pointer (some ⟨b0_6, 0, none⟩) ∧ T' 7 = .pointer (some ⟨b0_10, 0, none⟩) ∧ T' 9 = .int .i64 y35 ∧ topEnds_l1 fu x2 k37 d22 d24 l27 l32 y35 = some r) fu ?_ ?_ ?_
 exact ⟨M14, k0_10, r11.1, k0_6, r7.1, uP6_6, xP6_6, r7.2.2, uP6_10, xP6_10, r11.2.2, (min (x1.length : Int) 150), (Qg _ _ _), hS, f10_0, f6_0, f6_1, f6_2, f10_1, f10_2, hT15_3, hT15_5, hT15_7, rfl, hz⟩
 rintro T' w' ⟨_, _, _, _, _, _, _, _, _, _, _, _, _, _, _, _, _, _, _, _, _, _, _, _, hz⟩
 rw [topEnds_l1] at hz
 cases hz
 intro k37
 rintro T20 w18 ⟨M19, cs21, d22, cs23, d24, v25, xs26, l27, v30, xs31, l32, y35, hx39, hS, hb21, hb23, hk28, hp29, hk33, hp34, hT20_3, hT20_5, hT20_7, hT20_9, hz⟩
 replace hcx2 := Rep.mono hx39.1 hcx2
 have hF38 := hx39
 rw [topEnds_l1] at hz
 obtain ⟨rec36, hrec36⟩ : ∃ f, f = topEnds_l1 fu x2 k37 := ⟨_, rfl⟩
 rw [← hrec36] at hz
 refine Qh <|Qh <|Qi <|Qc (Qe (.int .i64 y35) hT20_9) <|Qc (Zt rfl rfl) ?_
 refine Qf (Qa ?_)
 refine Qr rfl (fun hc40 => ?_) (fun hc40 => ?_)
 replace hz := Qn hz hc40
 refine Qu (Qa ?_)
 refine Qz (fun T' w' => ∃ M42 cs44 d45 cs46 d47 v48 xs49 l50 v53 xs54 l55, Mm.ext w.heap.size noX M19 M42 ∧ St w noX M42 [.box b0_10 cs44 90, .stk v53 9 1 xs54, .box b0_6 cs46 90, .stk v48 9 1 xs49, .box b4 cx2 43] w' ∧ rep M42 cs44 d45 ∧ rep M42 cs46 d47 ∧ skr M42 v48 xs49 l50 ∧ sl cs46 (0 + 1993) 1 = [v48] ∧ skr M42 v53 xs54 l55 ∧ sl cs44 (0 + 1993) 1 = [v53] ∧ T' 3 = .pointer (some ⟨b4, 0, none⟩) ∧ T' 5 = .pointer (some ⟨b0_6, 0, none⟩) ∧ T' 7 = .pointer (some ⟨b0_10, 0, none⟩) ∧ T' 9 = .int .i64 y35 ∧ topEnds_j2 y35 rec36 d45 d47 l50 l55 = some r) ?_ ?_
 have hF59 := Qg w.heap.size noX M19
 refine Qy ?_
 refine Qz (fun T' w' => ∃ M61 cs63 d64 cs65 d66 v67 xs68 l69 v72 xs73 l74 c77, Mm.ext w.heap.size noX M19 M61 ∧ St w noX M61 [.box b0_10 cs63 90, .stk v72 9 1 xs73, .box b0_6 cs65 90, .stk v67 9 1 xs68, .box b4 cx2 43] w' ∧ rep M61 cs63 d64 ∧ rep M61 cs65 d66 ∧ skr M61 v67 xs68 l69 ∧ sl cs65 (0 + 1993) 1 = [v67] ∧ skr M61 v72 xs73 l74 ∧ sl cs63 (0 + 1993) 1 = [v72] ∧ T' 3 = .pointer (some ⟨b4, 0, none⟩) ∧ T' 5 = .pointer (some ⟨b0_6, 0, none⟩) ∧ T' 7 = .pointer (some ⟨b0_10, 0, none⟩) ∧ T' 9 = .int .i64 y35 ∧ T' 44 = .bool c77 ∧ topEnds_j3 y35 rec36 d64 d66 l69 l74 c77 = some r) ?_ ?_
 have hF80 := Qg w.heap.size noX M19
 refine Qi <|Qc (Qe (.pointer (some ⟨b0_6, 0, none⟩)) hT20_5) ?_
 obtain ⟨d82, hd81, hz⟩ := Qb hz
 obtain ⟨cs81, hf81, ha81⟩ : ∃ cs, fillZ (([(0, 1), (1, 1), (2, 1), (3, 1)] : List (Nat × Nat))[·]?) (Zr.zc GAct) [] = some cs ∧ rep M19 cs d82 := ⟨_, Z9, Ya (x := ({ kind := Zr.zd, n := Zr.zd, m := Zr.zd, ops := Zr.zd } : GAct)) (Zr.zr : rep M19 (Zr.zc GAct) (Zr.zd : GAct)) hd81⟩
 refine Qc (Zx [] tb43 Vj hf81) ?_
 obtain ⟨r85, hr84, hz⟩ := Qb hz
 refine Qt (Zn (vs := [.pointer (some ⟨b0_6, 0, none⟩), .agg cs81.toArray]) (L := [.box b0_6 cs23 90, .stk v25 9 1 xs26]) (R := [.box b0_10 cs21 90, .stk v30 9 1 xs31, .box b4 cx2 43]) (rv := (fun M' u L' => ∃ c0 k0 u1 x1, u = .agg c0.toArray ∧ L' = [.box b0_6 k0 90, .stk u1 9 1 x1] ∧ rep M' c0 r85.1 ∧ rep M' k0 r85.2.1 ∧ skr M' u1 x1 r85.2.2 ∧ sl k0 1993 1 = [u1])) cb19 (Zy rfl rfl) hS (hS.sel [2, 3, 0, 1, 4] (by decide) rfl) (fun hS => Jz hS hb23 hk28 hp29 ha81 hr84) ?_)
 rintro u84 M84 w83 L84 hx84 ⟨c0_84, k0_84, u1_84, x1_84, rfl, hL84, f84_0, f84_1, f84_2, f84_3⟩ hS
 replace hS := hS _ hL84
 replace hb21 := Rep.mono hx84.1 hb21
 replace hk33 := Zd hx84.1 hk33
 replace hF80 := Qd hF80 hx84
 refine Qc (Y_fv1 (.int .i64 r85.1.code) fv40_0 rfl (K0 (rr f84_0))) <|Qc (Yj rfl rfl) <|Qc (Qe (.bool (r85.1.code != 3)) rfl) ?_
 rcases ic hz with ⟨hc86, hz⟩ | ⟨hc86, hz⟩ <;> rw [hc86]
 refine Q1 6 rfl ?_
 refine Qf (Qa ?_)
 exact ⟨M84, cs21, d22, k0_84, r85.2.1, u1_84, x1_84, r85.2.2, v30, xs31, l32, true, hF80, (hS.sel (H' := [.box b0_10 cs21 90, .stk v30 9 1 xs31, .box b0_6 k0_84 90, .stk u1_84 9 1 x1_84, .box b4 cx2 43]) [2, 3, 0, 1, 4] (by decide) rfl), hb21, f84_1, f84_2, f84_3, hk33, hp34, hT20_3, hT20_5, hT20_7, hT20_9, rfl, hz⟩
 refine Qj rfl rfl (Qe (.pointer (some ⟨b0_10, 0, none⟩)) hT20_7) ?_
 obtain ⟨d88, hd87, hz⟩ := Qb hz
 obtain ⟨cs87, hf87, ha87⟩ : ∃ cs, fillZ (([(0, 1), (1, 1), (2, 1), (3, 1)] : List (Nat × Nat))[·]?) (Zr.zc GAct) [] = some cs ∧ rep M84 cs d88 := ⟨_, Z9, Ya (x := ({ kind := Zr.zd, n := Zr.zd, m := Zr.zd, ops := Zr.zd } : GAct)) (Zr.zr : rep M84 (Zr.zc GAct) (Zr.zd : GAct)) hd87⟩
 refine Qj rfl rfl (Zx [] tb43 Vj hf87) ?_
 obtain ⟨r91, hr90, hz⟩ := Qb hz
 refine Vv rfl rfl (Zn (vs := [.pointer (some ⟨b0_10, 0, none⟩), .agg cs87.toArray]) (L := [.box b0_10 cs21 90, .stk v30 9 1 xs31]) (R := [.box b0_6 k0_84 90, .stk u1_84 9 1 x1_84, .box b4 cx2 43]) (rv := (fun M' u L' => ∃ c0 k0 u1 x1, u = .agg c0.toArray ∧ L' = [.box b0_10 k0 90, .stk u1 9 1 x1] ∧ rep M' c0 r91.1 ∧ rep M' k0 r91.2.1 ∧ skr M' u1 x1 r91.2.2 ∧ sl k0 1993 1 = [u1])) cb19 (Zy rfl rfl) hS (hS.sel [2, 3, 0, 1, 4] (by decide) rfl) (fun hS => Jz hS hb21 hk33 hp34 ha87 hr90) ?_)
 rintro u90 M90 w89 L90 hx90 ⟨c0_90, k0_90, u1_90, x1_90, rfl, hL90, f90_0, f90_1, f90_2, f90_3⟩ hS
 replace hS := hS _ hL90
 replace f84_1 := Rep.mono hx90.1 f84_1
 replace f84_2 := Zd hx90.1 f84_2
 replace hF80 := Qd hF80 hx90
 refine Qj rfl rfl (Y_fv1 (.int .i64 r91.1.code) fv40_0 rfl (K0 (rr f90_0))) <|Qj rfl rfl (Yj rfl rfl) <|Qc (Zi (.bool (r91.1.code != 3)) rfl rfl) ?_
 refine Qf (Qa ?_)
 exact ⟨M90, k0_90, r91.2.1, k0_84, r85.2.1, u1_84, x1_84, r85.2.2, u1_90, x1_90, r91.2.2, (r91.1.code != 3), hF80, hS, f90_1, f84_1, f84_2, f84_3, f90_2, f90_3, hT20_3, hT20_5, hT20_7, hT20_9, rfl, hz⟩
 rintro T62 w60 ⟨M61, cs63, d64, cs65, d66, v67, xs68, l69, v72, xs73, l74, c77, hx78, hS, hb63, hb65, hk70, hp71, hk75, hp76, hT62_3, hT62_5, hT62_7, hT62_9, hT62_44, hz⟩
 replace hF59 := Qd hF59 hx78
 rw [topEnds_j3] at hz
 refine Qr hT62_44 (fun hc79 => ?_) (fun hc79 => ?_)
 replace hz := Qn hz hc79
 refine Qh <|Qi <|Qc (Qk (.bool false) rfl) ?_
 refine Qf (Qa ?_)
 cases hz
 exact Q4 (Zb (Qq (Qq (Zb (Qq (Yg rfl rfl ⟨rfl, (Qm (Qm (Qm (Qm (Qm hS))))).kept⟩))))))
 replace hz := Qo hz hc79
 refine Qu (Q8 ?_)
 refine (Qa ?_)
 exact ⟨M61, cs63, d64, cs65, d66, v67, xs68, l69, v72, xs73, l74, hF59, hS, hb63, hb65, hk70, hp71, hk75, hp76, hT62_3, hT62_5, hT62_7, hT62_9, hz⟩
 rintro T43 w41 ⟨M42, cs44, d45, cs46, d47, v48, xs49, l50, v53, xs54, l55, hx58, hS, hb44, hb46, hk51, hp52, hk56, hp57, hT43_3, hT43_5, hT43_7, hT43_9, hz⟩
 replace hF38 := Qd hF38 hx58
 rw [topEnds_j2] at hz
 refine Qi <|Qc (Qe (.int .i64 y35) hT43_9) <|Qc (Z2 rfl rfl) <|Qc (Qk (.int .i64 (IntKind.wrap .i64 (y35 + 1))) rfl) ?_
 refine Qf (Qa ?_)
 exact ⟨M42, cs44, d45, cs46, d47, v48, xs49, l50, v53, xs54, l55, (IntKind.wrap .i64 (y35 + 1)), hF38, hS, hb44, hb46, hk51, hp52, hk56, hp57, hT43_3, hT43_5, hT43_7, rfl, (by rw [← hrec36]; exact hz)⟩
 replace hz := Qo hz hc40
 refine Zu <|Q0 <|Q0 <|Zv ?_
 refine (Qa ?_)
 refine Qz (fun T' w' => ∃ M93 cs95 d96 cs97 d98 v99 xs100 l101 v104 xs105 l106 c109, Mm.ext w.heap.size noX M19 M93 ∧ St w noX M93 [.box b0_10 cs95 90, .stk v104 9 1 xs105, .box b0_6 cs97 90, .stk v99 9 1 xs100, .box b4 cx2 43] w' ∧ rep M93 cs95 d96 ∧ rep M93 cs97 d98 ∧ skr M93 v99 xs100 l101 ∧ sl cs97 (0 + 1993) 1 = [v99] ∧ skr M93 v104 xs105 l106 ∧ sl cs95 (0 + 1993) 1 = [v104] ∧ T' 4 = .bool c109 ∧ topEnds_j4 d96 d98 l101 l106 c109 = some r) ?_ ?_
 have hF111 := Qg w.heap.size noX M19
 refine Qi <|Qc (Qe (.pointer (some ⟨b0_6, 0, none⟩)) hT20_5) ?_
 have ha112 := (rr hcx2)
 refine Qc (Za ta43 hT20_3 (hS.bvB 4 rfl) (Rep.len ha112)) ?_
 obtain ⟨r115, hr114, hz⟩ := Qb hz
 refine Qt (Zn (vs := [.pointer (some ⟨b0_6, 0, none⟩), .agg (sl cx2 (0) 4).toArray]) (L := [.box b0_6 cs23 90, .stk v25 9 1 xs26]) (R := [.box b0_10 cs21 90, .stk v30 9 1 xs31, .box b4 cx2 43]) (rv := (fun M' u L' => ∃ c0 k0 u1 x1, u = .agg c0.toArray ∧ L' = [.box b0_6 k0 90, .stk u1 9 1 x1] ∧ rep M' c0 r115.1 ∧ rep M' k0 r115.2.1 ∧ skr M' u1 x1 r115.2.2 ∧ sl k0 1993 1 = [u1])) cb19 (Zy rfl rfl) hS (hS.sel [2, 3, 0, 1, 4] (by decide) rfl) (fun hS => Jz hS hb23 hk28 hp29 ha112 hr114) ?_)
 rintro u114 M114 w113 L114 hx114 ⟨c0_114, k0_114, u1_114, x1_114, rfl, hL114, f114_0, f114_1, f114_2, f114_3⟩ hS
 replace hS := hS _ hL114
 replace hb21 := Rep.mono hx114.1 hb21
 replace hk33 := Zd hx114.1 hk33
 replace hF111 := Qd hF111 hx114
 have k116_0 := V0 (Zr.zr : rep M114 (Zr.zc GReply) (Zr.zd : GReply)) (ri 5 : rep M114 _ _)
 obtain ⟨d117, hd116, hz⟩ := Qb hz
 obtain ⟨cs116, hf116, ha116⟩ : ∃ cs, fillZ (([(0, 1), (1, 1), (2, 1)] : List (Nat × Nat))[·]?) (Zr.zc GReply) [(0, .int .i64 5)] = some cs ∧ rep M114 cs d117 := ⟨_, (Ze (Zr.zr : rep M114 (Zr.zc GReply) (Zr.zd : GReply)) rfl rfl (Rep.len (ri 5 : rep M114 _ _)) (by decide) Z9), Ya (x := ({ code := 5, n := Zr.zd, values := Zr.zd } : GReply)) k116_0 hd116⟩
 refine Qc (Zx [(0, .int .i64 5)] J2 (Yw rfl Vj) hf116) ?_
 obtain ⟨r120, hr119, hz⟩ := Qb hz
 refine Qt (Z0 (vs := [.agg c0_114.toArray, .agg cs116.toArray]) (v := .bool r120) cb35 (Zy rfl rfl) hS (topSameReply_ok hS.agree f114_0 ha116 hr119) ?_)
 intro w118 hS
 refine Qc (Qe (.bool r120) rfl) ?_
 rcases ic hz with ⟨hc121, hz⟩ | ⟨hc121, hz⟩ <;> rw [hc121]
 refine Qj rfl rfl (Qe (.pointer (some ⟨b0_10, 0, none⟩)) hT20_7) <|Qj rfl rfl (Qe (.pointer (some ⟨b0_6, 0, none⟩)) hT20_5) ?_
 obtain ⟨r124, hr123, hz⟩ := Qb hz
 refine Vv rfl rfl (Zn (vs := [.pointer (some ⟨b0_10, 0, none⟩), .pointer (some ⟨b0_6, 0, none⟩)]) (L := [.box b0_10 cs21 90, .stk v30 9 1 xs31, .box b0_6 k0_114 90, .stk u1_114 9 1 x1_114]) (R := [.box b4 cx2 43]) (rv := (fun M' u L' => ∃ k0 u1 x1 k2 u3 x3, u = .bool r124.1 ∧ L' = [.box b0_10 k0 90, .stk u1 9 1 x1, .box b0_6 k2 90, .stk u3 9 1 x3] ∧ rep M' k0 r124.2.1 ∧ skr M' u1 x1 r124.2.2.1 ∧ sl k0 1993 1 = [u1] ∧ rep M' k2 r124.2.2.2.1 ∧ skr M' u3 x3 r124.2.2.2.2 ∧ sl k2 1993 1 = [u3])) cb40 (Zy rfl rfl) hS (hS.sel [2, 3, 0, 1, 4] (by decide) rfl) (fun hS => topSame__ok hS hb21 hk33 hp34 f114_1 f114_2 f114_3 hr123) ?_)
 rintro u123 M123 w122 L123 hx123 ⟨k0_123, u1_123, x1_123, k2_123, u3_123, x3_123, rfl, hL123, f123_0, f123_1, f123_2, f123_3, f123_4, f123_5⟩ hS
 replace hS := hS _ hL123
 replace hF111 := Qd hF111 hx123
 refine Q1 2 rfl ?_
 refine Qf (Qa ?_)
 exact ⟨M123, k0_123, r124.2.1, k2_123, r124.2.2.2.1, u3_123, x3_123, r124.2.2.2.2, u1_123, x1_123, r124.2.2.1, r124.1, hF111, hS, f123_0, f123_3, f123_4, f123_5, f123_1, f123_2, rfl, hz⟩
 refine Q1 5 rfl ?_
 refine Qf (Qa ?_)
 exact ⟨M114, cs21, d22, k0_114, r115.2.1, u1_114, x1_114, r115.2.2, v30, xs31, l32, false, hF111, (hS.sel (H' := [.box b0_10 cs21 90, .stk v30 9 1 xs31, .box b0_6 k0_114 90, .stk u1_114 9 1 x1_114, .box b4 cx2 43]) [2, 3, 0, 1, 4] (by decide) rfl), hb21, f114_1, f114_2, f114_3, hk33, hp34, rfl, hz⟩
 rintro T94 w92 ⟨M93, cs95, d96, cs97, d98, v99, xs100, l101, v104, xs105, l106, c109, hx110, hS, hb95, hb97, hk102, hp103, hk107, hp108, hT94_4, hz⟩
 rw [topEnds_j4] at hz
 cases hz
 exact Q4 (Yg rfl hT94_4 ⟨rfl, (Qm (Qm (Qm (Qm (Qm hS))))).kept⟩)
end Go.Proofs.Yteilffoclpgijaa
namespace Go.Proofs.Yteilffoclpgijaa
open Go.RowKit
open Rep (rep)
theorem union_rising (a b : List Int) : risingZ (unionZ a b) = true := (unionTo_rising a b 32 (by omega)).1
structure Gathers (t : GTxn) (told : Vector Bool 6) (c : GCase) (deps : List Int) : Prop where
  htold : c.told = told
  hdeps : c.deps = deps
  hops : c.ops = t.ops
  small : deps.length ≤ 32
  enough : c.fixed = true → enoughC c = true
theorem enoughC_same {c d : GCase} (h1 : c.ops = d.ops) (h2 : c.told = d.told) : enoughC c = enoughC d := by unfold enoughC; rw [h1, h2]
theorem Gathers.same {t : GTxn} {told : Vector Bool 6} {c d : GCase} {deps : List Int} (h : Gathers t told c deps) (h1 : d.told = c.told) (h2 : d.deps = c.deps) (h3 : d.ops = c.ops) (h4 : d.fixed = c.fixed) : Gathers t told d deps :=
  ⟨h1.trans h.htold, h2.trans h.hdeps, h3.trans h.hops, h.small, fun hf => by rw [enoughC_same h3 h1]; exact h.enough (by rw [← h4]; exact hf)⟩
structure OfTxn (t : GTxn) (c : GCase) : Prop where
  begun : c.begun = true
  ops : c.ops = t.ops
  good : goodOpsZ t.ops = true
  none : c.fixed = false → ∀ k, hasAt c.has k = false
theorem shard_two (k : Int) : shardZ k = 0 ∨ shardZ k = 1 := by
  unfold shardZ
  split
  · exact .inl rfl
  · exact .inr rfl
theorem wholeL_has {has : Nat → Bool} {s : Int} : ∀ (l : List GOp) (k : Nat), wholeL has s l k = true → ∀ i o, l[i]? = some o → shardZ o.key = s → has (k + i) = true
  | [], _, _, i, o, h, _ => by simp at h
  | a :: t, k, h, i, o, hi, hs => by
    rw [wholeL] at h
    cases hb : (shardZ a.key == s && !has k) with
    | true => rw [hb] at h; cases h
    | false =>
      rw [hb] at h
      cases i with
      | zero =>
        cases hi
        have e : (shardZ a.key == s) = true := by simp [hs]
        rw [e, Bool.true_and] at hb
        simpa using hb
      | succ i =>
        have := wholeL_has t (k + 1) h i o hi hs
        rw [show k + (i + 1) = k + 1 + i from by omega]
        exact this
theorem result_has {c : GCase} (h0 : wholeC c 0 = true) (h1 : wholeC c 1 = true) {i : Nat} (hi : i < c.ops.length) : hasAt c.has i = true := by
  have hx : c.ops[i]? = some c.ops[i] := by simp
  rcases shard_two c.ops[i].key with h | h
  · have := wholeL_has c.ops 0 h0 i _ hx h
    rwa [Nat.zero_add] at this
  · have := wholeL_has c.ops 0 h1 i _ hx h
    rwa [Nat.zero_add] at this
theorem resultC_ok {c : GCase} (h : (resultC c).2 = true) : c.begun = true ∧ goodC c = true ∧ wholeC c 0 = true ∧ wholeC c 1 = true ∧ (resultC c).1 = c.values.toList.take c.ops.length := by
  unfold resultC at h ⊢
  cases h1 : c.begun && (goodC c && (wholeC c 0 && wholeC c 1)) with
  | false => rw [h1] at h; cases h
  | true =>
    simp only [Bool.and_eq_true] at h1
    exact ⟨h1.1, h1.2.1, h1.2.2.1, h1.2.2.2, rfl⟩
theorem OfTxn.len {t : GTxn} {c : GCase} (h : OfTxn t c) : 0 < c.ops.length ∧ c.ops.length ≤ 4 := by
  rw [h.ops]; exact goodOps_len h.good
theorem OfTxn.fixed {t : GTxn} {c : GCase} (h : OfTxn t c) (hr : (resultC c).2 = true) : c.fixed = true := by
  obtain ⟨_, _, h0, h1, _⟩ := resultC_ok hr
  cases hf : c.fixed with
  | true => rfl
  | false =>
    have := result_has h0 h1 h.len.1
    rw [h.none hf 0] at this
    cases this
theorem OfTxn.length {t : GTxn} {c : GCase} (h : OfTxn t c) (hr : (resultC c).2 = true) : (resultC c).1.length = t.ops.length := by
  obtain ⟨_, _, _, _, e⟩ := resultC_ok hr
  have := h.len
  rw [e, List.length_take, h.ops]
  rw [h.ops] at this
  simp
  omega
theorem doneL_full {sh : Int} : ∀ {at_ vs : List Int} {c : GCase}, (∀ n ∈ at_, 0 ≤ n) → (∀ i, i < c.ops.length → hasAt c.has i = true) → doneL sh c at_ vs = c
  | [], _, _, _, _ => by unfold doneL; rfl
  | _ :: _, [], _, _, _ => by unfold doneL; rfl
  | k :: at_, v :: vs, c, hn, h => by
    have e : doneStep sh c k v = c := by
      unfold doneStep
      by_cases hk : k < (c.ops.length : Int)
      · have h0 := hn k List.mem_cons_self
        rw [h k.toNat (by omega)]
        simp
      · rw [dec_f hk]; rfl
    unfold doneL
    rw [e]
    exact doneL_full (fun n hm => hn n (List.mem_cons_of_mem _ hm)) h
theorem takeC_kinds {c : GCase} {id : Int} {f : GFrame} (h : (takeC c id f).2.2 = 0) : frameZ f = 0 ∧ (((takeC c id f).1 = c) ∨ (c.fixed = false ∧ (takeC c id f).1 = fixC (toldC c f)) ∨ (c.fixed = true ∧ (takeC c id f).1 = { c with known := c.known.setIfInBounds f.node.toNat true }) ∨ (c.fixed = true ∧ (takeC c id f).1 = doneL (ofZ f.node) c f.at_ f.vals)) := by
  unfold takeC at h ⊢
  cases ht : takes c id f
  · rw [ht] at h; simp at h
  · rw [ht] at h
    simp only [cond_true] at h ⊢
    cases hz : (frameZ f == 0)
    · rw [hz] at h
      simp only [cond_false] at h
      rw [h] at hz; cases hz
    · refine ⟨by simpa using hz, ?_⟩
      rw [hz] at h
      simp only [cond_true] at h ⊢
      unfold takeOk at h ⊢
      cases hk2 : (f.kind == 2)
      · simp only [cond_false]
        cases hk4 : (f.kind == 4)
        · simp only [cond_false]
          cases hk5 : (f.kind == 5)
          · rw [hk2, hk4, hk5] at h; simp at h
          · cases hfx : c.fixed
            · exact .inl rfl
            · exact .inr (.inr (.inr ⟨rfl, rfl⟩))
        · cases hfx : c.fixed
          · exact .inl rfl
          · exact .inr (.inr (.inl ⟨rfl, rfl⟩))
      · simp only [cond_true]
        cases hfx : c.fixed
        · cases (hasAt c.told f.node.toNat || !touchesZ c.ops (ofZ f.node))
          · exact .inr (.inl ⟨rfl, rfl⟩)
          · exact .inl rfl
        · exact .inl rfl
theorem goodC_same {c d : GCase} (h1 : d.begun = c.begun) (h2 : d.ops = c.ops) (h3 : d.deps = c.deps) (hb : c.begun = true) : goodC d = goodC c := by
  unfold goodC
  rw [h1, h2, h3, hb]
  rfl
theorem OfTxn.take {t : GTxn} {c : GCase} (h : OfTxn t c) {f : GFrame} (h0 : (takeC c t.id f).2.2 = 0) : OfTxn t (takeC c t.id f).1 ∧ ((resultC c).2 = true → resultC (takeC c t.id f).1 = resultC c) := by
  obtain ⟨hz, hk⟩ := takeC_kinds h0
  rcases hk with e | ⟨hf, e⟩ | ⟨hf, e⟩ | ⟨hf, e⟩
  · rw [e]; exact ⟨h, fun _ => rfl⟩
  · rw [e]
    refine ⟨⟨h.begun, h.ops, h.good, fun _ => h.none hf⟩, fun hr => ?_⟩
    rw [h.fixed hr] at hf; cases hf
  · rw [e]
    refine ⟨⟨h.begun, h.ops, h.good, fun hn => ?_⟩, fun _ => ?_⟩
    · have hn : c.fixed = false := hn
      rw [hn] at hf; cases hf
    · unfold resultC
      have hg : goodC { c with known := c.known.setIfInBounds f.node.toNat true } = goodC c := goodC_same rfl rfl rfl h.begun
      rw [hg]
      rfl
  · rw [e]
    have hd := doneL_same (sh := ofZ f.node) (at_ := f.at_) (vs := f.vals) (c := c)
    refine ⟨⟨hd.2.2.1.trans h.begun, hd.1.trans h.ops, h.good, fun hn => ?_⟩, fun hr => ?_⟩
    · rw [hd.2.1, hf] at hn; cases hn
    · obtain ⟨_, _, w0, w1, _⟩ := resultC_ok hr
      rw [doneL_full (fun n hn => ((AtOk_of hz).mem n hn).1) fun i hi => result_has w0 w1 hi]
end Go.Proofs.Yteilffoclpgijaa
namespace Go.Proofs.Yteilffoclpgijaa
open Go.RowKit
open Rep (rep)
theorem takeC_takes {c : GCase} {id : Int} {f : GFrame} (h : (takeC c id f).2.2 = 0) : takes c id f = true := by
  unfold takeC at h
  cases ht : takes c id f
  · rw [ht] at h
    exact absurd (show (2 : Int) = 0 from h) (by decide)
  · rfl
theorem takeC_no {c : GCase} {id : Int} {f : GFrame} (h : (takeC c id f).2.2 ≠ 0) : (takeC c id f).1 = c ∧ (takeC c id f).2.1 = [] := by
  unfold takeC at *
  cases ht : takes c id f
  · exact ⟨rfl, rfl⟩
  · rw [ht, cond_true] at h
    rw [cond_true]
    cases hz : (frameZ f == 0)
    · exact ⟨rfl, rfl⟩
    · rw [hz, cond_true] at h
      rw [cond_true]
      unfold takeOk at *
      cases h2 : (f.kind == 2)
      · rw [h2, cond_false] at h
        rw [cond_false]
        cases h4 : (f.kind == 4)
        · rw [h4, cond_false] at h
          rw [cond_false]
          cases h5 : (f.kind == 5)
          · exact ⟨rfl, rfl⟩
          · rw [h5, cond_true] at h
            cases hf : c.fixed
            · exact ⟨rfl, rfl⟩
            · rw [hf] at h; exact absurd rfl h
        · rw [h4, cond_true] at h
          cases hf : c.fixed
          · exact ⟨rfl, rfl⟩
          · rw [hf] at h; exact absurd rfl h
      · rw [h2, cond_true] at h
        cases hb : (c.fixed || (hasAt c.told f.node.toNat || !touchesZ c.ops (ofZ f.node)))
        · rw [hb] at h; exact absurd rfl h
        · exact ⟨rfl, rfl⟩
theorem goodC_parts {c : GCase} (h : goodC c = true) (hb : c.begun = true) : goodOpsZ c.ops = true ∧ risingZ c.deps = true := by
  unfold goodC at h
  rw [hb, cond_true, Bool.and_eq_true] at h
  exact h
theorem goodC_mk {c : GCase} (hb : c.begun = true) (h1 : goodOpsZ c.ops = true) (h2 : risingZ c.deps = true) : goodC c = true := by
  unfold goodC
  rw [hb, cond_true, h1, h2]
  rfl
theorem takeC_good {c : GCase} {id : Int} {f : GFrame} (h : goodC c = true) : goodC (takeC c id f).1 = true := by
  by_cases hz : (takeC c id f).2.2 = 0
  · have ht := takeC_takes hz
    unfold takes at ht
    simp only [Bool.and_eq_true] at ht
    have hb := ht.2.1
    obtain ⟨h1, h2⟩ := goodC_parts h hb
    obtain ⟨_, e | ⟨_, e⟩ | ⟨_, e⟩ | ⟨_, e⟩⟩ := takeC_kinds hz
    · rw [e]; exact h
    · rw [e]; exact goodC_mk hb h1 (union_rising _ _)
    · rw [e]; exact goodC_mk hb h1 h2
    · rw [e, goodC_same doneL_same.2.2.1 doneL_same.1 doneL_same.2.2.2.1 hb]; exact h
  · rw [(takeC_no hz).1]; exact h
theorem noC_good : goodC noC = true := by decide +kernel
theorem beginC_good (t : GTxn) : goodC (beginC t).1 = true := by
  unfold beginC
  cases decide (0 ≤ t.id ∧ t.id < 32)
  · exact noC_good
  · cases h : goodOpsZ t.ops
    · exact noC_good
    · exact goodC_mk rfl h (show risingZ [] = true by decide)
theorem CInv.sent {c : GCluster} {net : List ByteArray} (h : CInv c net) (l : List GFrame) : CInv c (sendZ net l) :=
  ⟨h.acts, h.begun, h.node, h.down, h.log, h.tear, h.cas, sendZ_small l net h.net.1 h.net.2⟩
theorem CInv.setCase {c : GCluster} {net : List ByteArray} (h : CInv c net) {n : Nat} (hn : n < 32) {x : GCase} (hx : goodC x = true) : CInv { c with cases := c.cases.setIfInBounds n x } net := by
  refine ⟨h.acts, h.begun, h.node, h.down, h.log, h.tear, fun k hk => ?_, h.net⟩
  show goodC (vget (c.cases.setIfInBounds n x) k) = true
  rw [vget_set hn]
  by_cases e : n = k
  · rw [if_pos e]; exact hx
  · rw [if_neg e]; exact h.cas k hk
theorem CInv.setLog {c : GCluster} {net : List ByteArray} (h : CInv c net) {n : Nat} (hn : n < 6) {x : ByteArray} (hx : x.size ≤ 65536) : CInv { c with logs := c.logs.setIfInBounds n x } net := by
  refine ⟨h.acts, h.begun, h.node, h.down, fun k hk => ?_, h.tear, h.cas, h.net⟩
  show (vget (c.logs.setIfInBounds n x) k).size ≤ 65536
  rw [vget_set hn]
  by_cases e : n = k
  · rw [if_pos e]; exact hx
  · rw [if_neg e]; exact h.log k hk
theorem CInv.setTear {c : GCluster} {net : List ByteArray} (h : CInv c net) {n : Nat} (hn : n < 6) {x : Int} (hx : 0 ≤ x ∧ x ≤ 401) : CInv { c with tear := c.tear.setIfInBounds n x } net := by
  refine ⟨h.acts, h.begun, h.node, h.down, h.log, fun k hk => ?_, h.cas, h.net⟩
  show 0 ≤ vget (c.tear.setIfInBounds n x) k ∧ vget (c.tear.setIfInBounds n x) k ≤ 401
  rw [vget_set hn]
  by_cases e : n = k
  · rw [if_pos e]; exact hx
  · rw [if_neg e]; exact h.tear k hk
theorem CInv.setNode {c : GCluster} {net : List ByteArray} (h : CInv c net) {n : Nat} (hn : n < 6) {x : GNode} {b : Bool} (hx : GoodN x) (hb : b = true → x = zeroN) : CInv { c with nodes := c.nodes.setIfInBounds n x, down := c.down.setIfInBounds n b } net := by
  refine ⟨h.acts, h.begun, fun k hk => ?_, fun k hk => ?_, h.log, h.tear, h.cas, h.net⟩
  · show GoodN (vget (c.nodes.setIfInBounds n x) k)
    rw [vget_set hn]
    by_cases e : n = k
    · rw [if_pos e]; exact hx
    · rw [if_neg e]; exact h.node k hk
  · show vget (c.down.setIfInBounds n b) k = true → vget (c.nodes.setIfInBounds n x) k = zeroN
    rw [vget_set hn, vget_set hn]
    by_cases e : n = k
    · rw [if_pos e, if_pos e]; exact hb
    · rw [if_neg e, if_neg e]; exact h.down k hk
theorem CInv.fall {c : GCluster} {net : List ByteArray} (h : CInv c net) {n : Nat} (hn : n < 6) : CInv (fallZ c n) net :=
  (h.setNode hn (b := true) zero_good fun _ => rfl).setTear hn ⟨by omega, by omega⟩
theorem set_down_same {c : GCluster} {n : Nat} {b : Bool} (h : vget c.down n = b) (hn : n < 6) : c.down.setIfInBounds n b = c.down := by
  refine Vector.ext fun i hi => ?_
  rw [Vector.getElem_setIfInBounds]
  by_cases e : n = i
  · subst e
    rw [if_pos rfl, ← h]
    unfold vget
    simp [hi]
  · rw [if_neg e]
theorem CInv.come {c : GCluster} {net : List ByteArray} (h : CInv c net) {n : Nat} (hn : n < 6) {f : GFrame} {s : ByteArray} : CInv (comeZ c net n f s).2.1 (comeZ c net n f s).2.2 := by
  have hlog := h.log n hn
  unfold comeZ
  cases hd : vget c.down n
  · rw [cond_false]
    cases h1 : ((takeN (vget c.nodes n) n f).2.2 != 0)
    · have h1 : (takeN (vget c.nodes n) n f).2.2 = 0 := by simpa using h1
      rw [cond_false]
      by_cases h2 : vget c.tear n > 0
      · rw [bif_t (dec_t h2)]
        exact (h.setLog hn (tearZ_size hlog)).fall hn
      · rw [bif_f (dec_f h2)]
        cases h3 : (wcode (vget c.logs n) s != 0)
        · have h' := ((h.setLog hn (wout_size (s := s) hlog)).setNode hn (x := (takeN (vget c.nodes n) n f).1) (b := false) (takeN_good h1) fun e => by cases e).sent (takeN (vget c.nodes n) n f).2.1
          have e := set_down_same hd hn
          have e : ({ c with logs := c.logs.setIfInBounds n (wout (vget c.logs n) s) } : GCluster).down.setIfInBounds n false = c.down := e
          rw [e] at h'
          exact h'
        · exact h.setLog hn (wout_size hlog)
    · exact h
  · exact h
theorem CInv.beg {c : GCluster} {net : List ByteArray} (h : CInv c net) {ops : List GOp} : CInv (begZ c net ops).2.1 (begZ c net ops).2.2 := by
  obtain ⟨h0, h1⟩ := h.begun
  unfold begZ
  by_cases h32 : c.begun ≥ 32
  · rw [bif_t (dec_t h32)]; exact h
  · rw [bif_f (dec_f h32)]
    cases hc : ((beginC { id := c.begun, ops := ops }).2.2 != 0)
    · have h' := (h.setCase (n := c.begun.toNat) (by omega) (beginC_good { id := c.begun, ops := ops })).sent (beginC { id := c.begun, ops := ops }).2.1
      exact ⟨h'.acts, ⟨by show 0 ≤ c.begun + 1; omega, by show c.begun + 1 ≤ 32; omega⟩, h'.node, h'.down, h'.log, h'.tear, h'.cas, h'.net⟩
    · exact h
theorem CInv.frm2 {c : GCluster} {net : List ByteArray} (h : CInv c net) {kind : Int} {f : GFrame} {s : ByteArray} (hn : 0 ≤ f.node ∧ f.node < 6) (hi : 0 ≤ f.id ∧ f.id < 32) : CInv (frm2 c net kind f s).2.1 (frm2 c net kind f s).2.2 := by
  unfold Go.Proofs.Yteilffoclpgijaa.frm2
  cases (kind == 4)
  · cases (f.kind == 1 || f.kind == 3)
    · rw [cond_false, cond_false]
      cases ((takeC (vget c.cases f.id.toNat) f.id f).2.2 != 0)
      · exact (h.setCase (by omega) (takeC_good (h.cas _ (by omega)))).sent _
      · exact h
    · exact h.come (by omega)
  · exact h
theorem CInv.frm {c : GCluster} {net : List ByteArray} (h : CInv c net) {a : GAct} : CInv (frmZ c net a).2.1 (frmZ c net a).2.2 := by
  unfold frmZ
  obtain ⟨hn, hi⟩ := decZ_in (byL (textAt net a.n))
  cases decide (0 ≤ a.n ∧ a.n < net.length)
  · exact h
  · rw [cond_true]
    refine CInv.frm2 ?_ hn hi
    cases (a.kind == 3)
    · exact h.cut (fun s hs => List.mem_of_mem_eraseIdx hs) (List.length_eraseIdx_le ..)
    · exact h
theorem CInv.pow {c : GCluster} {net : List ByteArray} (h : CInv c net) {a : GAct} : CInv (powZ c net a).2.1 (powZ c net a).2.2 := by
  unfold powZ
  cases hp : powOk a
  · exact h
  · unfold powOk at hp
    simp only [Bool.and_eq_true, decide_eq_true_eq] at hp
    obtain ⟨⟨h0, h6⟩, hm⟩ := hp
    have hn : a.n.toNat < 6 := by omega
    rw [cond_true]
    cases (!(vget c.down a.n.toNat == (a.kind == 8)))
    · rw [cond_false]
      cases h7 : (a.kind == 7)
      · rw [cond_false]
        cases (a.kind == 6)
        · have hr : CInv (riseZ c a.n.toNat) net := (h.setLog hn (x := (vget c.logs a.n.toNat).extract 0 (readL (vget c.logs a.n.toNat).data.toList).2) (by have := h.log _ hn; rw [ByteArray.size_extract]; omega)).setNode hn (b := false) (replayZ_good _ zero_good) fun e => by cases e
          exact hr
        · exact h.fall hn
      · rw [h7] at hm
        simp only [Bool.true_and, Bool.not_not, decide_eq_true_eq] at hm
        exact h.setTear hn ⟨by omega, by omega⟩
    · exact h
theorem CInv.do {c : GCluster} {net : List ByteArray} (h : CInv c net) {a : GAct} : CInv (actZ c net a).2.1 (actZ c net a).2.2 := by
  unfold actZ
  by_cases ha : c.acts ≥ 400
  · rw [bif_t (dec_t ha)]; exact h
  · rw [bif_f (dec_f ha)]
    have hi := h.act ha
    unfold doA
    cases (a.kind == 1)
    · rw [cond_false]
      cases (a.kind == 2 || (a.kind == 3 || a.kind == 4))
      · rw [cond_false]
        cases (a.kind == 5)
        · rw [cond_false]
          cases (a.kind == 6 || (a.kind == 7 || a.kind == 8))
          · exact hi
          · exact hi.pow
        · rw [cond_true]
          unfold agaZ
          cases decide (0 ≤ a.n ∧ a.n < ({ c with acts := c.acts + 1 } : GCluster).begun)
          · exact hi
          · exact hi.sent _
      · exact hi.frm
    · exact hi.beg
def newCl : GCluster := { nodes := Zr.zd, logs := Zr.zd, down := Zr.zd, tear := Zr.zd, cases := Zr.zd, begun := Zr.zd, net := Zr.zd, acts := Zr.zd }
theorem clNewD_eq {fu : Nat} : clNewD fu = some (newCl, []) := rfl
theorem new_inv : CInv newCl [] := by
  refine ⟨⟨by show (0 : Int) ≤ 0; omega, by show (0 : Int) ≤ 400; omega⟩, ⟨by show (0 : Int) ≤ 0; omega, by show (0 : Int) ≤ 32; omega⟩, fun n _ => ?_, fun n _ _ => ?_, fun n _ => ?_, fun n _ => ?_, fun n _ => ?_, by simp, by simp⟩
  · show GoodN (vget (Zr.zd : Vector GNode 6) n)
    rw [vget_zero]; exact zero_good
  · show vget (Zr.zd : Vector GNode 6) n = zeroN
    rw [vget_zero]; rfl
  · show (vget (Zr.zd : Vector ByteArray 6) n).size ≤ 65536
    rw [vget_zero]
    show (⟨#[]⟩ : ByteArray).size ≤ 65536
    decide
  · show 0 ≤ vget (Zr.zd : Vector Int 6) n ∧ vget (Zr.zd : Vector Int 6) n ≤ 401
    rw [vget_zero]
    exact ⟨by show (0 : Int) ≤ 0; omega, by show (0 : Int) ≤ 401; omega⟩
  · show goodC (vget (Zr.zd : Vector GCase 32) n) = true
    rw [vget_zero]
    exact noC_good
noncomputable def goZ : GCluster → List ByteArray → List GAct → List GReply × GCluster × List ByteArray
  | c, net, [] => ([], c, net)
  | c, net, a :: t => ((actZ c net a).1 :: (goZ (actZ c net a).2.1 (actZ c net a).2.2 t).1, (goZ (actZ c net a).2.1 (actZ c net a).2.2 t).2)
theorem goZ_inv : ∀ (l : List GAct) {c : GCluster} {net : List ByteArray}, CInv c net → CInv (goZ c net l).2.1 (goZ c net l).2.2
  | [], _, _, h => h
  | a :: t, _, _, h => goZ_inv t (h.do (a := a))
theorem playQ_l1_eq {fu : Nat} (hfu : 70000 ≤ fu) {l : List GAct} (hl : l.length ≤ 17592186043904) : ∀ (n m k : Nat) (c : GCluster) (net : List ByteArray), k + m = 150 → m < n → CInv c net → playQ_l1 fu l n c net k = some ((goZ c net ((l.take 150).drop k)).2.1, true, (goZ c net ((l.take 150).drop k)).2.2) := by
  intro n
  induction n with
  | zero => intro m k c net _ h; omega
  | succ n ih =>
    intro m k c net hk hn h
    rw [playQ_l1]
    have hstop : ¬ (k < l.length ∧ k < 150) → (l.take 150).drop k = [] := fun hno => List.drop_of_length_le (by rw [List.length_take]; omega)
    by_cases h1 : (k : Int) < (l.length : Int)
    · rw [bif_t (dec_t h1)]
      by_cases h2 : (k : Int) < 150
      · have hlt : k < l.length := by omega
        have hd : (l.take 150).drop k = l[k] :: (l.take 150).drop (k + 1) := by
          rw [List.drop_eq_getElem_cons (by rw [List.length_take]; omega), List.getElem_take]
        obtain ⟨m', rfl⟩ : ∃ m', m = m' + 1 := ⟨m - 1, by omega⟩
        rw [dec_t h2, playQ_j2, cond_true, playQ_j1, idx_nat, List.getElem?_eq_getElem hlt, some_bind, clDoD_eq hfu h, some_bind, some_bind, some_bind, hd]
        have hq : ∀ (c : GCluster) (a : GAct) (r : GReply), quietD fu c a r = some true := fun _ _ _ => rfl
        rw [hq, some_bind, bif_f (c := !true) rfl, wrsB k (by omega), ih m' (k + 1) _ _ (by omega) (by omega) h.do]
        rfl
      · rw [dec_f h2, playQ_j2, cond_false, hstop (by omega)]
        rfl
    · rw [bif_f (dec_f h1), playQ_j2, cond_false, hstop (by omega)]
      rfl
end Go.Proofs.Yteilffoclpgijaa
namespace Go.Proofs.Yteilffoclpgijaa
open Go.RowKit
theorem alive_k : aliveD 70000 = some true := by decide +kernel
end Go.Proofs.Yteilffoclpgijaa
namespace Go.Proofs.Yteilffoclpgijaa
open Go.RowKit
open Rep (rep)
theorem cloneOps_any {fu : Nat} {l : List GOp} (h : l.length * 24 ≤ 140737488351232) : cloneOpsD fu l = some l := by
  have hb : Rep.bytes GOp = 24 := rfl
  unfold cloneOpsD
  rw [app_ok (by rw [hb]; simpa using h)]
  rfl
theorem cloneStrs_any {fu : Nat} {l : List ByteArray} (h : l.length ≤ 1000) : cloneStrsD fu l = some l := by
  have hb : Rep.bytes ByteArray = 16 := rfl
  unfold cloneStrsD
  rw [app_ok (by rw [hb]; simp only [List.length_nil]; omega)]
  rfl
theorem ownedD_eq {fu N : Nat} {e : GEntry} (h : ESz e N) : ownedD fu e = some e := by
  unfold ownedD
  rw [cloneOps_any h.ops.2, some_bind, cloneIntsD_eq h.first.2, some_bind, cloneIntsD_eq h.deps.2, some_bind, cloneIntsD_eq h.at_.2, some_bind, cloneIntsD_eq h.values.2, some_bind]
  rfl
theorem clNode_l1_eq {fu N : Nat} {c : GCluster} {x : Int} (h0 : 0 ≤ x) (h6 : x < 6) {s : GNode} (hs : NSz s N) : ∀ (n m k : Nat), k + m = 32 → m < n → clNode_l1 fu c x n s k = some (s, vget c.down x.toNat)
  | 0, m, k, _, h => absurd h (by omega)
  | n + 1, 0, k, hk, _ => by rw [clNode_l1, bif_f (dec_f (by omega)), inR_ok h0 h6, some_bind, idxG h0 h6, some_bind, some_bind]
  | n + 1, m + 1, k, hk, hn => by
    have hk32 : k < 32 := by omega
    rw [clNode_l1, bif_t (dec_t (by omega)), inR_ok (by omega) (by omega), some_bind, idxE hk32, some_bind, ownedD_eq (hs.ent k), some_bind, some_bind, some_bind, setE hk32, setI_same hk32, some_bind, some_bind, wrsB k (by omega)]
    exact clNode_l1_eq h0 h6 hs n m (k + 1) (by omega) (by omega)
theorem clNodeD_eq {fu : Nat} (hfu : 100 ≤ fu) {c : GCluster} {net : List ByteArray} (h : CInv c net) {x : Int} (h0 : 0 ≤ x) (h6 : x < 6) : clNodeD fu c x = some (vget c.nodes x.toNat, vget c.down x.toNat) := by
  have hg := h.node x.toNat (by omega)
  unfold clNodeD clNode_j2
  rw [bif_f (dec_f (by omega)), dec_f (by omega), cond_false, clNode_j1, inR_ok h0 h6, some_bind, idxG h0 h6, some_bind, some_bind, cloneIntsD_eq hg.sizes.order.2, some_bind, some_bind]
  exact clNode_l1_eq h0 h6 hg.sizes fu 32 0 (by omega) (by omega)
theorem clLogD_eq {fu : Nat} {c : GCluster} {x : Int} (h0 : 0 ≤ x) (h6 : x < 6) : clLogD fu c x = some (vget c.logs x.toNat) := by
  unfold clLogD clLog_j2
  rw [bif_f (dec_f (by omega)), dec_f (by omega), cond_false, clLog_j1, inR_ok h0 h6, some_bind, idxG h0 h6, some_bind]
theorem goodC_sizes {c : GCase} (h : goodC c = true) : c.ops.length ≤ 4 ∧ c.deps.length ≤ 33 := by
  cases hb : c.begun
  · unfold goodC at h
    rw [hb] at h
    simp only [cond_false, Bool.and_eq_true, beq_iff_eq] at h
    omega
  · obtain ⟨h1, h2⟩ := goodC_parts h hb
    have := goodOps_len h1
    have := rising_len h2
    omega
theorem clCaseD_eq {fu : Nat} {c : GCluster} {net : List ByteArray} (h : CInv c net) {x : Int} (h0 : 0 ≤ x) (h1 : x < 32) : clCaseD fu c x = some (vget c.cases x.toNat) := by
  obtain ⟨g1, g2⟩ := goodC_sizes (h.cas x.toNat (by omega))
  unfold clCaseD clCase_j2
  rw [bif_f (dec_f (by omega)), dec_f (by omega), cond_false, clCase_j1, inR_ok h0 h1, some_bind, idxG h0 h1, some_bind, some_bind, cloneOps_any (by omega), some_bind, cloneIntsD_eq (by omega), some_bind, some_bind, some_bind, some_bind]
theorem clNetD_eq {fu : Nat} {c : GCluster} {net : List ByteArray} (h : CInv c net) : clNetD fu c net = some (net, net) := by
  unfold clNetD
  rw [cloneStrs_any (by have := h.net.1; omega), some_bind]
theorem topSameNumbers_l1_eq {a : List Int} (ha : a.length ≤ 9000000000000000) : ∀ (n m k : Nat), a.length = k + m → m < n → topSameNumbers_l1 a a n k = some true
  | 0, m, k, _, h => absurd h (by omega)
  | n + 1, 0, k, hk, _ => by rw [topSameNumbers_l1, bif_f (dec_f (by omega))]
  | n + 1, m + 1, k, hk, hn => by
    obtain ⟨x, hx⟩ : ∃ x, a[k]? = some x := ⟨a[k], by simp⟩
    have := topSameNumbers_l1_eq ha n m (k + 1) (by omega) (by omega)
    rw [topSameNumbers_l1, bif_t (dec_t (by omega)), idx_nat, hx, some_bind, some_bind, bif_f (by simp), wr64 (by omega) (by omega)]
    simpa using this
theorem topSameNumbersD_refl {a : List Int} {fu : Nat} (ha : a.length ≤ 9000000000000000) (hf : a.length < fu) : topSameNumbersD fu a a = some true := by
  rw [topSameNumbersD, bif_f (by simp)]
  exact topSameNumbers_l1_eq ha fu a.length 0 (by omega) hf
theorem topSameTexts_l1_eq {a : List ByteArray} (ha : a.length ≤ 9000000000000000) : ∀ (n m k : Nat), a.length = k + m → m < n → topSameTexts_l1 a a n k = some true
  | 0, m, k, _, h => absurd h (by omega)
  | n + 1, 0, k, hk, _ => by rw [topSameTexts_l1, bif_f (dec_f (by omega))]
  | n + 1, m + 1, k, hk, hn => by
    obtain ⟨x, hx⟩ : ∃ x, a[k]? = some x := ⟨a[k], by simp⟩
    have := topSameTexts_l1_eq ha n m (k + 1) (by omega) (by omega)
    rw [topSameTexts_l1, bif_t (dec_t (by omega)), idx_nat, hx, some_bind, some_bind, bif_f (by simp), wr64 (by omega) (by omega)]
    simpa using this
theorem topSameTextsD_refl {a : List ByteArray} {fu : Nat} (ha : a.length ≤ 9000000000000000) (hf : a.length < fu) : topSameTextsD fu a a = some true := by
  rw [topSameTextsD, bif_f (by simp)]
  exact topSameTexts_l1_eq ha fu a.length 0 (by omega) hf
theorem topSameReplyD_refl {r : GReply} {fu : Nat} (ha : r.values.length ≤ 1000) (hf : 1100 ≤ fu) : topSameReplyD fu r r = some true := by
  unfold topSameReplyD topSameReply_j1
  rw [bif_t (by simp), bif_t (by simp), topSameNumbersD_refl (by omega) (by omega), some_bind]
theorem topSameNode_l2_eq {e : GEntry} (he : e.ops.length ≤ 9000000000000000) {y : Int} {rec : Int → Option Bool} : ∀ (n m k : Nat), e.ops.length = k + m → m < n → topSameNode_l2 y rec e e n k = topSameNode_j1 y rec
  | 0, m, k, _, h => absurd h (by omega)
  | n + 1, 0, k, hk, _ => by rw [topSameNode_l2, bif_f (dec_f (by omega))]
  | n + 1, m + 1, k, hk, hn => by
    obtain ⟨x, hx⟩ : ∃ x, e.ops[k]? = some x := ⟨e.ops[k], by simp⟩
    have := topSameNode_l2_eq he (y := y) (rec := rec) n m (k + 1) (by omega) (by omega)
    rw [topSameNode_l2, bif_t (dec_t (by omega)), idx_nat, hx, some_bind, some_bind, bif_f (by simp), wr64 (by omega) (by omega)]
    simpa using this
theorem topSameNode_l1_eq {fu N : Nat} {s : GNode} (h : NSz s N) (hf : N ≤ fu) : ∀ (n m k : Nat), k + m = 32 → m < n → topSameNode_l1 fu s s n k = some true
  | 0, m, k, _, h => absurd h (by omega)
  | n + 1, 0, k, hk, _ => by
    rw [topSameNode_l1, bif_f (dec_f (by omega)), topSameNumbersD_refl (by have := h.order.2; omega) (by have := h.order.1; omega), some_bind, cond_true, topSameNode_j5, dec_t rfl]
  | n + 1, m + 1, k, hk, hn => by
    have hk32 : k < 32 := by omega
    have he := h.ent k
    rw [topSameNode_l1, bif_t (dec_t (by omega)), inR_ok (by omega) (by omega), some_bind, idxE hk32, some_bind, some_bind, some_bind, some_bind, some_bind, topSameNode_j2, bif_f (by simp), bif_f (by simp), topSameNumbersD_refl (by have := he.first.2; omega) (by have := he.first.1; omega), some_bind, bif_f (c := !true) rfl,
      topSameNumbersD_refl (by have := he.deps.2; omega) (by have := he.deps.1; omega), some_bind, bif_f (c := !true) rfl, topSameNumbersD_refl (by have := he.at_.2; omega) (by have := he.at_.1; omega), some_bind, bif_f (c := !true) rfl,
      topSameNumbersD_refl (by have := he.values.2; omega) (by have := he.values.1; omega), some_bind, topSameNode_j4, bif_f (c := !true) rfl, topSameNode_j3]
    have h2 := topSameNode_l2_eq (e := eat s.entries k) (by have := he.ops.2; omega) (y := (k : Int)) (rec := topSameNode_l1 fu s s n) fu (eat s.entries k).ops.length 0 (by omega) (by have := he.ops.1; omega)
    have h2 : topSameNode_l2 k (topSameNode_l1 fu s s n) (eat s.entries k) (eat s.entries k) fu 0 = topSameNode_j1 k (topSameNode_l1 fu s s n) := h2
    rw [h2, topSameNode_j1, wrsB k (by omega)]
    exact topSameNode_l1_eq h hf n m (k + 1) (by omega) (by omega)
theorem topSameNodeD_refl {fu N : Nat} {s : GNode} (h : NSz s N) (hf : N + 40 ≤ fu) : topSameNodeD fu s s = some true := topSameNode_l1_eq h (by omega) fu 32 0 (by omega) (by omega)
theorem topSameCase_l1_eq {fu : Nat} {c : GCase} (hc : c.ops.length ≤ 4) (hd : c.deps.length ≤ 33) (hf : 40 ≤ fu) : ∀ (n m k : Nat), c.ops.length = k + m → m < n → topSameCase_l1 fu c c n k = some true
  | 0, m, k, _, h => absurd h (by omega)
  | n + 1, 0, k, hk, _ => by
    rw [topSameCase_l1, bif_f (dec_f (by omega)), bif_t (by simp), bif_t (by simp), bif_t (by simp), bif_t (by simp), topSameNumbersD_refl (by omega) (by omega), some_bind, cond_true, bif_t (by simp), topSameCase_j1, dec_t rfl]
  | n + 1, m + 1, k, hk, hn => by
    obtain ⟨x, hx⟩ : ∃ x, c.ops[k]? = some x := ⟨c.ops[k], by simp⟩
    have := topSameCase_l1_eq hc hd hf n m (k + 1) (by omega) (by omega)
    rw [topSameCase_l1, bif_t (dec_t (by omega)), idx_nat, hx, some_bind, some_bind, bif_f (by simp), wr64 (by omega) (by omega)]
    simpa using this
theorem topSameCaseD_refl {fu : Nat} {c : GCase} (hc : c.ops.length ≤ 4) (hd : c.deps.length ≤ 33) (hf : 40 ≤ fu) : topSameCaseD fu c c = some true := by
  rw [topSameCaseD, bif_f (by simp)]
  exact topSameCase_l1_eq hc hd hf fu c.ops.length 0 (by omega) (by omega)
structure Alike (c d : GCluster) : Prop where
  nodes : c.nodes = d.nodes
  down : c.down = d.down
  logs : c.logs = d.logs
  cases : c.cases = d.cases
theorem topSame_l2_eq {fu : Nat} (hfu : 1100 ≤ fu) {c d : GCluster} {net : List ByteArray} (h : CInv c net) (h' : CInv d net) (ha : Alike c d) : ∀ (n m k : Nat), k + m = 32 → m < n → ∃ z, topSame__l2 fu net net n c d k = some z ∧ z.1 = true
  | 0, m, k, _, hh => absurd hh (by omega)
  | n + 1, 0, k, hk, _ => by
    refine ⟨(true, c, net, d, net), ?_, rfl⟩
    rw [topSame__l2, bif_f (dec_f (by omega)), clNetD_eq h, some_bind, clNetD_eq h', some_bind, topSameTextsD_refl (by have := h.net.1; dsimp only; omega) (by have := h.net.1; dsimp only; omega), some_bind]
  | n + 1, m + 1, k, hk, hn => by
    obtain ⟨g1, g2⟩ := goodC_sizes (h.cas k (by omega))
    obtain ⟨z, hz, hz1⟩ := topSame_l2_eq hfu h h' ha n m (k + 1) (by omega) (by omega)
    refine ⟨z, ?_, hz1⟩
    rw [topSame__l2, bif_t (dec_t (by omega)), clCaseD_eq h (by omega) (by omega), some_bind, clCaseD_eq h' (by omega) (by omega), some_bind, ← ha.cases, Int.toNat_natCast, topSameCaseD_refl g1 g2 (by omega), some_bind, bif_f (c := !true) rfl, wrsB k (by omega)]
    exact hz
theorem topSame_l1_eq {fu : Nat} (hfu : 1100 ≤ fu) {c d : GCluster} {net : List ByteArray} (h : CInv c net) (h' : CInv d net) (ha : Alike c d) : ∀ (n m k : Nat), k + m = 6 → m < n → ∃ z, topSame__l1 fu n c d net net k = some z ∧ z.1 = true
  | 0, m, k, _, hh => absurd hh (by omega)
  | n + 1, 0, k, hk, _ => by
    rw [topSame__l1, bif_f (dec_f (by omega))]
    exact topSame_l2_eq hfu h h' ha fu 32 0 (by omega) (by omega)
  | n + 1, m + 1, k, hk, hn => by
    have hg := h.node k (by omega)
    obtain ⟨z, hz, hz1⟩ := topSame_l1_eq hfu h h' ha n m (k + 1) (by omega) (by omega)
    refine ⟨z, ?_, hz1⟩
    rw [topSame__l1, bif_t (dec_t (by omega)), clNodeD_eq (by omega) h (by omega) (by omega), some_bind, some_bind, clNodeD_eq (by omega) h' (by omega) (by omega), some_bind, some_bind, ← ha.nodes, ← ha.down, Int.toNat_natCast, topSameNodeD_refl hg.sizes (by omega), some_bind, bif_f (c := !true) rfl, bif_f (by simp),
      clLogD_eq (by omega) (by omega), some_bind, clLogD_eq (by omega) (by omega), some_bind, ← ha.logs, topSame__j2, bif_f (by simp), topSame__j1, wrsB k (by omega)]
    exact hz
theorem topSameD_alike {fu : Nat} (hfu : 1100 ≤ fu) {c d : GCluster} {net : List ByteArray} (h : CInv c net) (h' : CInv d net) (ha : Alike c d) : ∃ z, topSame_D fu c net d net = some z ∧ z.1 = true := topSame_l1_eq hfu h h' ha fu 6 0 (by omega) (by omega)
theorem Alike.refl (c : GCluster) : Alike c c := ⟨rfl, rfl, rfl, rfl⟩
theorem toldZ_small (c : GCluster) (x : Int) : (toldZ c x).values.length ≤ 4 := by
  show (resultC (vget c.cases x.toNat)).1.length ≤ 4
  unfold resultC
  cases ((vget c.cases x.toNat).begun && (goodC (vget c.cases x.toNat) && (wholeC (vget c.cases x.toNat) 0 && wholeC (vget c.cases x.toNat) 1)))
  · simp
  · simp only [cond_true, List.length_take, Vector.length_toList]
    omega
theorem comeZ_acts {c : GCluster} {net : List ByteArray} {n : Nat} {f : GFrame} {s : ByteArray} : (comeZ c net n f s).2.1.acts = c.acts ∧ (comeZ c net n f s).2.1.begun = c.begun ∧ (comeZ c net n f s).2.1.cases = c.cases := by
  unfold comeZ
  cases vget c.down n
  · cases ((takeN (vget c.nodes n) n f).2.2 != 0)
    · cases decide (vget c.tear n > 0)
      · cases (wcode (vget c.logs n) s != 0) <;> exact ⟨rfl, rfl, rfl⟩
      · exact ⟨rfl, rfl, rfl⟩
    · exact ⟨rfl, rfl, rfl⟩
  · exact ⟨rfl, rfl, rfl⟩
theorem frm2_acts {c : GCluster} {net : List ByteArray} {k : Int} {f : GFrame} {s : ByteArray} : (frm2 c net k f s).2.1.acts = c.acts ∧ (frm2 c net k f s).1.values.length ≤ 4 := by
  unfold frm2
  cases (k == 4)
  · cases (f.kind == 1 || f.kind == 3)
    · cases ((takeC (vget c.cases f.id.toNat) f.id f).2.2 != 0)
      · exact ⟨rfl, toldZ_small _ _⟩
      · exact ⟨rfl, Nat.zero_le _⟩
    · refine ⟨comeZ_acts.1, ?_⟩
      show (bif (comeZ c net f.node.toNat f s).1 != 0 then errR (comeZ c net f.node.toNat f s).1 else okR f.id []).values.length ≤ 4
      cases ((comeZ c net f.node.toNat f s).1 != 0) <;> exact Nat.zero_le _
  · exact ⟨rfl, Nat.zero_le _⟩
theorem actZ_acts {c : GCluster} {net : List ByteArray} {a : GAct} (h : c.acts < 400) : (actZ c net a).2.1.acts = c.acts + 1 := by
  unfold actZ
  rw [bif_f (dec_f (by omega))]
  generalize hd : ({ c with acts := c.acts + 1 } : GCluster) = d
  have hda : d.acts = c.acts + 1 := by rw [← hd]
  rw [← hda]
  unfold doA
  cases (a.kind == 1)
  · rw [cond_false]
    cases (a.kind == 2 || (a.kind == 3 || a.kind == 4))
    · rw [cond_false]
      cases (a.kind == 5)
      · rw [cond_false]
        cases (a.kind == 6 || (a.kind == 7 || a.kind == 8))
        · rfl
        · rw [cond_true]
          unfold powZ
          cases powOk a
          · rfl
          · rw [cond_true]
            cases (!(vget d.down a.n.toNat == (a.kind == 8)))
            · rw [cond_false]
              cases (a.kind == 7)
              · rw [cond_false]
                cases (a.kind == 6) <;> rfl
              · rfl
            · rfl
      · rw [cond_true]
        unfold agaZ
        cases decide (0 ≤ a.n ∧ a.n < d.begun) <;> rfl
    · rw [cond_true]
      unfold frmZ
      cases decide (0 ≤ a.n ∧ a.n < net.length)
      · rfl
      · exact frm2_acts.1
  · rw [cond_true]
    unfold begZ
    cases decide (d.begun ≥ 32)
    · rw [cond_false]
      cases ((beginC { id := d.begun, ops := a.ops }).2.2 != 0) <;> rfl
    · rfl
theorem goZ_acts : ∀ (l : List GAct) (c : GCluster) (net : List ByteArray), c.acts + l.length ≤ 400 → (goZ c net l).2.1.acts = c.acts + l.length
  | [], c, _, _ => by show c.acts = c.acts + ((0 : Nat) : Int); omega
  | a :: t, c, net, h => by
    simp only [List.length_cons] at h
    have h1 := actZ_acts (c := c) (net := net) (a := a) (by omega)
    have h2 := goZ_acts t (actZ c net a).2.1 (actZ c net a).2.2 (by omega)
    show (goZ (actZ c net a).2.1 (actZ c net a).2.2 t).2.1.acts = _
    rw [h2, h1]
    simp only [List.length_cons]
    omega
theorem playQD_eq {fu : Nat} (hfu : fu = 70000) {l : List GAct} (hl : l.length ≤ 17592186043904) : playQD fu l = some ((goZ newCl [] (l.take 150)).2.1, true, (goZ newCl [] (l.take 150)).2.2) := by
  have ha : aliveD fu = some true := by rw [hfu]; exact alive_k
  unfold playQD
  rw [ha, some_bind, bif_f (c := !true) rfl, clNewD_eq, some_bind]
  exact playQ_l1_eq (by omega) hl fu 150 0 newCl [] (by omega) (by omega) new_inv
def act0 : GAct := { kind := 0, n := 0, m := 0, ops := [] }
theorem actZ_zero {c : GCluster} {net : List ByteArray} (h : c.acts < 400) : actZ c net act0 = (errR 3, { c with acts := c.acts + 1 }, net) := by
  unfold actZ
  rw [bif_f (dec_f (by omega))]
  rfl
theorem actZ_full {c : GCluster} {net : List ByteArray} {a : GAct} (h : ¬ c.acts < 400) : actZ c net a = (errR 5, c, net) := by
  unfold actZ
  rw [bif_t (dec_t (by omega))]
theorem topEnds_l1_eq {fu : Nat} (hfu : 70000 ≤ fu) {a : GAct} : ∀ (n m k : Nat) (c : GCluster) (net : List ByteArray), k + m = 400 → m < n → c.acts = (k : Int) → CInv c net → topEnds_l1 fu a n c c net net k = some true
  | 0, m, k, _, _, _, h, _, _ => absurd h (by omega)
  | n + 1, 0, k, c, net, hk, _, hc, h => by
    obtain ⟨z, hz, hz1⟩ := topSameD_alike (fu := fu) (by omega) h h (Alike.refl c)
    have hr : topSameReplyD fu (errR 5) { code := 5, n := Zr.zd, values := Zr.zd } = some true := topSameReplyD_refl (r := errR 5) (by simp [errR]) (by omega)
    rw [topEnds_l1, bif_f (dec_f (by omega)), clDoD_eq hfu h, some_bind, actZ_full (by omega), some_bind, hr, some_bind, cond_true, hz, some_bind, topEnds_j4, hz1]
  | n + 1, m + 1, k, c, net, hk, hn, hc, h => by
    have hd := h.do (a := act0)
    rw [actZ_zero (by omega)] at hd
    have hi := topEnds_l1_eq hfu (a := a) n m (k + 1) { c with acts := c.acts + 1 } net (by omega) (by omega) (by show c.acts + 1 = _; omega) hd
    have e : ({ kind := Zr.zd, n := Zr.zd, m := Zr.zd, ops := Zr.zd } : GAct) = act0 := rfl
    rw [topEnds_l1, bif_t (dec_t (by omega)), some_bind, e, clDoD_eq hfu h, some_bind, actZ_zero (by omega), bif_f (by rfl), some_bind, clDoD_eq hfu h, some_bind, actZ_zero (by omega), topEnds_j3, bif_f (by rfl), topEnds_j2, wrsB k (by omega)]
    exact hi
theorem topEndsD_eq {fu : Nat} (hfu : fu = 70000) {l : List GAct} (hl : l.length ≤ 17592186043904) (a : GAct) : topEndsD fu l a = some true := by
  have hlen : (l.take 150).length ≤ 150 := by rw [List.length_take]; omega
  have hacts := goZ_acts (l.take 150) newCl [] (by show (0 : Int) + _ ≤ 400; omega)
  have hinv := goZ_inv (l.take 150) new_inv
  have hmin : min (l.length : Int) 150 = ((l.take 150).length : Int) := by rw [List.length_take]; omega
  unfold topEndsD topEnds_j5 topEnds_j1
  rw [playQD_eq hfu hl, some_bind, some_bind, bif_f (c := !true) rfl, bif_f (c := !true) rfl, hmin]
  exact topEnds_l1_eq (by omega) fu (400 - (l.take 150).length) (l.take 150).length _ _ (by omega) (by omega) (by rw [hacts]; show (0 : Int) + _ = _; omega) hinv
end Go.Proofs.Yteilffoclpgijaa
namespace Go.Proofs.Yteilffoclpgijaa
open Go.RowKit
open Rep (rep)
theorem op3 : Opn Try.prog 3 Int := opn_int Try.underlying3 (by kernel_rfl)
theorem op65 : Opn Try.prog 65 GOp := ⟨by kernel_rfl, fun H enc w fuel cs d p h hw => by
  have hl : cs.length = 3 := by obtain ⟨_, _, _, _, hl, _⟩ := DataW.trod_struct Try.underlying65 h; rw [hl]; kernel_rfl
  obtain ⟨x0, h0⟩ := opn_field (α := Int) (o := 0) (k := 1) Try.underlying65 h hw 0 _ rfl rfl rfl (by kernel_rfl) op3
  obtain ⟨x1, h1⟩ := opn_field (α := Int) (o := 1) (k := 1) Try.underlying65 h hw 1 _ rfl rfl rfl (by kernel_rfl) op3
  obtain ⟨x2, h2⟩ := opn_field (α := Int) (o := 2) (k := 1) Try.underlying65 h hw 2 _ rfl rfl rfl (by kernel_rfl) op3
  exact ⟨⟨x0, x1, x2⟩, GOp.fol ⟨hl, h0, h1, h2⟩⟩⟩
theorem op27 : Opn Try.prog 27 (List (GOp)) := opn_slice Try.underlying27 (by kernel_rfl) op65 (by decide) (by kernel_rfl)
theorem op43 : Opn Try.prog 43 GAct := ⟨by kernel_rfl, fun H enc w fuel cs d p h hw => by
  have hl : cs.length = 4 := by obtain ⟨_, _, _, _, hl, _⟩ := DataW.trod_struct Try.underlying43 h; rw [hl]; kernel_rfl
  obtain ⟨x0, h0⟩ := opn_field (α := Int) (o := 0) (k := 1) Try.underlying43 h hw 0 _ rfl rfl rfl (by kernel_rfl) op3
  obtain ⟨x1, h1⟩ := opn_field (α := Int) (o := 1) (k := 1) Try.underlying43 h hw 1 _ rfl rfl rfl (by kernel_rfl) op3
  obtain ⟨x2, h2⟩ := opn_field (α := Int) (o := 2) (k := 1) Try.underlying43 h hw 2 _ rfl rfl rfl (by kernel_rfl) op3
  obtain ⟨x3, h3⟩ := opn_field (α := List (GOp)) (o := 3) (k := 1) Try.underlying43 h hw 3 _ rfl rfl rfl (by kernel_rfl) op27
  exact ⟨⟨x0, x1, x2, x3⟩, GAct.fol ⟨hl, h0, h1, h2, h3⟩⟩⟩
theorem op22 : Opn Try.prog 22 (List (GAct)) := opn_slice Try.underlying22 (by kernel_rfl) op43 (by decide) (by kernel_rfl)
end Go.Proofs.Yteilffoclpgijaa
