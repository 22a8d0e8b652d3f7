/- What Take of post and its reference compute: the same, at every input. -/
import Derived.Test.YtnfdgjdnlikepabEd
import Derived.Test.YtnfdgjdnlikepabPt
namespace Go.Proofs.Ytnfdgjdnlikepab
open Go.RowKit
open Rep (rep)

theorem takeAnswer_l2_eq {f : GFrame} (hf : AtOk f) {d : GCase} : ∀ (n m k : Nat) (c : GCase), f.at_.length = k + m → m < n → c.ops.length ≤ 4 → takeAnswer_l2 f d (ofZ f.node) n c k = some (doneL (ofZ f.node) c (f.at_.drop k) (f.vals.drop k), [], 0)
  | 0, m, k, c, _, h, _ => absurd h (by omega)
  | n + 1, 0, k, c, hk, _, _ => by
    rw [takeAnswer_l2, bif_f (dec_f (by omega)), List.drop_of_length_le (by omega)]
    rfl
  | n + 1, m + 1, k, c, hk, hn, hc => by
    have hlt : k < f.at_.length := by omega
    have hlv : k < f.vals.length := by have := hf.len; omega
    have ih := fun c h1 => takeAnswer_l2_eq hf (d := d) n m (k + 1) c (by omega) (by omega) h1
    have hw : IntKind.wrap .i64 ((k : Int) + 1) = ((k + 1 : Nat) : Int) := by have := hf.small; rw [wr64 (by omega) (by omega)]; omega
    rw [takeAnswer_l2, bif_t (dec_t (by omega)), idx_nat, List.getElem?_eq_getElem hlt, some_bind, List.drop_eq_getElem_cons hlt, List.drop_eq_getElem_cons hlv]
    have hx := hf.mem f.at_[k] (List.getElem_mem _)
    simp only [takeAnswer_j10, takeAnswer_j9, hw, doneL]
    generalize f.at_[k] = x at hx
    have hd := doneStep_same (sh := ofZ f.node) (c := c) (k := x) (v := f.vals[k])
    have ihd := ih (doneStep (ofZ f.node) c x f.vals[k]) (by rw [hd.1]; exact hc)
    by_cases h1 : x < (c.ops.length : Int)
    · obtain ⟨o, ho⟩ : ∃ o, idx c.ops x = some o := by
        unfold idx
        rw [if_pos hx.1]
        exact ⟨_, List.getElem?_eq_getElem (by omega)⟩
      rw [bif_t (dec_t h1), ho, some_bind, some_bind]
      cases h2 : (shardZ o.key == ofZ f.node)
      · rw [← ihd]
        simp only [cond_false, doneStep, ho, Option.map_some, Option.getD_some, h2, Bool.false_and, Bool.and_false]
      · rw [bif_t (by rfl), inR_ok hx.1 hx.2, some_bind, idxV_in hx.1 hx.2, some_bind]
        cases h3 : hasAt c.has x.toNat
        · rw [← ihd]
          have e : doneStep (ofZ f.node) c x f.vals[k] = { c with has := c.has.setIfInBounds x.toNat true, values := c.values.setIfInBounds x.toNat f.vals[k] } := by
            simp only [doneStep, ho, Option.map_some, Option.getD_some, h2, h3, dec_t h1, Bool.not_false, Bool.true_and, cond_true]
          rw [e]
          simp only [Bool.not_false, cond_true]
          rw [idx_nat, List.getElem?_eq_getElem hlv, some_bind, some_bind, setV_in hx.1 hx.2, some_bind, some_bind, some_bind, idxV_in' hx.1 hx.2, some_bind, setV_in hx.1 hx.2, some_bind]
          rfl
        · rw [← ihd]
          simp only [Bool.not_true, cond_false, doneStep, ho, Option.map_some, Option.getD_some, h2, h3, Bool.and_false]
    · rw [bif_f (dec_f h1), ← ihd]
      simp only [cond_false, doneStep, dec_f h1, Bool.false_and]

/-- A case whose lists may lie in memory. -/
def CSz (c : GCase) : Prop := c.ops.length * 24 ≤ 140737488351232 ∧ c.deps.length * 8 ≤ 140737488351232
theorem copyCaseD_eq {fu : Nat} {c : GCase} (h : CSz c) : copyCaseD fu c = some c := by
  obtain ⟨h1, h2⟩ := h
  unfold copyCaseD
  rw [app_ok (by simp [Rep.bytes]; omega), some_bind, app_ok (by simp [Rep.bytes]; omega), some_bind, some_bind, some_bind, some_bind]
  rfl

theorem takeAnswer_l1_eq {fu : Nat} {c d : GCase} {id : Int} (hf : 10 ≤ fu) : takeAnswer_l1 fu id d c fu (Zr.zd : Vector Int 2) 0 = takeAnswer_j6 fu id d (fixC c) := by
  have h1 : ∀ b, 0 ≤ one1 b ∧ one1 b ≤ 1 := fun b => by cases b <;> decide
  have step : ∀ (n : Nat) (a b : Int) (k : Nat), k < 6 → 0 ≤ a → a ≤ 10 → 0 ≤ b → b ≤ 10 →
      takeAnswer_l1 fu id d c (n + 1) #v[a, b] k = takeAnswer_l1 fu id d c n (if k < 3 then #v[a + one1 (hasAt c.told k), b] else #v[a, b + one1 (hasAt c.told k)]) ((k + 1 : Nat) : Int) := by
    intro n a b k hk ha ha2 hb hb2
    rw [takeAnswer_l1, bif_t (dec_t (by omega)), inR_ok (by omega) (by omega), some_bind, hasAt_some c.told k (by omega), some_bind]
    simp only [takeAnswer_j5]
    rw [show IntKind.wrap .i64 ((k : Int) + 1) = ((k + 1 : Nat) : Int) from by rw [wr64 (by omega) (by omega)]; omega]
    cases hasAt c.told k
    · simp [one1]
    · have ho : ofZ (k : Int) = if k < 3 then 0 else 1 := by
        have : k = 0 ∨ k = 1 ∨ k = 2 ∨ k = 3 ∨ k = 4 ∨ k = 5 := by omega
        rcases this with rfl | rfl | rfl | rfl | rfl | rfl <;> rfl
      rw [bif_t rfl, some_bind, ho]
      by_cases h3 : k < 3
      · rw [if_pos h3, if_pos h3, inR_ok (by omega) (by omega), some_bind]
        have e1 : idxV #v[a, b] 0 = some a := rfl
        rw [e1, some_bind, some_bind, some_bind, wr64 (by omega) (by omega)]
        rfl
      · rw [if_neg h3, if_neg h3, inR_ok (by omega) (by omega), some_bind]
        have e1 : idxV #v[a, b] 1 = some b := rfl
        rw [e1, some_bind, some_bind, some_bind, wr64 (by omega) (by omega)]
        rfl
  obtain ⟨n, rfl⟩ : ∃ n, fu = n + 7 := ⟨fu - 7, by omega⟩
  have b0 := h1 (hasAt c.told 0)
  have b1 := h1 (hasAt c.told 1)
  have b2 := h1 (hasAt c.told 2)
  have b3 := h1 (hasAt c.told 3)
  have b4 := h1 (hasAt c.told 4)
  have b5 := h1 (hasAt c.told 5)
  have z : (Zr.zd : Vector Int 2) = #v[0, 0] := rfl
  rw [z]
  have s0 : takeAnswer_l1 (n + 7) id d c (n + 7) #v[0, 0] 0 = _ := step (n + 6) 0 0 0 (by omega) (by omega) (by omega) (by omega) (by omega)
  rw [s0, if_pos (by omega)]
  have s1 : takeAnswer_l1 (n + 7) id d c (n + 6) #v[0 + one1 (hasAt c.told 0), 0] ((0 + 1 : Nat) : Int) = _ := step (n + 5) (0 + one1 (hasAt c.told 0)) 0 1 (by omega) (by omega) (by omega) (by omega) (by omega)
  rw [s1, if_pos (by omega)]
  have s2 : takeAnswer_l1 (n + 7) id d c (n + 5) #v[0 + one1 (hasAt c.told 0) + one1 (hasAt c.told 1), 0] ((1 + 1 : Nat) : Int) = _ := step (n + 4) _ 0 2 (by omega) (by omega) (by omega) (by omega) (by omega)
  rw [s2, if_pos (by omega)]
  have s3 : takeAnswer_l1 (n + 7) id d c (n + 4) #v[0 + one1 (hasAt c.told 0) + one1 (hasAt c.told 1) + one1 (hasAt c.told 2), 0] ((2 + 1 : Nat) : Int) = _ := step (n + 3) _ 0 3 (by omega) (by omega) (by omega) (by omega) (by omega)
  rw [s3, if_neg (by omega)]
  have s4 : takeAnswer_l1 (n + 7) id d c (n + 3) #v[0 + one1 (hasAt c.told 0) + one1 (hasAt c.told 1) + one1 (hasAt c.told 2), 0 + one1 (hasAt c.told 3)] ((3 + 1 : Nat) : Int) = _ := step (n + 2) _ _ 4 (by omega) (by omega) (by omega) (by omega) (by omega)
  rw [s4, if_neg (by omega)]
  have s5 : takeAnswer_l1 (n + 7) id d c (n + 2) #v[0 + one1 (hasAt c.told 0) + one1 (hasAt c.told 1) + one1 (hasAt c.told 2), 0 + one1 (hasAt c.told 3) + one1 (hasAt c.told 4)] ((4 + 1 : Nat) : Int) = _ := step (n + 1) _ _ 5 (by omega) (by omega) (by omega) (by omega) (by omega)
  rw [s5, if_neg (by omega), takeAnswer_l1, bif_f (dec_f (by omega))]
  have c0 : 0 + one1 (hasAt c.told 0) + one1 (hasAt c.told 1) + one1 (hasAt c.told 2) = cnt3 c.told 0 := by unfold cnt3; rw [Int.zero_add]
  have c1 : 0 + one1 (hasAt c.told 3) + one1 (hasAt c.told 4) + one1 (hasAt c.told 5) = cnt3 c.told 3 := by unfold cnt3; rw [Int.zero_add]
  rw [c0, c1]
  have e0 : idxV #v[cnt3 c.told 0, cnt3 c.told 3] 0 = some (cnt3 c.told 0) := rfl
  have e1 : idxV #v[cnt3 c.told 0, cnt3 c.told 3] 1 = some (cnt3 c.told 3) := rfl
  rw [e0, e1]
  simp only [some_bind]
  have g0 : decide (cnt3 c.told 0 > 1) = decide (cnt3 c.told 0 ≥ 2) := by congr 1
  have g1 : decide (cnt3 c.told 3 > 1) = decide (cnt3 c.told 3 ≥ 2) := by congr 1
  rw [g0, g1]
  unfold fixC enoughC
  cases touchesZ c.ops 0 <;> cases touchesZ c.ops 1 <;> cases decide (cnt3 c.told 0 ≥ 2) <;> cases decide (cnt3 c.told 3 ≥ 2) <;> rfl

theorem takeAnswerD_eq {fu : Nat} {c : GCase} {id : Int} {f : GFrame} (hf : 10 ≤ fu) (hc : CSz c) : takeAnswerD fu c id f = some (takeC c id f) := by
  unfold takeAnswerD takeC takes takeAnswer_j12
  rw [isCaseD_eq (by omega)]
  simp only [some_bind]
  cases hg : goodC c
  · rfl
  · cases hb : c.begun
    · rfl
    · by_cases hid : f.id = id
      · have e1 : (f.id != id) = false := by simp [hid]
        have e2 : (f.id == id) = true := by simp [hid]
        rw [e1, e2]
        cases hh : hasZ c.deps id
        · simp only [Bool.not_true, Bool.not_false, Bool.and_true, cond_true, cond_false, takeAnswer_j1, some_bind, takeAnswer_j11]
          by_cases hz : frameZ f = 0
          · have hin := frameZ_in hz
            have hat := AtOk_of hz
            have hl := good_len hg hb
            have e3 : (frameZ f != 0) = false := by simp [hz]
            have e4 : (frameZ f == 0) = true := by simp [hz]
            rw [e3, e4]
            simp only [cond_false, cond_true, takeOk, takeAnswer_j2]
            rw [copyCaseD_eq hc]
            simp only [some_bind]
            have hj3 : ∀ d : GCase, takeAnswer_j3 (Zr.zd : GCase) d = some (d, [], 0) := fun d => rfl
            have hkk : f.kind = 1 ∨ f.kind = 2 ∨ f.kind = 3 ∨ f.kind = 4 ∨ f.kind = 5 := by omega
            simp only [takeAnswer_j4, takeAnswer_j7, takeAnswer_j8]
            rcases hkk with hk | hk | hk | hk | hk <;> simp only [hk, show ((1 : Int) == 1) = true from rfl, show ((2 : Int) == 1) = false from rfl, show ((3 : Int) == 1) = false from rfl, show ((4 : Int) == 1) = false from rfl, show ((5 : Int) == 1) = false from rfl,
              show ((2 : Int) == 3) = false from rfl, show ((3 : Int) == 3) = true from rfl, show ((4 : Int) == 3) = false from rfl, show ((5 : Int) == 3) = false from rfl, show ((1 : Int) == 2) = false from rfl, show ((2 : Int) == 2) = true from rfl, show ((3 : Int) == 2) = false from rfl,
              show ((4 : Int) == 2) = false from rfl, show ((5 : Int) == 2) = false from rfl, show ((4 : Int) == 4) = true from rfl, show ((5 : Int) == 4) = false from rfl, show ((1 : Int) == 4) = false from rfl, show ((3 : Int) == 4) = false from rfl, show ((2 : Int) == 4) = false from rfl,
              show ((5 : Int) == 5) = true from rfl, show ((4 : Int) == 5) = false from rfl, show ((1 : Int) == 5) = false from rfl, show ((3 : Int) == 5) = false from rfl, show ((2 : Int) == 5) = false from rfl, cond_true, cond_false]
            · cases hfx : c.fixed
              · simp only [Bool.not_false, cond_true, Bool.false_or]
                rw [inR_ok hin.2.1.1 hin.2.1.2, some_bind, idxV_in hin.2.1.1 hin.2.1.2, some_bind]
                cases ht : hasAt c.told f.node.toNat
                · simp only [Bool.not_false, cond_true, Bool.false_or, some_bind]
                  cases hto : touchesZ c.ops (ofZ f.node)
                  · rfl
                  · simp only [Bool.not_true, cond_true, cond_false]
                    rw [setV_in hin.2.1.1 hin.2.1.2, some_bind, show ({ begun := c.begun, fixed := false, ops := c.ops, told := c.told.setIfInBounds f.node.toNat true, known := c.known, deps := unionZ c.deps f.deps, has := c.has, values := c.values } : GCase) = toldC c f from by unfold toldC; rw [hfx], takeAnswer_l1_eq (c := toldC c f) hf, takeAnswer_j6]
                    have ha := againCaseD_eq (c := fixC (toldC c f)) (id := id) (fu := fu) (by omega)
                    cases he : (fixC (toldC c f)).fixed
                    · rfl
                    · rw [bif_t rfl, ha]; rfl
                · rfl
              · rfl
            · cases hfx : c.fixed
              · rfl
              · simp only [cond_true]
                rw [inR_ok hin.2.1.1 hin.2.1.2, some_bind, idxV_in hin.2.1.1 hin.2.1.2, some_bind, setV_in hin.2.1.1 hin.2.1.2, some_bind]
                rfl
            · cases hfx : c.fixed
              · rfl
              · simp only [cond_true]
                exact takeAnswer_l2_eq hat fu f.at_.length 0 c (by omega) (by have := hat.small; omega) hl
          · have e3 : (frameZ f != 0) = true := by simp [hz]
            have e4 : (frameZ f == 0) = false := by simp [hz]
            rw [e3, e4]
            rfl
        · rfl
      · have e1 : (f.id != id) = true := by simp [hid]
        have e2 : (f.id == id) = false := by simp [hid]
        rw [e1, e2]
        rfl

theorem lawPostsD_any {fu : Nat} (hf : 7 ≤ fu) : lawPostsD fu = some true := posts_any hf lawPostsD fun fu => by
  unfold lawPostsD lawPosts_j1
  rfl
theorem postTakesD_eq {fu : Nat} {c : GCase} {id : Int} {f : GFrame} (hf : c.ops.length + 12 ≤ fu) (hc : CSz c) (hs : FSz f) : postTakesD fu c id f = some true := by
  unfold postTakesD postTakes_j1 postTakes_j2
  obtain ⟨h1, h2, h3⟩ := takeC_small (c := c) (id := id) (f := f)
  have hc1 := hc.1
  rw [copyCaseD_eq hc, some_bind, some_bind, lawFrameD_eq hs, some_bind, postTakeD_eq (by omega), some_bind, some_bind, takeAnswerD_eq (by omega) hc, some_bind, some_bind, sameCaseD_refl (by rw [h1]; omega) (by rw [h1]; omega), some_bind, bif_t rfl,
    sameFramesD_refl (by omega) (by omega) h3, some_bind, bif_t rfl, bif_t (by simp), sameCaseD_refl (by omega) (by omega), some_bind, bif_t rfl, lawPostsD_any (by omega), some_bind]
end Go.Proofs.Ytnfdgjdnlikepab
