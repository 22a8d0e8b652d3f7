/- What Take of post computes. -/
import Derived.Test.YtopgdemmdcipcaaEt
import Derived.Test.YtopgdemmdcipcaaPd
namespace Go.Proofs.Ytopgdemmdcipcaa
open Go.RowKit
open Rep (rep)

theorem frameZ_in {f : GFrame} (h : frameZ f = 0) : (1 ≤ f.kind ∧ f.kind ≤ 5) ∧ (0 ≤ f.node ∧ f.node < 6) ∧ (0 ≤ f.id ∧ f.id < 32) := by
  unfold frameZ at h
  split at h
  · cases h
  · split at h
    · cases h
    · omega
theorem setV_in {α : Type} {n : Nat} {v : Vector α n} {j : Int} {x : α} (h0 : 0 ≤ j) (h1 : j < n) : setV v j x = some (v.setIfInBounds j.toNat x) := by
  unfold setV
  rw [if_pos ⟨h0, h1⟩]
theorem idxV_in {n : Nat} {v : Vector Bool n} {j : Int} (h0 : 0 ≤ j) (h1 : j < n) : idxV v j = some (hasAt v j.toNat) := by
  have := hasAt_some v j.toNat (by omega)
  rw [show ((j.toNat : Nat) : Int) = j from by omega] at this
  exact this
theorem idxV_in' {n : Nat} {v : Vector Int n} {j : Int} (h0 : 0 ≤ j) (h1 : j < n) : idxV v j = some (v[j.toNat]?.getD 0) := by
  unfold idxV
  rw [if_pos h0]
  have : j.toNat < n := by omega
  simp [this]

def one1 (b : Bool) : Int := bif b then 1 else 0
def cnt3 (v : Vector Bool 6) (k : Nat) : Int := one1 (hasAt v k) + one1 (hasAt v (k + 1)) + one1 (hasAt v (k + 2))
def enoughC (c : GCase) : Bool := (!touchesZ c.ops 0 || decide (cnt3 c.told 0 ≥ 2)) && (!touchesZ c.ops 1 || decide (cnt3 c.told 3 ≥ 2))

theorem enough_l2_eq {c : GCase} {rec : Int → Option Bool} {s : Nat} (hs : s < 2) {n : Nat} : enough_l2 c s rec (n + 4) 0 0 = bif (touchesZ c.ops s && !decide (cnt3 c.told (3 * s) ≥ 2)) then some false else rec (IntKind.wrap .i64 ((s : Int) + 1)) := by
  have h3 : IntKind.wrap .i64 ((s : Int) * 3) = (s : Int) * 3 := wr64 (by omega) (by omega)
  have step : ∀ (m : Nat) (y : Int) (k : Nat), k < 3 → 0 ≤ y → y ≤ 10 → enough_l2 c s rec (m + 1) y k = enough_l2 c s rec m (y + one1 (hasAt c.told (3 * s + k))) ((k + 1 : Nat) : Int) := by
    intro m y k hk hy hy2
    have hj : IntKind.wrap .i64 ((s : Int) * 3 + (k : Int)) = ((3 * s + k : Nat) : Int) := by rw [wr64 (by omega) (by omega)]; omega
    rw [enough_l2, bif_t (dec_t (by omega)), h3, hj, inR_ok (by omega) (by omega), some_bind, hasAt_some c.told (3 * s + k) (by omega), some_bind]
    simp only [enough_j2]
    rw [show IntKind.wrap .i64 ((k : Int) + 1) = ((k + 1 : Nat) : Int) from by rw [wr64 (by omega) (by omega)]; omega, wr64 (by omega) (by omega)]
    cases hasAt c.told (3 * s + k)
    · simp [one1]
    · rfl
  have h1 : ∀ b, 0 ≤ one1 b ∧ one1 b ≤ 1 := fun b => by cases b <;> decide
  have e0 := step (n + 3) 0 0 (by omega) (by omega) (by omega)
  have b0 := h1 (hasAt c.told (3 * s + 0))
  have b1 := h1 (hasAt c.told (3 * s + 1))
  have e1 := step (n + 2) (0 + one1 (hasAt c.told (3 * s + 0))) 1 (by omega) (by omega) (by omega)
  have e2 := step (n + 1) (0 + one1 (hasAt c.told (3 * s + 0)) + one1 (hasAt c.told (3 * s + 1))) 2 (by omega) (by omega) (by omega)
  have e0 : enough_l2 c s rec (n + 4) 0 0 = _ := e0
  rw [e0]
  have e1 : enough_l2 c s rec (n + 3) _ ((0 + 1 : Nat) : Int) = _ := e1
  rw [e1]
  have e2 : enough_l2 c s rec (n + 2) _ ((1 + 1 : Nat) : Int) = _ := e2
  rw [e2, enough_l2, bif_f (dec_f (by omega)), some_bind]
  have hc : cnt3 c.told (3 * s) = 0 + one1 (hasAt c.told (3 * s + 0)) + one1 (hasAt c.told (3 * s + 1)) + one1 (hasAt c.told (3 * s + 2)) := by unfold cnt3; rw [Int.zero_add]; rfl
  rw [← hc]
  cases touchesZ c.ops s
  · rfl
  · simp only [cond_true, Bool.true_and, enough_j3, enough_j1]
    by_cases h : cnt3 c.told (3 * s) ≥ 2
    · rw [dec_t h, dec_f (by omega)]; rfl
    · rw [dec_f h, dec_t (by omega)]; rfl
theorem enoughD_eq {fu : Nat} {c : GCase} (hf : 7 ≤ fu) : enoughD fu c = some (enoughC c) := by
  obtain ⟨n, rfl⟩ : ∃ n, fu = n + 4 := ⟨fu - 4, by omega⟩
  unfold enoughD enoughC
  have e0 := enough_l2_eq (c := c) (rec := enough_l1 (n + 4) c (n + 3)) (s := 0) (by omega) (n := n)
  have e1 := enough_l2_eq (c := c) (rec := enough_l1 (n + 4) c (n + 2)) (s := 1) (by omega) (n := n)
  have e0 : enough_l2 c 0 (enough_l1 (n + 4) c (n + 3)) (n + 4) 0 0 = bif (touchesZ c.ops 0 && !decide (cnt3 c.told 0 ≥ 2)) then some false else enough_l1 (n + 4) c (n + 3) (IntKind.wrap .i64 (0 + 1)) := e0
  have e1 : enough_l2 c 1 (enough_l1 (n + 4) c (n + 2)) (n + 4) 0 0 = bif (touchesZ c.ops 1 && !decide (cnt3 c.told 3 ≥ 2)) then some false else enough_l1 (n + 4) c (n + 2) (IntKind.wrap .i64 (1 + 1)) := e1
  have w1 : IntKind.wrap .i64 (0 + 1) = 1 := by rw [wr64 (by omega) (by omega)]; rfl
  have w2 : IntKind.wrap .i64 (1 + 1) = 2 := by rw [wr64 (by omega) (by omega)]; rfl
  rw [enough_l1, bif_t (by rfl), e0]
  cases hA : (touchesZ c.ops 0 && !decide (cnt3 c.told 0 ≥ 2))
  · rw [cond_false, w1, enough_l1, bif_t (by rfl), e1]
    cases hB : (touchesZ c.ops 1 && !decide (cnt3 c.told 3 ≥ 2))
    · rw [cond_false, w2, enough_l1, bif_f (by rfl)]
      revert hA hB
      cases touchesZ c.ops 0 <;> cases touchesZ c.ops 1 <;> cases decide (cnt3 c.told 0 ≥ 2) <;> cases decide (cnt3 c.told 3 ≥ 2) <;> simp
    · rw [cond_true]
      revert hB
      cases touchesZ c.ops 0 <;> cases touchesZ c.ops 1 <;> cases decide (cnt3 c.told 0 ≥ 2) <;> cases decide (cnt3 c.told 3 ≥ 2) <;> simp
  · rw [cond_true]
    revert hA
    cases touchesZ c.ops 0 <;> cases touchesZ c.ops 1 <;> cases decide (cnt3 c.told 0 ≥ 2) <;> cases decide (cnt3 c.told 3 ≥ 2) <;> simp

/-! What was done is told. -/
def doneStep (sh : Int) (c : GCase) (k v : Int) : GCase :=
  bif (decide (k < (c.ops.length : Int)) && (((idx c.ops k).map fun o => shardZ o.key == sh).getD false && !hasAt c.has k.toNat)) then { c with has := c.has.setIfInBounds k.toNat true, values := c.values.setIfInBounds k.toNat v } else c
def doneL (sh : Int) : GCase → List Int → List Int → GCase
  | c, k :: at_, v :: vs => doneL sh (doneStep sh c k v) at_ vs
  | c, _, _ => c
theorem doneStep_same {sh : Int} {c : GCase} {k v : Int} : (doneStep sh c k v).ops = c.ops ∧ (doneStep sh c k v).fixed = c.fixed ∧ (doneStep sh c k v).begun = c.begun ∧ (doneStep sh c k v).deps = c.deps ∧ (doneStep sh c k v).told = c.told ∧ (doneStep sh c k v).known = c.known := by
  unfold doneStep
  cases (decide (k < (c.ops.length : Int)) && (((idx c.ops k).map fun o => shardZ o.key == sh).getD false && !hasAt c.has k.toNat)) <;> exact ⟨rfl, rfl, rfl, rfl, rfl, rfl⟩
theorem doneL_same {sh : Int} : ∀ {at_ vs : List Int} {c : GCase}, (doneL sh c at_ vs).ops = c.ops ∧ (doneL sh c at_ vs).fixed = c.fixed ∧ (doneL sh c at_ vs).begun = c.begun ∧ (doneL sh c at_ vs).deps = c.deps ∧ (doneL sh c at_ vs).told = c.told ∧ (doneL sh c at_ vs).known = c.known
  | [], _, _ => by unfold doneL; exact ⟨rfl, rfl, rfl, rfl, rfl, rfl⟩
  | _ :: _, [], _ => by unfold doneL; exact ⟨rfl, rfl, rfl, rfl, rfl, rfl⟩
  | k :: at_, v :: vs, c => by
    unfold doneL
    have h1 := doneL_same (sh := sh) (at_ := at_) (vs := vs) (c := doneStep sh c k v)
    have h2 := doneStep_same (sh := sh) (c := c) (k := k) (v := v)
    exact ⟨h1.1.trans h2.1, h1.2.1.trans h2.2.1, h1.2.2.1.trans h2.2.2.1, h1.2.2.2.1.trans h2.2.2.2.1, h1.2.2.2.2.1.trans h2.2.2.2.2.1, h1.2.2.2.2.2.trans h2.2.2.2.2.2⟩

/-- Lists of what was done. -/
structure AtOk (f : GFrame) : Prop where
  len : f.at_.length = f.vals.length
  small : f.at_.length ≤ 4
  mem : ∀ n ∈ f.at_, 0 ≤ n ∧ n < 4
theorem AtOk_of {f : GFrame} (h : frameZ f = 0) : AtOk f := by
  have := FOk_of h
  obtain ⟨_, _, _, _, h1, h2, h3, _, _⟩ := this
  exact ⟨h3.symm, h1, fun n hn => by have := h2 n hn; omega⟩

theorem postTake_l1_eq {f : GFrame} (hf : AtOk f) : ∀ (n m k : Nat) (c : GCase), f.at_.length = k + m → m < n → c.ops.length ≤ 4 → c.fixed = true → postTake_l1 f n c k = some (doneL (ofZ f.node) c (f.at_.drop k) (f.vals.drop k), [], 0)
  | 0, m, k, c, _, h, _, _ => absurd h (by omega)
  | n + 1, 0, k, c, hk, _, _, _ => by
    rw [postTake_l1, bif_f (dec_f (by omega)), List.drop_of_length_le (by omega), some_bind]
    rfl
  | n + 1, m + 1, k, c, hk, hn, hc, hfx => by
    have hlt : k < f.at_.length := by omega
    have hlv : k < f.vals.length := by have := hf.len; omega
    have ih := fun c h1 h2 => postTake_l1_eq hf n m (k + 1) c (by omega) (by omega) h1 h2
    have hw : IntKind.wrap .i64 ((k : Int) + 1) = ((k + 1 : Nat) : Int) := by have := hf.small; rw [wr64 (by omega) (by omega)]; omega
    rw [postTake_l1, bif_t (dec_t (by omega)), idx_nat, List.getElem?_eq_getElem hlt, some_bind, bif_t hfx, List.drop_eq_getElem_cons hlt, List.drop_eq_getElem_cons hlv]
    have hx := hf.mem f.at_[k] (List.getElem_mem _)
    simp only [postTake_j6, postTake_j5, hw, doneL]
    generalize f.at_[k] = x at hx
    have hd := doneStep_same (sh := ofZ f.node) (c := c) (k := x) (v := f.vals[k])
    have ihd := ih (doneStep (ofZ f.node) c x f.vals[k]) (by rw [hd.1]; exact hc) (by rw [hd.2.1]; exact hfx)
    by_cases h1 : x < (c.ops.length : Int)
    · obtain ⟨o, ho⟩ : ∃ o, idx c.ops x = some o := by
        unfold idx
        rw [if_pos hx.1]
        exact ⟨_, List.getElem?_eq_getElem (by omega)⟩
      rw [bif_t (dec_t h1), ho, some_bind, some_bind, some_bind]
      cases h2 : (shardZ o.key == ofZ f.node)
      · rw [← ihd]
        simp only [cond_false, doneStep, ho, Option.map_some, Option.getD_some, h2, Bool.false_and, Bool.and_false]
      · rw [bif_t (by rfl), inR_ok hx.1 hx.2, some_bind, idxV_in hx.1 hx.2, some_bind]
        cases h3 : hasAt c.has x.toNat
        · rw [← ihd]
          have e : doneStep (ofZ f.node) c x f.vals[k] = { c with has := c.has.setIfInBounds x.toNat true, values := c.values.setIfInBounds x.toNat f.vals[k] } := by
            simp only [doneStep, ho, Option.map_some, Option.getD_some, h2, h3, dec_t h1, Bool.not_false, Bool.true_and, cond_true]
          rw [e]
          simp only [Bool.not_false, cond_true]
          rw [idx_nat, List.getElem?_eq_getElem hlv, some_bind, some_bind, setV_in hx.1 hx.2, some_bind, some_bind, some_bind, idxV_in' hx.1 hx.2, some_bind, setV_in hx.1 hx.2, some_bind]
          rfl
        · rw [← ihd]
          simp only [Bool.not_true, cond_false, doneStep, ho, Option.map_some, Option.getD_some, h2, h3, Bool.and_false]
    · rw [bif_f (dec_f h1), ← ihd]
      simp only [cond_false, doneStep, dec_f h1, Bool.false_and]
theorem postTake_l1_no {f : GFrame} (hf : AtOk f) : ∀ (n m k : Nat) (c : GCase), f.at_.length = k + m → m < n → c.fixed = false → postTake_l1 f n c k = some (c, [], 0)
  | 0, m, k, c, _, h, _ => absurd h (by omega)
  | n + 1, 0, k, c, hk, _, _ => by rw [postTake_l1, bif_f (dec_f (by omega)), some_bind]
  | n + 1, m + 1, k, c, hk, hn, hfx => by
    have hlt : k < f.at_.length := by omega
    have ih := postTake_l1_no hf n m (k + 1) c (by omega) (by omega) hfx
    have hw : IntKind.wrap .i64 ((k : Int) + 1) = ((k + 1 : Nat) : Int) := by have := hf.small; rw [wr64 (by omega) (by omega)]; omega
    rw [postTake_l1, bif_t (dec_t (by omega)), idx_nat, List.getElem?_eq_getElem hlt, some_bind, bif_f hfx]
    simp only [postTake_j6, postTake_j5, hw, cond_false]
    exact ih
/-! The case behind an answer. -/
def toldC (c : GCase) (f : GFrame) : GCase := { c with told := c.told.setIfInBounds f.node.toNat true, deps := unionZ c.deps f.deps }
def fixC (c : GCase) : GCase := { c with fixed := enoughC c }
def takeOk (c : GCase) (id : Int) (f : GFrame) : GCase × List GFrame × Int :=
  bif f.kind == 2 then
    bif c.fixed || (hasAt c.told f.node.toNat || !touchesZ c.ops (ofZ f.node)) then (c, [], 0)
    else (fixC (toldC c f), (bif (fixC (toldC c f)).fixed then againC (fixC (toldC c f)) id else []), 0)
  else bif f.kind == 4 then (bif c.fixed then ({ c with known := c.known.setIfInBounds f.node.toNat true }, [], 0) else (c, [], 0))
  else bif f.kind == 5 then (bif c.fixed then (doneL (ofZ f.node) c f.at_ f.vals, [], 0) else (c, [], 0))
  else (c, [], 3)
def takes (c : GCase) (id : Int) (f : GFrame) : Bool := goodC c && (c.begun && (f.id == id && !hasZ c.deps id))
def takeC (c : GCase) (id : Int) (f : GFrame) : GCase × List GFrame × Int :=
  bif takes c id f then (bif frameZ f == 0 then takeOk c id f else (c, [], frameZ f)) else (c, [], 2)

theorem postTakeD_eq {fu : Nat} {c : GCase} {id : Int} {f : GFrame} (hf : 7 ≤ fu) : postTakeD fu c id f = some (takeC c id f) := by
  unfold postTakeD takeC takes postTake_j7
  rw [postGoodD_eq]
  simp only [some_bind]
  cases hg : goodC c
  · rfl
  · cases hb : c.begun
    · rfl
    · by_cases hid : f.id = id
      · have e1 : (f.id != id) = false := by simp [hid]
        have e2 : (f.id == id) = true := by simp [hid]
        rw [e1, e2]
        cases hh : hasZ c.deps id
        · simp only [Bool.not_true, Bool.not_false, Bool.and_true, cond_true, cond_false, postTake_j1, some_bind]
          by_cases hz : frameZ f = 0
          · have hin := frameZ_in hz
            have hat := AtOk_of hz
            have hl := good_len hg hb
            have e3 : (frameZ f != 0) = false := by simp [hz]
            have e4 : (frameZ f == 0) = true := by simp [hz]
            rw [e3, e4]
            simp only [cond_false, cond_true, takeOk]
            cases hk2 : (f.kind == 2)
            · simp only [cond_false]
              cases hk4 : (f.kind == 4)
              · simp only [cond_false]
                cases hk5 : (f.kind == 5)
                · rfl
                · simp only [cond_true]
                  cases hfx : c.fixed
                  · exact postTake_l1_no hat fu f.at_.length 0 c (by omega) (by have := hat.small; omega) hfx
                  · exact postTake_l1_eq hat fu f.at_.length 0 c (by omega) (by have := hat.small; omega) hl hfx
              · simp only [cond_true]
                cases hfx : c.fixed
                · rfl
                · simp only [cond_true]
                  rw [inR_ok hin.2.1.1 hin.2.1.2, some_bind, idxV_in hin.2.1.1 hin.2.1.2, some_bind, setV_in hin.2.1.1 hin.2.1.2, some_bind]
                  rfl
            · simp only [cond_true]
              cases hfx : c.fixed
              · simp only [cond_false, Bool.false_or]
                rw [inR_ok hin.2.1.1 hin.2.1.2, some_bind, idxV_in hin.2.1.1 hin.2.1.2, some_bind]
                cases ht : hasAt c.told f.node.toNat
                · simp only [cond_false, Bool.false_or, some_bind, postTake_j3]
                  cases hto : touchesZ c.ops (ofZ f.node)
                  · rfl
                  · simp only [Bool.not_true, cond_false, postTake_j2]
                    rw [inR_ok hin.2.1.1 hin.2.1.2, some_bind, idxV_in hin.2.1.1 hin.2.1.2, some_bind, setV_in hin.2.1.1 hin.2.1.2, some_bind, some_bind, some_bind, some_bind, enoughD_eq hf, some_bind, some_bind]
                    have e5 : ({ c with told := c.told.setIfInBounds f.node.toNat true, deps := unionZ c.deps f.deps, fixed := enoughC (toldC c f) } : GCase) = fixC (toldC c f) := rfl
                    have e6 : (fixC (toldC c f)).fixed = enoughC (toldC c f) := rfl
                    have ha := againD_eq (c := fixC (toldC c f)) (id := id) hf
                    cases he : enoughC (toldC c f)
                    · rw [he] at e5 e6
                      rw [e6]
                      have he' : enoughC { c with told := c.told.setIfInBounds f.node.toNat true, deps := unionZ c.deps f.deps } = false := he
                      rw [he']
                      simp only [Bool.not_false, cond_true, cond_false, some_bind]
                      rw [← e5]
                    · rw [he] at e5 e6
                      rw [e6]
                      have he' : enoughC { c with told := c.told.setIfInBounds f.node.toNat true, deps := unionZ c.deps f.deps } = true := he
                      rw [he']
                      simp only [Bool.not_true, cond_true, cond_false, some_bind]
                      rw [← e5] at ha ⊢
                      rw [ha]
                      rfl
                · rfl
              · rfl
          · have e3 : (frameZ f != 0) = true := by simp [hz]
            have e4 : (frameZ f == 0) = false := by simp [hz]
            rw [e3, e4]
            rfl
        · rfl
      · have e1 : (f.id != id) = true := by simp [hid]
        have e2 : (f.id == id) = false := by simp [hid]
        rw [e1, e2]
        rfl

/-! The law. -/
theorem takeOk_small {c : GCase} {id : Int} {f : GFrame} : (takeOk c id f).1.ops = c.ops ∧ (takeOk c id f).2.1.length ≤ 6 ∧ ∀ x ∈ (takeOk c id f).2.1, x.ops.length ≤ 4 := by
  unfold takeOk
  cases (f.kind == 2)
  · cases (f.kind == 4)
    · cases (f.kind == 5)
      · exact ⟨rfl, Nat.zero_le _, by simp⟩
      · cases c.fixed
        · exact ⟨rfl, Nat.zero_le _, by simp⟩
        · exact ⟨doneL_same.1, Nat.zero_le _, by simp⟩
    · cases c.fixed
      · exact ⟨rfl, Nat.zero_le _, by simp⟩
      · exact ⟨rfl, Nat.zero_le _, by simp⟩
  · cases (c.fixed || (hasAt c.told f.node.toNat || !touchesZ c.ops (ofZ f.node)))
    · cases (fixC (toldC c f)).fixed
      · exact ⟨rfl, Nat.zero_le _, by simp⟩
      · exact ⟨rfl, againC_small.1, againC_small.2⟩
    · exact ⟨rfl, Nat.zero_le _, by simp⟩
theorem takeC_small {c : GCase} {id : Int} {f : GFrame} : (takeC c id f).1.ops = c.ops ∧ (takeC c id f).2.1.length ≤ 6 ∧ ∀ x ∈ (takeC c id f).2.1, x.ops.length ≤ 4 := by
  unfold takeC
  cases takes c id f
  · exact ⟨rfl, Nat.zero_le _, by simp⟩
  · cases (frameZ f == 0)
    · exact ⟨rfl, Nat.zero_le _, by simp⟩
    · exact takeOk_small
theorem againC_three : ((againC (newC [⟨1, 2, 0⟩]) 3).length : Int) = 3 ∧ (idx (againC (newC [⟨1, 2, 0⟩]) 3) 2).map (fun x => x.node == 2) = some true := by decide +kernel
theorem posts_any {fu : Nat} (hf : 7 ≤ fu) (p : Nat → Option Bool) (hp : ∀ fu, p fu = (postBeginD fu ⟨3, [⟨1, 2, 0⟩]⟩).bind fun r9 => (bif r9.2.2 == 0 then (bif r9.1.begun then (bif (r9.2.1.length : Int) == 3 then (idx r9.2.1 2).bind fun x26 => some (x26.node == 2) else some false) else some false) else some false)) : p fu = some true := by
  rw [hp, postBeginD_eq hf, some_bind]
  decide +kernel
end Go.Proofs.Ytopgdemmdcipcaa
