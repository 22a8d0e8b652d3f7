/- What the functions of post and their references compute: the same, at every input. -/
import Derived.Test.YtopgdemmdcipcaaEb
import Derived.Test.YtopgdemmdcipcaaPc
namespace Go.Proofs.Ytopgdemmdcipcaa
open Go.RowKit
open Rep (rep)

theorem sameOps_l1_eq {a : List GOp} (ha : a.length ≤ 9000000000000000) : ∀ (n m k : Nat), a.length = k + m → m < n → sameOps_l1 a a n k = some true
  | 0, m, k, _, h => absurd h (by omega)
  | n + 1, 0, k, hk, _ => by rw [sameOps_l1, bif_f (dec_f (by omega))]
  | n + 1, m + 1, k, hk, hn => by
    obtain ⟨x, hx⟩ : ∃ x, a[k]? = some x := ⟨a[k], by simp⟩
    have := sameOps_l1_eq ha n m (k + 1) (by omega) (by omega)
    rw [sameOps_l1, bif_t (dec_t (by omega)), idx_nat, hx, some_bind, some_bind, bif_f (by simp), wr64 (by omega) (by omega)]
    simpa using this
theorem sameOpsD_refl {a : List GOp} {fu : Nat} (ha : a.length ≤ 9000000000000000) (hf : a.length < fu) : sameOpsD fu a a = some true := by
  rw [sameOpsD, bif_f (by simp)]
  exact sameOps_l1_eq ha fu a.length 0 (by omega) hf
theorem sameOpsD_nil {a : List GOp} {fu : Nat} (hf : 0 < fu) : sameOpsD fu a [] = some ((a.length : Int) == 0) := by
  obtain ⟨fu, rfl⟩ : ∃ n, fu = n + 1 := ⟨fu - 1, by omega⟩
  unfold sameOpsD
  cases a with
  | nil => rfl
  | cons o t =>
    rw [bif_t (by simp; omega)]
    congr 1

def goodC (c : GCase) : Bool :=
  bif c.begun then goodOpsZ c.ops && risingZ c.deps
  else !c.fixed && ((c.ops.length : Int) == 0 && ((c.deps.length : Int) == 0 && (decide (c.told = (Zr.zd : Vector Bool 6)) && (decide (c.known = (Zr.zd : Vector Bool 6)) && (decide (c.has = (Zr.zd : Vector Bool 4)) && decide (c.values = (Zr.zd : Vector Int 4)))))))
theorem postGoodD_eq {fu : Nat} (c : GCase) : postGoodD fu c = some (goodC c) := by
  unfold postGoodD goodC postGood_j1 postGood_j2
  simp only [some_bind]
  cases c.begun
  · generalize (!c.fixed) = b1
    generalize ((c.ops.length : Int) == 0) = b2
    generalize ((c.deps.length : Int) == 0) = b3
    generalize decide (c.told = (Zr.zd : Vector Bool 6)) = b4
    generalize decide (c.known = (Zr.zd : Vector Bool 6)) = b5
    generalize decide (c.has = (Zr.zd : Vector Bool 4)) = b6
    cases b1 <;> cases b2 <;> cases b3 <;> cases b4 <;> cases b5 <;> cases b6 <;> rfl
  · generalize goodOpsZ c.ops = b1
    cases b1 <;> rfl
theorem sameZ_nil (l : List Int) : sameZ l [] = ((l.length : Int) == 0) := by
  cases l with
  | nil => rfl
  | cons a t =>
    rw [show ((((a :: t).length : Nat) : Int) == 0) = false from by simp; omega]
    unfold sameZ
    simp
/-! Which values are there. -/
def wholeL (has : Nat → Bool) (s : Int) : List GOp → Nat → Bool
  | [], _ => true
  | o :: t, k => bif (shardZ o.key == s && !has k) then false else wholeL has s t (k + 1)
def hasAt {n : Nat} (v : Vector Bool n) (k : Nat) : Bool := v[k]?.getD false
theorem hasAt_some {n : Nat} (v : Vector Bool n) (k : Nat) (h : k < n) : idxV v (k : Int) = some (hasAt v k) := by
  unfold idxV hasAt
  rw [if_pos (Int.natCast_nonneg k)]
  simp [h]
theorem whole_l1_eq {c : GCase} {s : Int} (hc : c.ops.length ≤ 4) : ∀ (n m k : Nat), c.ops.length = k + m → m < n → whole_l1 c s n k = some (wholeL (hasAt c.has) s (c.ops.drop k) k)
  | 0, m, k, _, h => absurd h (by omega)
  | n + 1, 0, k, hk, _ => by
    rw [whole_l1, bif_f (dec_f (by omega)), List.drop_of_length_le (by omega)]
    rfl
  | n + 1, m + 1, k, hk, hn => by
    have hlt : k < c.ops.length := by omega
    have hd : c.ops.drop k = c.ops[k] :: c.ops.drop (k + 1) := List.drop_eq_getElem_cons hlt
    have hx : c.ops[k]? = some c.ops[k] := by simp
    have ih := whole_l1_eq (s := s) hc n m (k + 1) (by omega) (by omega)
    rw [whole_l1, bif_t (dec_t (by omega)), idx_nat, hx, hd]
    simp only [some_bind, wholeL]
    rw [inR_ok (by omega) (by omega), hasAt_some c.has k (by omega)]
    simp only [some_bind, whole_j2, whole_j1]
    rw [wr64 (by omega) (by omega), show (k : Int) + 1 = ((k + 1 : Nat) : Int) from by omega, ih]
    cases (shardZ c.ops[k].key == s) <;> cases hasAt c.has k <;> rfl
def wholeC (c : GCase) (s : Int) : Bool := wholeL (hasAt c.has) s c.ops 0
theorem wholeD_eq {fu : Nat} {c : GCase} {s : Int} (hc : c.ops.length ≤ 4) (hf : 5 ≤ fu) : wholeD fu c s = some (wholeC c s) := whole_l1_eq hc fu c.ops.length 0 (by omega) (by omega)
theorem wholeL_un {has : Nat → Bool} {s : Int} : ∀ (l : List GOp) (k : Nat), touchesZ l s = false → wholeL has s l k = true
  | [], _, _ => rfl
  | o :: t, k, h => by
    unfold touchesZ at h
    rw [List.any_cons, Bool.or_eq_false_iff] at h
    rw [wholeL, h.1, bif_f (by rfl)]
    exact wholeL_un t (k + 1) h.2

/-! The frames that are sent. -/
def againAt (c : GCase) (id : Int) (k : Nat) : List GFrame :=
  bif c.fixed then bif !hasAt c.known k || !wholeC c (ofZ k) then [⟨3, k, id, c.ops, c.deps, [], []⟩] else []
  else bif touchesZ c.ops (ofZ k) && !hasAt c.told k then [⟨1, k, id, c.ops, [], [], []⟩] else []
def againL (c : GCase) (id : Int) : Nat → Nat → List GFrame
  | 0, _ => []
  | m + 1, k => againAt c id k ++ againL c id m (k + 1)
theorem againAt_len (c : GCase) (id : Int) (k : Nat) : (againAt c id k).length ≤ 1 := by
  unfold againAt
  cases c.fixed <;> simp only [cond_true, cond_false]
  · cases (touchesZ c.ops (ofZ k) && !hasAt c.told k) <;> simp
  · cases (!hasAt c.known k || !wholeC c (ofZ k)) <;> simp
theorem againL_mem {c : GCase} {id : Int} : ∀ (m k : Nat) (f : GFrame), f ∈ againL c id m k → f.ops = c.ops
  | 0, k, f, h => by simp [againL] at h
  | m + 1, k, f, h => by
    rw [againL, List.mem_append] at h
    rcases h with h | h
    · unfold againAt at h
      cases hfx : c.fixed <;> rw [hfx] at h <;> simp only [cond_true, cond_false] at h
      · cases hb : (touchesZ c.ops (ofZ k) && !hasAt c.told k) <;> rw [hb] at h <;> simp at h
        rw [h]
      · cases hb : (!hasAt c.known k || !wholeC c (ofZ k)) <;> rw [hb] at h <;> simp at h
        rw [h]
    · exact againL_mem m (k + 1) f h
theorem againL_len {c : GCase} {id : Int} : ∀ (m k : Nat), (againL c id m k).length ≤ m
  | 0, k => by simp [againL]
  | m + 1, k => by
    rw [againL, List.length_append]
    have := againAt_len c id k
    have := againL_len (c := c) (id := id) m (k + 1)
    omega
theorem appF {l : List GFrame} {f : GFrame} (h : l.length ≤ 6) : app l [f] = some (l ++ [f]) := app_ok (by
  have : Rep.bytes GFrame = 120 := rfl
  rw [this]
  simp
  omega)
theorem again_l1_eq {fu : Nat} {c : GCase} {id : Int} (hc : c.ops.length ≤ 4) (hf : 5 ≤ fu) : ∀ (n m k : Nat) (l : List GFrame), k + m = 6 → m < n → l.length ≤ k → again_l1 fu c id n l k = some (l ++ againL c id m k)
  | 0, m, k, l, _, h, _ => absurd h (by omega)
  | n + 1, 0, k, l, hk, _, _ => by
    rw [again_l1, bif_f (dec_f (by omega))]
    simp [againL]
  | n + 1, m + 1, k, l, hk, hn, hl => by
    have ih := fun l' hl' => again_l1_eq (id := id) hc hf n m (k + 1) l' (by omega) (by omega) hl'
    have hw : IntKind.wrap .i64 ((k : Int) + 1) = ((k + 1 : Nat) : Int) := by rw [wr64 (by omega) (by omega)]; omega
    rw [again_l1, bif_t (dec_t (by omega)), againL]
    simp only [some_bind, again_j3, again_j4, again_j2, hw, appF (show l.length ≤ 6 by omega), hasAt_some c.told k (by omega), hasAt_some c.known k (by omega), inR_ok (show (0 : Int) ≤ k by omega) (show (k : Int) < 6 by omega), wholeD_eq hc hf]
    unfold againAt
    have i0 := ih l (by omega)
    have i1 := fun f => ih (l ++ [f]) (by simp; omega)
    cases hfx : c.fixed
    · cases ht : touchesZ c.ops (ofZ k)
      · simp only [Bool.not_false, cond_true, cond_false, Bool.false_and]
        rw [i0]; simp
      · cases hh : hasAt c.told k
        · simp only [Bool.not_false, cond_true, cond_false, Bool.true_and]
          rw [i1]; simp; rfl
        · simp only [Bool.not_false, Bool.not_true, cond_true, cond_false, Bool.true_and]
          rw [i0]; simp
    · cases hh : hasAt c.known k
      · simp only [Bool.not_false, Bool.not_true, cond_true, cond_false, Bool.true_or]
        rw [i1]; simp; rfl
      · cases ht : touchesZ c.ops (ofZ k)
        · have hwh : wholeC c (ofZ k) = true := wholeL_un c.ops 0 ht
          simp only [Bool.not_true, cond_true, cond_false, hwh, Bool.or_false]
          rw [i0]; simp
        · cases hwh : wholeC c (ofZ k)
          · simp only [Bool.not_false, Bool.not_true, cond_true, cond_false, Bool.false_or]
            rw [i1]; simp; rfl
          · simp only [Bool.not_true, cond_true, cond_false, Bool.or_false]
            rw [i0]; simp
def sends (c : GCase) (id : Int) : Bool := goodC c && (c.begun && (decide (0 ≤ id ∧ id < 32) && !hasZ c.deps id))
def againC (c : GCase) (id : Int) : List GFrame := bif sends c id then againL c id 6 0 else []
theorem good_len {c : GCase} (h : goodC c = true) (hb : c.begun = true) : c.ops.length ≤ 4 := by
  unfold goodC at h
  rw [hb] at h
  simp only [cond_true, Bool.and_eq_true] at h
  exact (goodOps_len h.1).2
theorem againD_eq {fu : Nat} {c : GCase} {id : Int} (hf : 7 ≤ fu) : againD fu c id = some (againC c id) := by
  unfold againD againC sends again_j5 again_j1
  rw [postGoodD_eq]
  simp only [some_bind]
  cases hg : goodC c
  · rfl
  · cases hb : c.begun
    · rfl
    · by_cases h0 : id < 0
      · rw [dec_t h0, dec_f (show ¬ (0 ≤ id ∧ id < 32) by omega)]; rfl
      · by_cases h1 : id ≥ 32
        · rw [dec_f h0, dec_t h1, dec_f (show ¬ (0 ≤ id ∧ id < 32) by omega)]; rfl
        · rw [dec_f h0, dec_f h1, dec_t (show 0 ≤ id ∧ id < 32 by omega)]
          cases hh : hasZ c.deps id
          · have := again_l1_eq (fu := fu) (id := id) (good_len hg hb) (by omega) fu 6 0 [] (by omega) (by omega) (by simp)
            simpa using this
          · rfl
theorem againC_small {c : GCase} {id : Int} : (againC c id).length ≤ 6 ∧ ∀ f ∈ againC c id, f.ops.length ≤ 4 := by
  unfold againC
  cases hs : sends c id
  · simp
  · unfold sends at hs
    simp only [Bool.and_eq_true] at hs
    refine ⟨againL_len 6 0, fun f hf => ?_⟩
    rw [againL_mem 6 0 f hf]
    exact good_len hs.1 hs.2.1

/-! Frames are as they are. -/
theorem sameFrameD_refl {fu : Nat} {f : GFrame} (h : f.ops.length ≤ 4) (hf : 5 ≤ fu) : sameFrameD fu f f = some true := by
  unfold sameFrameD sameFrame_j1
  rw [sameOpsD_refl (by omega) (by omega)]
  simp only [some_bind, sameZ_refl, beq_self_eq_true, cond_true]
theorem sameFrames_l1_eq {fu : Nat} {a : List GFrame} (hf : 5 ≤ fu) (ha : a.length ≤ 9000000000000000) (h : ∀ f ∈ a, f.ops.length ≤ 4) : ∀ (n m k : Nat), a.length = k + m → m < n → sameFrames_l1 fu a a n k = some true
  | 0, m, k, _, h => absurd h (by omega)
  | n + 1, 0, k, hk, _ => by rw [sameFrames_l1, bif_f (dec_f (by omega))]
  | n + 1, m + 1, k, hk, hn => by
    obtain ⟨x, hx⟩ : ∃ x, a[k]? = some x := ⟨a[k], by simp⟩
    have := sameFrames_l1_eq hf ha h n m (k + 1) (by omega) (by omega)
    rw [sameFrames_l1, bif_t (dec_t (by omega)), idx_nat, hx, some_bind, some_bind, sameFrameD_refl (h x (List.mem_of_getElem? hx)) hf, some_bind, bif_f (c := !true) rfl, wr64 (by omega) (by omega)]
    simpa using this
theorem sameFramesD_refl {fu : Nat} {a : List GFrame} (hf : a.length + 5 ≤ fu) (ha : a.length ≤ 9000000000000000) (h : ∀ f ∈ a, f.ops.length ≤ 4) : sameFramesD fu a a = some true := by
  rw [sameFramesD, bif_f (by simp)]
  exact sameFrames_l1_eq (by omega) ha h fu a.length 0 (by omega) (by omega)
/-! A transaction begins. -/
def newC (ops : List GOp) : GCase := ⟨true, false, ops, Zr.zd, Zr.zd, [], Zr.zd, Zr.zd⟩
def noC : GCase := ⟨false, false, [], Zr.zd, Zr.zd, [], Zr.zd, Zr.zd⟩
def beginC (t : GTxn) : GCase × List GFrame × Int :=
  bif decide (0 ≤ t.id ∧ t.id < 32) then bif goodOpsZ t.ops then (newC t.ops, againC (newC t.ops) t.id, 0) else (noC, [], 1) else (noC, [], 2)
theorem appO {l : List GOp} (h : l.length ≤ 4) : app ([] : List GOp) l = some l := by
  rw [app_ok]
  · simp
  · have : Rep.bytes GOp = 24 := rfl
    rw [this]
    simp
    omega
theorem postBeginD_eq {fu : Nat} {t : GTxn} (hf : 7 ≤ fu) : postBeginD fu t = some (beginC t) := by
  unfold postBeginD beginC postBegin_j2 postBegin_j1 cloneOpsD
  by_cases h0 : t.id < 0
  · rw [dec_t h0, dec_f (show ¬ (0 ≤ t.id ∧ t.id < 32) by omega)]; rfl
  · by_cases h1 : t.id ≥ 32
    · rw [dec_f h0, dec_t h1, dec_f (show ¬ (0 ≤ t.id ∧ t.id < 32) by omega)]; rfl
    · rw [dec_f h0, dec_f h1, dec_t (show 0 ≤ t.id ∧ t.id < 32 by omega)]
      simp only [some_bind, cond_false, cond_true]
      cases hg : goodOpsZ t.ops
      · rfl
      · simp only [Bool.not_true, cond_false, cond_true]
        rw [appO (goodOps_len hg).2]
        simp only [some_bind]
        have := againD_eq (c := newC t.ops) (id := t.id) hf
        unfold newC at this ⊢
        erw [this]
        rfl
theorem beginC_small (t : GTxn) : (beginC t).1.ops.length ≤ 4 ∧ (beginC t).2.1.length ≤ 6 ∧ ∀ f ∈ (beginC t).2.1, f.ops.length ≤ 4 := by
  unfold beginC
  cases hd : decide (0 ≤ t.id ∧ t.id < 32)
  · exact ⟨Nat.zero_le _, Nat.zero_le _, by simp⟩
  · cases hg : goodOpsZ t.ops
    · exact ⟨Nat.zero_le _, Nat.zero_le _, by simp⟩
    · exact ⟨(goodOps_len hg).2, againC_small.1, againC_small.2⟩

/-! What a transaction reads. -/
def resultC (c : GCase) : List Int × Bool := bif c.begun && (goodC c && (wholeC c 0 && wholeC c 1)) then (c.values.toList.take c.ops.length, true) else ([], false)
theorem postResultD_eq {fu : Nat} {c : GCase} (hf : 7 ≤ fu) : postResultD fu c = some (resultC c) := by
  unfold postResultD resultC postResult_j2 postResult_j1
  rw [postGoodD_eq]
  simp only [some_bind]
  cases hb : c.begun
  · rfl
  · cases hg : goodC c
    · rfl
    · have hl := good_len hg hb
      obtain ⟨fu, rfl⟩ : ∃ n, fu = n + 3 := ⟨fu - 3, by omega⟩
      simp only [Bool.not_true, cond_true, cond_false, Bool.true_and]
      rw [postResult_l1, wholeD_eq hl (by omega)]
      simp only [some_bind]
      rw [bif_t (by rfl)]
      cases wholeC c 0
      · rfl
      · rw [bif_f (by rfl), postResult_l1, show IntKind.wrap .i64 (0 + 1) = 1 from by rw [wr64 (by omega) (by omega)]; rfl, wholeD_eq hl (by omega)]
        simp only [some_bind]
        rw [bif_t (by rfl)]
        cases wholeC c 1
        · rfl
        · rw [bif_f (by rfl), postResult_l1, show IntKind.wrap .i64 (1 + 1) = 2 from by rw [wr64 (by omega) (by omega)]; rfl, bif_f (by rfl)]
          have hv : c.values.toList.length = 4 := by simp
          have hcut : cutL c.values.toList none (some (c.ops.length : Int)) = some (c.values.toList.take c.ops.length) := by
            unfold cutL cutOk
            rw [if_pos (by simp; omega)]
            simp
          rw [hcut]
          simp only [some_bind, cloneIntsD]
          rw [app_ok]
          · rfl
          · have : Rep.bytes Int = 8 := rfl
            rw [this]
            simp
            omega
end Go.Proofs.Ytopgdemmdcipcaa
