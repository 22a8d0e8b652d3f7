/- What Good of wire and its reference compute: the same, at every frame. -/
import Derived.Test.YtopgdemmdcipcaaEu
import Derived.Test.YtopgdemmdcipcaaPa
namespace Go.Proofs.Ytopgdemmdcipcaa
open Go.RowKit
open Rep (rep)

theorem wrK (k : Nat) (h : k ≤ 17592186043904) : IntKind.wrap .i64 ((k : Int) + 1) = ((k + 1 : Nat) : Int) := by rw [wr64 (by omega) (by omega)]; omega
/-- From k on, of this many. -/
def allFrom (p : Nat → Bool) : Nat → Nat → Bool
  | _, 0 => true
  | k, m + 1 => p k && allFrom p (k + 1) m
theorem allFrom_iff {p : Nat → Bool} : ∀ (m k : Nat), allFrom p k m = true ↔ ∀ i, k ≤ i → i < k + m → p i = true
  | 0, k => by simp only [allFrom, true_iff]; intro i h1 h2; omega
  | m + 1, k => by
    rw [allFrom, Bool.and_eq_true, allFrom_iff m (k + 1)]
    constructor
    · rintro ⟨h1, h2⟩ i hi hj
      by_cases e : i = k
      · subst e; exact h1
      · exact h2 i (by omega) (by omega)
    · intro h
      exact ⟨h k (Nat.le_refl _) (by omega), fun i h1 h2 => h i (by omega) (by omega)⟩
theorem allFrom_zero {p : Nat → Bool} {n : Nat} : allFrom p 0 n = allTo p n := by
  rw [Bool.eq_iff_iff, allFrom_iff, allTo_iff]
  exact ⟨fun h i hi => h i (Nat.zero_le _) (by omega), fun h i _ hi => h i (by omega)⟩
theorem allFrom_and {p q : Nat → Bool} : ∀ (m k : Nat), allFrom (fun i => p i && q i) k m = (allFrom p k m && allFrom q k m)
  | 0, _ => rfl
  | m + 1, k => by
    simp only [allFrom]
    rw [allFrom_and m (k + 1)]
    cases p k <;> cases q k <;> simp
theorem getD_at {l : List Int} {k : Nat} (h : k < l.length) : l[k]? = some (l.getD k 0) := by
  rw [List.getD_eq_getElem?_getD, List.getElem?_eq_getElem h]; rfl

theorem wireGood_l1_eq {f : GFrame} (hl : f.at_.length = f.vals.length) (hs : f.at_.length ≤ 17592186043904) : ∀ (n m k : Nat), f.at_.length = k + m → m < n →
    wireGood_l1 f n k = some (bif allFrom (fun i => atAt f.at_ i && valAt f.vals i) k m then 0 else 1)
  | 0, m, k, _, h => absurd h (by omega)
  | n + 1, 0, k, hk, _ => by rw [wireGood_l1, bif_f (dec_f (by omega))]; rfl
  | n + 1, m + 1, k, hk, hn => by
    have ih := wireGood_l1_eq hl hs n m (k + 1) (by omega) (by omega)
    rw [wireGood_l1, bif_t (dec_t (by omega)), idx_nat, getD_at (by omega), some_bind]
    have hv : idx f.vals (k : Int) = some (f.vals.getD k 0) := by rw [idx_nat, getD_at (by omega)]
    simp only [wireGood_j7, wireGood_j6, wrK k (by omega), hv, some_bind, ih, allFrom]
    have hat : atAt f.at_ k = (decide (0 ≤ f.at_.getD k 0) && decide (f.at_.getD k 0 < 4) && (k == 0 || decide (f.at_.getD (k - 1) 0 < f.at_.getD k 0))) := rfl
    have hva : valAt f.vals k = (decide (-1099511627776 ≤ f.vals.getD k 0) && decide (f.vals.getD k 0 ≤ 1099511627776)) := rfl
    rw [hat, hva]
    generalize f.at_.getD k 0 = x
    generalize f.vals.getD k 0 = v
    have d1 : decide (x < 0) = !decide (0 ≤ x) := by rw [Bool.eq_iff_iff]; simp
    have d2 : decide (x ≥ 4) = !decide (x < 4) := by rw [Bool.eq_iff_iff]; simp
    have d3 : decide (v < -1099511627776) = !decide (-1099511627776 ≤ v) := by rw [Bool.eq_iff_iff]; simp
    have d4 : decide (v > 1099511627776) = !decide (v ≤ 1099511627776) := by rw [Bool.eq_iff_iff]; simp
    rw [d1, d2, d3, d4]
    by_cases h0 : k = 0
    · subst h0
      rw [dec_f (show ¬ ((0 : Nat) : Int) > 0 by omega), show ((0 : Nat) == 0) = true from rfl]
      cases decide (0 ≤ x) <;> cases decide (x < 4) <;> cases decide (-1099511627776 ≤ v) <;> cases decide (v ≤ 1099511627776) <;> simp
    · have e1 : IntKind.wrap .i64 ((k : Int) - 1) = ((k - 1 : Nat) : Int) := by rw [wr64 (by omega) (by omega)]; omega
      rw [dec_t (show (k : Int) > 0 by omega), e1, idx_nat, getD_at (by omega), show (k == 0) = false from by simp [h0]]
      simp only [some_bind]
      generalize f.at_.getD (k - 1) 0 = y
      have d5 : decide (y ≥ x) = !decide (y < x) := by rw [Bool.eq_iff_iff]; simp
      rw [d5]
      cases decide (0 ≤ x) <;> cases decide (x < 4) <;> cases decide (y < x) <;> cases decide (-1099511627776 ≤ v) <;> cases decide (v ≤ 1099511627776) <;> simp

theorem goodOps_pos {l : List GOp} (h : goodOpsZ l = true) : 0 < l.length := by
  unfold goodOpsZ at h
  simp only [Bool.and_eq_true, decide_eq_true_eq] at h
  omega
/-- A frame's number, by what holds of its parts. -/
theorem frameZ_parts {f : GFrame} (h1 : ¬ (f.kind < 1 ∨ 5 < f.kind)) (h2 : ¬ (f.node < 0 ∨ 6 ≤ f.node ∨ f.id < 0 ∨ 32 ≤ f.id)) : frameZ f = bif (opsPart f && (depsPart f && atPart f)) then 0 else 1 := by
  unfold frameZ
  rw [if_neg h1, if_neg h2]
  cases (opsPart f && (depsPart f && atPart f)) <;> rfl

theorem len_pos {α : Type} (l : List α) : decide ((l.length : Int) > 0) = !(l.length == 0) := by
  cases l with
  | nil => rfl
  | cons a t => rw [dec_t (show (((a :: t).length : Nat) : Int) > 0 by simp)]; rfl
theorem wireGood_j4_eq {fu : Nat} {f : GFrame} (hs : f.at_.length ≤ 17592186043904) (hf : f.at_.length < fu) : wireGood_j4 fu f = some (bif atPart f then 0 else 1) := by
  unfold wireGood_j4 wireGood_j8 wireGood_j5 atPart
  have hne : ((f.at_.length : Int) != (f.vals.length : Int)) = !(f.at_.length == f.vals.length) := by
    rw [Bool.eq_iff_iff]; simp; omega
  have hk : (f.kind != 5) = !(f.kind == 5) := rfl
  rw [hne, hk, len_pos]
  by_cases hl : f.at_.length = f.vals.length
  · have e : (f.at_.length == f.vals.length) = true := by simp [hl]
    have h1 := wireGood_l1_eq hl hs fu f.at_.length 0 (by omega) hf
    have h1 : wireGood_l1 f fu 0 = _ := h1
    rw [e, h1, allFrom_and, allFrom_zero, allFrom_zero, ← hl]
    cases (f.kind == 5) <;> cases (f.at_.length == 0) <;> rfl
  · have e : (f.at_.length == f.vals.length) = false := by simp [hl]
    rw [e]
    cases (f.kind == 5) <;> cases (f.at_.length == 0) <;> rfl
theorem nil_facts {l : List Int} {i : Int} (h : (l.length == 0) = true) : risingZ l = true ∧ hasZ l i = false := by
  have : l = [] := List.length_eq_zero_iff.1 (by simpa using h)
  subst this
  exact ⟨rfl, rfl⟩
theorem wireGoodD_eq {fu : Nat} {f : GFrame} (hs : f.at_.length ≤ 17592186043904) (hf : f.at_.length < fu) : wireGoodD fu f = some (frameZ f) := by
  unfold wireGoodD wireGood_j10 wireGood_j11
  by_cases h1 : f.kind < 1 ∨ 5 < f.kind
  · have e : frameZ f = 3 := by unfold frameZ; rw [if_pos h1]
    rw [e]
    by_cases h : f.kind < 1
    · rw [dec_t h]; rfl
    · rw [dec_f h, dec_t (show f.kind > 5 by omega)]; rfl
  · rw [dec_f (show ¬ f.kind < 1 by omega), dec_f (show ¬ f.kind > 5 by omega), bif_f rfl, bif_f rfl]
    by_cases h2 : f.node < 0 ∨ 6 ≤ f.node ∨ f.id < 0 ∨ 32 ≤ f.id
    · have e : frameZ f = 2 := by unfold frameZ; rw [if_neg h1, if_pos h2]
      rw [e]
      by_cases a : f.node < 0
      · rw [dec_t a]; rfl
      · by_cases b : f.node ≥ 6
        · rw [dec_f a, dec_t b]; rfl
        · by_cases c : f.id < 0
          · rw [dec_f a, dec_f b, dec_t c]; rfl
          · rw [dec_f a, dec_f b, dec_f c, dec_t (show f.id ≥ 32 by omega)]; rfl
    · rw [dec_f (show ¬ f.node < 0 by omega), dec_f (show ¬ f.node ≥ 6 by omega), dec_f (show ¬ f.id < 0 by omega), dec_f (show ¬ f.id ≥ 32 by omega)]
      simp only [cond_false]
      rw [frameZ_parts h1 h2]
      have h4 := wireGood_j4_eq hs hf
      have hk : f.kind = 1 ∨ f.kind = 2 ∨ f.kind = 3 ∨ f.kind = 4 ∨ f.kind = 5 := by omega
      have hd0 := nil_facts (l := f.deps) (i := f.id)
      have hg0 : goodOpsZ f.ops = true → (f.ops.length == 0) = false := fun h => by have := goodOps_pos h; rw [beq_eq_false_iff_ne]; omega
      unfold wireGood_j1 wireGood_j2 wireGood_j3 wireGood_j9 opsPart depsPart
      rw [h4, len_pos, len_pos]
      revert hd0 hg0
      generalize risingZ f.deps = R
      generalize hasZ f.deps f.id = H
      generalize goodOpsZ f.ops = G
      generalize (f.ops.length == 0) = A
      generalize (f.deps.length == 0) = D
      generalize atPart f = W
      rcases hk with hk | hk | hk | hk | hk <;> rw [hk] <;> cases R <;> cases H <;> cases G <;> cases A <;> cases D <;> cases W <;> simp

/-! The reference. -/
def posFrom (l : List Int) (k : Nat) : Int := if k = 0 then -1 else l.getD (k - 1) 0
theorem refIsFrame_l2_eq {f : GFrame} (hs : f.vals.length ≤ 17592186043904) : ∀ (n m k : Nat) (c : Bool), f.vals.length = k + m → m < n →
    refIsFrame_l2 f n c k = some (bif (c && allFrom (valAt f.vals) k m) && (f.at_.length == f.vals.length) then 0 else 1)
  | 0, m, k, _, _, h => absurd h (by omega)
  | n + 1, 0, k, c, hk, _ => by
    rw [refIsFrame_l2, bif_f (dec_f (by omega))]
    unfold refIsFrame_j10 refIsFrame_j9
    have hne : ((f.at_.length : Int) != (f.vals.length : Int)) = !(f.at_.length == f.vals.length) := by
      rw [Bool.eq_iff_iff]; simp; omega
    rw [hne, allFrom]
    cases c <;> cases (f.at_.length == f.vals.length) <;> rfl
  | n + 1, m + 1, k, c, hk, hn => by
    have ih := fun c => refIsFrame_l2_eq (f := f) hs n m (k + 1) c (by omega) (by omega)
    rw [refIsFrame_l2, bif_t (dec_t (by omega)), idx_nat, getD_at (by omega), some_bind]
    simp only [refIsFrame_j8, wrK k (by omega), some_bind, ih, allFrom]
    have hva : (clampZ (f.vals.getD k 0) == f.vals.getD k 0) = valAt f.vals k := by
      unfold valAt clampZ
      generalize f.vals.getD k 0 = v
      rw [Bool.eq_iff_iff]
      simp only [beq_iff_eq, Bool.and_eq_true, decide_eq_true_eq]
      split
      · omega
      · split <;> omega
    rw [hva]
    cases c <;> cases valAt f.vals k <;> rfl
theorem refIsFrame_l1_eq {fu : Nat} {f : GFrame} (hs : f.at_.length ≤ 17592186043904) (hv : f.vals.length ≤ 17592186043904) (hf : f.vals.length < fu) : ∀ (n m k : Nat) (c : Bool), f.at_.length = k + m → m < n → (c = true → k ≠ 0 → 0 ≤ f.at_.getD (k - 1) 0) →
    refIsFrame_l1 fu f n c (posFrom f.at_ k) k = some (bif ((c && allFrom (atAt f.at_) k m) && allTo (valAt f.vals) f.vals.length) && (f.at_.length == f.vals.length) then 0 else 1)
  | 0, m, k, _, _, h, _ => absurd h (by omega)
  | n + 1, 0, k, c, hk, _, _ => by
    rw [refIsFrame_l1, bif_f (dec_f (by omega))]
    have := refIsFrame_l2_eq (f := f) hv fu f.vals.length 0 c (by omega) hf
    have this : refIsFrame_l2 f fu c 0 = _ := this
    rw [this, allFrom, allFrom_zero, Bool.and_true]
  | n + 1, m + 1, k, c, hk, hn, hc => by
    have hx := getD_at (l := f.at_) (k := k) (by omega)
    have ih := fun c h => refIsFrame_l1_eq (f := f) hs hv hf n m (k + 1) c (by omega) (by omega) h
    have hp : posFrom f.at_ (k + 1) = f.at_.getD k 0 := by unfold posFrom; rw [if_neg (by omega), Nat.add_sub_cancel]
    rw [hp] at ih
    rw [refIsFrame_l1, bif_t (dec_t (by omega)), idx_nat, hx, some_bind]
    simp only [refIsFrame_j7, refIsFrame_j6, wrK k (by omega), allFrom]
    have hno := ih false (fun h => by cases h)
    cases c with
    | false => rw [bif_f rfl, hno]; simp
    | true =>
      rw [bif_t rfl]
      have hlast : k ≠ 0 → 0 ≤ f.at_.getD (k - 1) 0 := hc rfl
      by_cases h1 : f.at_.getD k 0 > posFrom f.at_ k
      · rw [bif_t (dec_t h1)]
        have h0 : 0 ≤ f.at_.getD k 0 := by
          unfold posFrom at h1
          split at h1
          · omega
          · rename_i h; have := hlast h; omega
        have hok : atAt f.at_ k = decide (f.at_.getD k 0 < 4) := by
          unfold atAt
          rw [dec_t h0, Bool.true_and]
          have : (k == 0 || decide (f.at_.getD (k - 1) 0 < f.at_.getD k 0)) = true := by
            unfold posFrom at h1
            split at h1
            · rename_i h; simp [h]
            · rw [dec_t (show f.at_.getD (k - 1) 0 < f.at_.getD k 0 by omega)]; simp
          rw [this, Bool.and_true]
        rw [ih _ (fun _ _ => by rw [Nat.add_sub_cancel]; exact h0), hok]
        cases decide (f.at_.getD k 0 < 4) <;> simp
      · rw [bif_f (dec_f h1), hno]
        have hbad : atAt f.at_ k = false := by
          unfold atAt
          unfold posFrom at h1
          split at h1
          · rw [dec_f (show ¬ 0 ≤ f.at_.getD k 0 by omega)]; simp
          · rename_i h
            rw [dec_f (show ¬ f.at_.getD (k - 1) 0 < f.at_.getD k 0 by omega)]
            simp [h]
        rw [hbad]; simp
theorem refIsFrame_j5_eq {fu : Nat} {f : GFrame} (hs : f.at_.length ≤ 17592186043904) (hv : f.vals.length ≤ 17592186043904) (ha : f.at_.length < fu) (hf : f.vals.length < fu) (c : Bool) :
    refIsFrame_j5 fu f c = some (bif (c && (f.at_.length == f.vals.length && (allTo (atAt f.at_) f.at_.length && allTo (valAt f.vals) f.vals.length))) then 0 else 1) := by
  unfold refIsFrame_j5
  have := refIsFrame_l1_eq (f := f) hs hv hf fu f.at_.length 0 c (by omega) ha (fun _ h => absurd rfl h)
  have this : refIsFrame_l1 fu f fu c (-1) 0 = _ := this
  rw [this, allFrom_zero]
  cases c <;> cases (f.at_.length == f.vals.length) <;> cases allTo (atAt f.at_) f.at_.length <;> cases allTo (valAt f.vals) f.vals.length <;> rfl
theorem refIsFrameD_eq {fu : Nat} {f : GFrame} (hs : f.at_.length ≤ 17592186043904) (hv : f.vals.length ≤ 17592186043904) (ha : f.at_.length < fu) (hf : f.vals.length < fu) : refIsFrameD fu f = some (frameZ f) := by
  unfold refIsFrameD refIsFrame_j14 refIsFrame_j1 refIsFrame_j13
  by_cases h1 : f.kind < 1 ∨ 5 < f.kind
  · have e : frameZ f = 3 := by unfold frameZ; rw [if_pos h1]
    rw [e]
    by_cases h : f.kind < 1
    · rw [dec_t h]; rfl
    · rw [dec_f h, dec_t (show f.kind > 5 by omega)]; rfl
  · rw [dec_f (show ¬ f.kind < 1 by omega), dec_f (show ¬ f.kind > 5 by omega), bif_f rfl, bif_f rfl]
    by_cases h2 : f.node < 0 ∨ 6 ≤ f.node ∨ f.id < 0 ∨ 32 ≤ f.id
    · have e : frameZ f = 2 := by unfold frameZ; rw [if_neg h1, if_pos h2]
      rw [e]
      by_cases a : f.node < 0
      · rw [dec_t a]; rfl
      · by_cases b : f.node > 5
        · rw [dec_f a, dec_t b]; rfl
        · rw [dec_f a, dec_f b, dec_f (show ¬ (0 ≤ f.id ∧ f.id < 32) by omega)]; rfl
    · rw [dec_f (show ¬ f.node < 0 by omega), dec_f (show ¬ f.node > 5 by omega), dec_t (show 0 ≤ f.id ∧ f.id < 32 by omega)]
      simp only [cond_false, some_bind, Bool.not_true]
      rw [frameZ_parts h1 h2]
      have h4 := refIsFrame_j5_eq hs hv ha hf
      have hk : f.kind = 1 ∨ f.kind = 2 ∨ f.kind = 3 ∨ f.kind = 4 ∨ f.kind = 5 := by omega
      have e1 : ((f.ops.length : Int) == 0) = (f.ops.length == 0) := by rw [Bool.eq_iff_iff]; simp
      have e2 : ((f.deps.length : Int) == 0) = (f.deps.length == 0) := by rw [Bool.eq_iff_iff]; simp
      have e3 : ((f.at_.length : Int) == 0) = (f.at_.length == 0) := by rw [Bool.eq_iff_iff]; simp
      unfold refIsFrame_j2 refIsFrame_j12 refIsFrame_j3 refIsFrame_j11 refIsFrame_j4 opsPart depsPart atPart
      simp only [h4, e1, e2, e3, some_bind]
      generalize risingZ f.deps = R
      generalize hasZ f.deps f.id = H
      generalize goodOpsZ f.ops = G
      generalize (f.ops.length == 0) = A
      generalize (f.deps.length == 0) = D
      generalize (f.at_.length == 0) = T
      generalize (f.at_.length == f.vals.length && (allTo (atAt f.at_) f.at_.length && allTo (valAt f.vals) f.vals.length)) = W
      rcases hk with hk | hk | hk | hk | hk <;> rw [hk] <;> cases R <;> cases H <;> cases G <;> cases A <;> cases D <;> cases T <;> cases W <;> rfl

/-! What callers lean on. -/
section
variable {w : World} {M : Mm}
theorem fits8 {v : Value} {l : List Int} (h : repL M v l) : l.length ≤ 17592186043904 := by
  obtain ⟨_, _, _, _, _, h3, _⟩ := h
  have e : Rep.bytes Int = 8 := rfl
  rw [e] at h3
  omega
theorem c_good {cs : List Value} {f : GFrame} (hA : Agree M w) (h : rep M cs f) : Calls Try.prog 43 #[.agg cs.toArray] w (GivesV w (.int .i64 (frameZ f))) := by
  obtain ⟨_, _, _, _, _, _, ⟨v5, _, h5⟩, _⟩ := GFrame.unf h
  exact wireGood_ok hA h (wireGoodD_eq (fits8 h5) (Nat.lt_succ_self _))
theorem c_isFrame {cs : List Value} {f : GFrame} (hA : Agree M w) (h : rep M cs f) : Calls Try.prog 54 #[.agg cs.toArray] w (GivesV w (.int .i64 (frameZ f))) := by
  obtain ⟨_, _, _, _, _, _, ⟨v5, _, h5⟩, ⟨v6, _, h6⟩⟩ := GFrame.unf h
  exact refIsFrame_ok hA h (refIsFrameD_eq (fu := f.at_.length + f.vals.length + 1) (fits8 h5) (fits8 h6) (by omega) (by omega))
end
end Go.Proofs.Ytopgdemmdcipcaa
