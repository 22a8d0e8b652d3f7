/- Plain: what a good frame is within; the law of frames as bytes. -/
import Derived.Test.YtopgdemmdcipcaaPb
namespace Go.Proofs.Ytopgdemmdcipcaa
open Go.RowKit
open Rep (rep)

theorem rising_ge {l : List Int} (h : risingZ l = true) : ∀ i, i < l.length → (i : Int) ≤ l.getD i 0 ∧ l.getD i 0 < 32 := by
  unfold risingZ at h
  rw [allTo_iff] at h
  intro i
  induction i with
  | zero =>
    intro hi
    have := h 0 hi
    unfold riseAt at this
    simp only [Bool.and_eq_true, decide_eq_true_eq] at this
    exact ⟨by have := this.1.1; simpa using this, this.1.2⟩
  | succ i ih =>
    intro hi
    have h1 := ih (by omega)
    have := h (i + 1) hi
    unfold riseAt at this
    simp only [Bool.and_eq_true, decide_eq_true_eq, Bool.or_eq_true, beq_iff_eq, Nat.add_sub_cancel] at this
    refine ⟨?_, this.1.2⟩
    rcases this.2 with h2 | h2
    · omega
    · push_cast
      omega
theorem rising_len {l : List Int} (h : risingZ l = true) : l.length ≤ 32 := by
  rcases Nat.lt_or_ge 32 l.length with h1 | h1
  · have := rising_ge h 32 h1
    omega
  · exact h1
theorem rising_mem {l : List Int} (h : risingZ l = true) : ∀ n ∈ l, 0 ≤ n ∧ n < 32 := by
  intro n hn
  obtain ⟨i, hi, rfl⟩ := List.getElem_of_mem hn
  have := rising_ge h i hi
  rw [List.getD_eq_getElem?_getD, List.getElem?_eq_getElem hi] at this
  simp only [Option.getD_some] at this
  omega
theorem goodOps_len {l : List GOp} (h : goodOpsZ l = true) : 0 < l.length ∧ l.length ≤ 4 := by
  unfold goodOpsZ at h
  simp only [Bool.and_eq_true, decide_eq_true_eq] at h
  omega
theorem goodOps_mem {l : List GOp} (h : goodOpsZ l = true) : ∀ o ∈ l, 1 ≤ o.kind ∧ o.kind ≤ 3 ∧ 0 ≤ o.key ∧ o.key < 8 ∧ -1099511627776 ≤ o.n ∧ o.n ≤ 1099511627776 := by
  intro o ho
  unfold goodOpsZ at h
  simp only [Bool.and_eq_true] at h
  have h1 := (allTo_iff _ _).1 h.1
  obtain ⟨i, hi, rfl⟩ := List.getElem_of_mem ho
  have := h1 i hi
  unfold opAt at this
  rw [List.getD_eq_getElem?_getD, List.getElem?_eq_getElem hi] at this
  simp only [Option.getD_some, Bool.and_eq_true] at this
  have := this.1
  unfold goodOp at this
  simp only [decide_eq_true_eq] at this
  omega

theorem FOk_of {f : GFrame} (h : frameZ f = 0) : FOk f := by
  unfold frameZ at h
  split at h
  · cases h
  · rename_i hk
    split at h
    · cases h
    · rename_i hn
      split at h
      · rename_i hp
        simp only [Bool.and_eq_true] at hp
        obtain ⟨h1, h2, h3⟩ := hp
        have ho : f.ops.length ≤ 4 ∧ ∀ o ∈ f.ops, 0 ≤ o.kind ∧ o.kind < 256 ∧ 0 ≤ o.key ∧ o.key < 256 ∧ -1099511627776 ≤ o.n ∧ o.n ≤ 1099511627776 := by
          unfold opsPart at h1
          split at h1
          · refine ⟨(goodOps_len h1).2, fun o ho => ?_⟩
            have := goodOps_mem h1 o ho
            omega
          · have : f.ops = [] := List.length_eq_zero_iff.1 (by simpa using h1)
            rw [this]
            simp
        have hd : f.deps.length ≤ 32 ∧ ∀ n ∈ f.deps, 0 ≤ n ∧ n < 32 := by
          unfold depsPart at h2
          split at h2
          · simp only [Bool.and_eq_true] at h2
            exact ⟨rising_len h2.1, rising_mem h2.1⟩
          · have : f.deps = [] := List.length_eq_zero_iff.1 (by simpa using h2)
            rw [this]
            simp
        unfold atPart at h3
        simp only [Bool.and_eq_true, beq_iff_eq] at h3
        obtain ⟨_, h4, h5, h6⟩ := h3
        rw [allTo_iff] at h5 h6
        have ha : ∀ i, i < f.at_.length → (i : Int) ≤ f.at_.getD i 0 ∧ f.at_.getD i 0 < 4 := by
          intro i
          induction i with
          | zero =>
            intro hi
            have := h5 0 hi
            unfold atAt at this
            simp only [Bool.and_eq_true, decide_eq_true_eq] at this
            exact ⟨by have := this.1.1; simpa using this, this.1.2⟩
          | succ i ih =>
            intro hi
            have e1 := ih (by omega)
            have := h5 (i + 1) hi
            unfold atAt at this
            simp only [Bool.and_eq_true, decide_eq_true_eq, Bool.or_eq_true, beq_iff_eq, Nat.add_sub_cancel] at this
            refine ⟨?_, this.1.2⟩
            rcases this.2 with e2 | e2
            · omega
            · push_cast
              omega
        have hl : f.at_.length ≤ 4 := by
          rcases Nat.lt_or_ge 4 f.at_.length with e1 | e1
          · have := ha 4 e1; omega
          · exact e1
        refine ⟨ho.1, ho.2, hd.1, hd.2, hl, fun n hn => ?_, h4.symm, fun v hv => ?_, by omega⟩
        · obtain ⟨i, hi, rfl⟩ := List.getElem_of_mem hn
          have := ha i hi
          rw [List.getD_eq_getElem?_getD, List.getElem?_eq_getElem hi] at this
          simp only [Option.getD_some] at this
          omega
        · obtain ⟨i, hi, rfl⟩ := List.getElem_of_mem hv
          have := h6 i hi
          unfold valAt at this
          rw [List.getD_eq_getElem?_getD, List.getElem?_eq_getElem hi] at this
          simpa using this
      · cases h

/-- What the program's Encode and the reference's compute. -/
def encP (f : GFrame) : ByteArray × Int := if frameZ f = 0 then (strOfNums (encZ f), 0) else (strOfNums [], frameZ f)
theorem encodeD_eq (f : GFrame) {fu : Nat} (hfu : 40 ≤ fu) : encodeD fu f = some (encP f) := by
  unfold encP
  by_cases h : frameZ f = 0
  · rw [if_pos h, encodeD_ok (FOk_of h) h hfu]
  · rw [if_neg h, encodeD_no h]
/-- Lists of a frame that may lie in memory. -/
def FSz (f : GFrame) : Prop := f.ops.length * 24 ≤ 140737488351232 ∧ f.deps.length * 8 ≤ 140737488351232 ∧ f.at_.length * 8 ≤ 140737488351232 ∧ f.vals.length * 8 ≤ 140737488351232
theorem lawFrameD_eq {f : GFrame} (h : FSz f) {fu : Nat} : lawFrameD fu f = some f := by
  obtain ⟨h1, h2, h3, h4⟩ := h
  unfold lawFrameD
  rw [app_ok (by simp [Rep.bytes]; omega), some_bind, app_ok (by simp [Rep.bytes]; omega), some_bind, some_bind, some_bind, app_ok (by simp [Rep.bytes]; omega), some_bind, app_ok (by simp [Rep.bytes]; omega), some_bind, some_bind, some_bind, some_bind]
  rfl
end Go.Proofs.Ytopgdemmdcipcaa
