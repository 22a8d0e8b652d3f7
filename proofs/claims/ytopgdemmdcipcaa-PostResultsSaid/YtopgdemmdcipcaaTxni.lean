/- Plain laws on unions and on what is in the way; the walks of the laws on them. -/
import Derived.Test.YtopgdemmdcipcaaTxnh
import Derived.Test.YtopgdemmdcipcaaTxne
import Derived.Deep.RegionHeld3
namespace Go.Proofs.Ytopgdemmdcipcaa
open Go.RowKit

theorem has_append (l : List Int) (x n : Int) : hasZ (l ++ [x]) n = (hasZ l n || x == n) := by unfold hasZ; rw [List.any_append]; simp
theorem has_unionTo (a b : List Int) (n : Int) : ∀ k : Nat, hasZ (unionTo a b k) n = (decide (0 ≤ n ∧ n < k) && (hasZ a n || hasZ b n)) := by
  intro k
  induction k with
  | zero =>
    have : decide (0 ≤ n ∧ n < ((0 : Nat) : Int)) = false := by simp
    rw [this]; rfl
  | succ k ih =>
    rw [unionTo_succ]
    by_cases hk : n = k
    · subst hk
      split
      · rename_i h
        rw [has_append, h, ih, h]
        simp
        omega
      · rename_i h
        have h : (hasZ a k || hasZ b k) = false := by simpa using h
        rw [List.append_nil, ih, h]
        simp
    · have hd : decide (0 ≤ n ∧ n < ((k + 1 : Nat) : Int)) = decide (0 ≤ n ∧ n < (k : Int)) := by
        apply decide_eq_decide.2; omega
      rw [hd, ← ih]
      split
      · rw [has_append]
        have : ((k : Int) == n) = false := by simp; omega
        rw [this, Bool.or_false]
      · rw [List.append_nil]

theorem rise_append (l : List Int) (x : Int) (h : risingZ l = true) (hx : ∀ y ∈ l, y < x) (h0 : 0 ≤ x) (h1 : x < 32) : risingZ (l ++ [x]) = true := by
  unfold risingZ at *
  rw [allTo_iff] at *
  intro i hi
  simp only [List.length_append, List.length_cons, List.length_nil] at hi
  by_cases e : i = l.length
  · subst e
    unfold riseAt
    have g : (l ++ [x]).getD l.length 0 = x := by simp
    rw [g]
    by_cases z : l.length = 0
    · simp [z, h0, h1]
    · have hlt : l.length - 1 < l.length := by omega
      have g2 : (l ++ [x]).getD (l.length - 1) 0 = l[l.length - 1] := by simp [List.getElem?_append_left hlt, hlt]
      rw [g2]
      have := hx _ (List.getElem_mem hlt)
      simp [h0, h1, this]
  · have hlt : i < l.length := by omega
    have := h i hlt
    unfold riseAt at *
    have g : (l ++ [x]).getD i 0 = l.getD i 0 := by simp [List.getElem?_append_left hlt]
    have hlt2 : i - 1 < l.length := by omega
    have g2 : (l ++ [x]).getD (i - 1) 0 = l.getD (i - 1) 0 := by simp [List.getElem?_append_left hlt2]
    rw [g, g2]
    exact this

theorem unionTo_rising (a b : List Int) : ∀ k : Nat, k ≤ 32 → risingZ (unionTo a b k) = true ∧ ∀ y ∈ unionTo a b k, y < (k : Int) := by
  intro k
  induction k with
  | zero => intro _; exact ⟨rfl, by simp [unionTo]⟩
  | succ k ih =>
    intro hk
    obtain ⟨h1, h2⟩ := ih (by omega)
    rw [unionTo_succ]
    split
    · refine ⟨rise_append _ _ h1 h2 (by omega) (by omega), fun y hy => ?_⟩
      rcases List.mem_append.1 hy with h | h
      · have := h2 y h; omega
      · simp at h; omega
    · rw [List.append_nil]
      exact ⟨h1, fun y hy => by have := h2 y hy; omega⟩

theorem way_comm (s : Int) (x y : GOp) : wayZ s x y = wayZ s y x := by
  unfold wayZ
  by_cases h : x.key = y.key
  · rw [h, Bool.or_comm]
  · have h1 : (x.key == y.key) = false := by simpa using h
    have h2 : (y.key == x.key) = false := by simpa using fun e => h e.symm
    rw [h1, h2]; rfl
theorem conflict_comm (a b : List GOp) (s : Int) : conflictZ a b s = conflictZ b a s := by
  unfold conflictZ
  rw [Bool.eq_iff_iff]
  simp only [List.any_eq_true]
  constructor
  · rintro ⟨x, hx, y, hy, h⟩; exact ⟨y, hy, x, hx, by rw [way_comm]; exact h⟩
  · rintro ⟨x, hx, y, hy, h⟩; exact ⟨y, hy, x, hx, by rw [way_comm]; exact h⟩
theorem conflict_touches (a b : List GOp) (s : Int) (h : conflictZ a b s = true) : touchesZ a s = true ∧ touchesZ b s = true := by
  unfold conflictZ at h
  simp only [List.any_eq_true] at h
  obtain ⟨x, hx, y, hy, h⟩ := h
  unfold wayZ at h
  simp only [Bool.and_eq_true, beq_iff_eq] at h
  unfold touchesZ
  simp only [List.any_eq_true]
  exact ⟨⟨x, hx, by rw [h.2.1]; simp⟩, ⟨y, hy, by rw [← h.1, h.2.1]; simp⟩⟩

theorem op_kept {g B : Nat} {o : GOp} {w0 w w' : World} (h : w.cell? ⟨g, 0, none⟩ = some (.int .i64 o.kind) ∧ w.cell? ⟨g, 1, none⟩ = some (.int .i64 o.key) ∧ w.cell? ⟨g, 2, none⟩ = some (.int .i64 o.n) ∧ g < w.heap.size ∧ Below B w0 w)
    (hb : Below w.heap.size w w') (hB : B ≤ w0.heap.size) : w'.cell? ⟨g, 0, none⟩ = some (.int .i64 o.kind) ∧ w'.cell? ⟨g, 1, none⟩ = some (.int .i64 o.key) ∧ w'.cell? ⟨g, 2, none⟩ = some (.int .i64 o.n) ∧ g < w'.heap.size ∧ Below B w0 w' := by
  obtain ⟨h0, h1, h2, h3, h4⟩ := h
  have hc : ∀ i, w'.cell? ⟨g, i, none⟩ = w.cell? ⟨g, i, none⟩ := fun i => hb.cell (p := ⟨g, i, none⟩) h3
  exact ⟨by rw [hc]; exact h0, by rw [hc]; exact h1, by rw [hc]; exact h2, Nat.lt_of_lt_of_le h3 hb.size, h4.trans (hb.mono (Nat.le_trans hB h4.size))⟩

end Go.Proofs.Ytopgdemmdcipcaa
