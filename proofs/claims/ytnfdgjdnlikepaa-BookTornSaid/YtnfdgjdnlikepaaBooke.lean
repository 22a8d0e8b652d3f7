/- What was written is read; what is cut off is none: in plain lists. -/
import Derived.Test.YtnfdgjdnlikepaaBookd
namespace Go.Proofs.Ytnfdgjdnlikepaa
open Go.RowKit

theorem readL_append : ∀ (n : Nat) (l m : List UInt8), l.length ≤ n → (readL l).2 = l.length → readL (l ++ m) = ((readL l).1 ++ (readL m).1, l.length + (readL m).2) := by
  intro n
  induction n with
  | zero =>
    intro l m hl h
    have : l = [] := List.eq_nil_of_length_eq_zero (by omega)
    subst this
    rw [readL_short (l := []) (by decide)]
    simp
  | succ n ih =>
    intro l m hl h
    match l with
    | [] =>
      rw [readL_short (l := []) (by decide)]
      simp
    | [x] =>
      rw [readL_short (l := [x]) (by simp)] at h
      simp at h
    | a :: b :: r =>
      by_cases hc : 1 ≤ recN a b ∧ recN a b ≤ 400 ∧ recN a b ≤ r.length
      · rw [readL_go hc] at h ⊢
        simp only [List.length_cons] at h hl
        have hd : (readL (r.drop (recN a b))).2 = (r.drop (recN a b)).length := by rw [List.length_drop]; omega
        have hih := ih (r.drop (recN a b)) m (by rw [List.length_drop]; omega) hd
        have hc2 : 1 ≤ recN a b ∧ recN a b ≤ 400 ∧ recN a b ≤ (r ++ m).length := by rw [List.length_append]; omega
        show readL (a :: b :: (r ++ m)) = _
        rw [readL_go hc2, List.take_append_of_le_length hc.2.2, List.drop_append_of_le_length hc.2.2, hih]
        simp only [List.cons_append, List.length_cons, Prod.mk.injEq, true_and, List.length_drop]
        omega
      · rw [readL_stop hc] at h
        simp at h

def recL (s : ByteArray) : List UInt8 := UInt8.ofNat (s.size / 256) :: UInt8.ofNat (s.size % 256) :: s.data.toList
theorem recN_of (s : ByteArray) (h : s.size ≤ 400) : recN (UInt8.ofNat (s.size / 256)) (UInt8.ofNat (s.size % 256)) = s.size := by
  unfold recN
  simp only [UInt8.toNat_ofNat']
  omega
theorem wtext_data (log s : ByteArray) (h : s.size ≤ 400) : (wtext log s).data.toList = log.data.toList ++ recL s := by
  unfold wtext recL
  simp only [data_append, strOfNums_data, List.map_cons, List.map_nil]
  rw [show ((s.size : Int) / 256).toNat = s.size / 256 by omega, show ((s.size : Int) % 256).toNat = s.size % 256 by omega]
  simp
theorem recL_len (s : ByteArray) : (recL s).length = s.size + 2 := by
  have : s.data.toList.length = s.size := rfl
  simp [recL]
theorem readL_rec (s : ByteArray) (h1 : 1 ≤ s.size) (h2 : s.size ≤ 400) : readL (recL s) = ([s], s.size + 2) := by
  have hl : s.data.toList.length = s.size := rfl
  have hn := recN_of s h2
  unfold recL
  rw [readL_go (by rw [hn, hl]; omega), hn, ← hl, List.take_length, List.drop_length, readL_short (l := []) (by decide)]
  simp only [Prod.mk.injEq]
  refine ⟨?_, by omega⟩
  first | rfl | trivial
theorem readL_torn (s : ByteArray) (h2 : s.size ≤ 400) (t : Nat) (ht : t < s.size + 2) : readL ((recL s).take t) = ([], 0) := by
  have hl : s.data.toList.length = s.size := rfl
  have hn := recN_of s h2
  unfold recL
  match t, ht with
  | 0, _ => exact readL_short (by simp)
  | 1, _ => exact readL_short (by simp)
  | t + 2, ht =>
    simp only [List.take_succ_cons]
    exact readL_stop (by rw [hn, List.length_take, hl]; omega)

/-- A log that is read whole, in these records. -/
def Whole (log : ByteArray) (want : List ByteArray) : Prop := readL log.data.toList = (want, log.size)
theorem whole_nil : Whole ⟨#[]⟩ [] := readL_short (by decide)
theorem whole_next {log : ByteArray} {want : List ByteArray} (h : Whole log want) (s : ByteArray) (h1 : 1 ≤ s.size) (h2 : s.size ≤ 400) : Whole (wtext log s) (want ++ [s]) := by
  unfold Whole at *
  have hl : log.data.toList.length = log.size := rfl
  rw [wtext_data _ _ h2, readL_append _ _ _ (Nat.le_refl _) (by rw [h, hl]), h, readL_rec s h1 h2, wtext_size, hl]
  simp only [Prod.mk.injEq, true_and]
  omega
theorem whole_tear {log : ByteArray} {want : List ByteArray} (h : Whole log want) (s : ByteArray) (n : Int) (h1 : 1 ≤ s.size) (h2 : s.size ≤ 400) (hc : wcode log s = 0) :
    readL (tearZ log s n).data.toList = (if (s.size : Int) + 2 ≤ n then (want ++ [s], log.size + (s.size + 2)) else (want, log.size)) ∧ (tearZ log s n).size = log.size + tornLen s n := by
  have hl : log.data.toList.length = log.size := rfl
  have ht : tornLen s n ≤ s.size + 2 := by unfold tornLen; split <;> (try split) <;> omega
  have hd : (tearZ log s n).data.toList = log.data.toList ++ (recL s).take (tornLen s n) := by
    unfold tearZ
    rw [if_pos hc, Go.Lib.extract_data, wtext_data _ _ h2, List.drop_zero, Nat.sub_zero, List.take_append, hl, List.take_of_length_le (by omega)]
    congr 2
    omega
  have hsz : (tearZ log s n).size = log.size + tornLen s n := by
    have : (tearZ log s n).data.toList.length = (tearZ log s n).size := rfl
    rw [← this, hd, List.length_append, List.length_take, recL_len, hl]
    omega
  refine ⟨?_, hsz⟩
  rw [hd, readL_append _ _ _ (Nat.le_refl _) (by unfold Whole at h; rw [h, hl])]
  unfold Whole at h
  rw [h, hl]
  split
  · rename_i hn
    have : tornLen s n = s.size + 2 := by unfold tornLen; split <;> (try split) <;> omega
    rw [this, ← recL_len, List.take_length, readL_rec s h1 h2, recL_len]
  · rename_i hn
    rw [readL_torn s h2 _ (by unfold tornLen; split <;> (try split) <;> omega)]
    simp

end Go.Proofs.Ytnfdgjdnlikepaa
