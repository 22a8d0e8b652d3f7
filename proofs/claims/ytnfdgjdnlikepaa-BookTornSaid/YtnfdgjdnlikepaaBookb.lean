/- What reading a log computes. -/
import Derived.Test.YtnfdgjdnlikepaaBook
import Derived.Test.YtnfdgjdnlikepaaBits
namespace Go.Proofs.Ytnfdgjdnlikepaa
open Go.RowKit

theorem i_str : (Try.prog.info? 9).map (fun i => (i.zero, i.size, i.bytes)) = some (some (.string ⟨#[]⟩), 1, 16) := by kernel_rfl
theorem u_strs : Try.prog.underlying 23 = some (.slice 9) := by kernel_rfl
def RTexts (S : Nat → Prop) (w : World) (v : Value) (l : List ByteArray) : Prop := RRow S w v 1 16 l.length (l.map Value.string)

theorem run_index_str {P : Program} {t : TypeId} (hu : P.underlying t = some .string) (s : ByteArray) (i : Int) (k : Nat) (hk : i = k) (h : k < s.size) (w : World) :
    (Instr.index t (.string s) (.int .i64 i)).run P w = .ok (.int .u8 (s[k].toNat : Int)) w := by
  subst hk
  unfold Instr.index
  simp [asIntOf, Sem.run_bind, run_underlying hu w, h]

def recN (a b : UInt8) : Nat := a.toNat * 256 + b.toNat
def readL (l : List UInt8) : List ByteArray × Nat :=
  match l with
  | a :: b :: r =>
    if 1 ≤ recN a b ∧ recN a b ≤ 400 ∧ recN a b ≤ r.length then
      (⟨(r.take (recN a b)).toArray⟩ :: (readL (r.drop (recN a b))).1, 2 + recN a b + (readL (r.drop (recN a b))).2)
    else ([], 0)
  | _ => ([], 0)
termination_by l.length
decreasing_by all_goals (simp only [List.length_cons, List.length_drop]; omega)

theorem readL_stop {a b : UInt8} {r : List UInt8} (h : ¬ (1 ≤ recN a b ∧ recN a b ≤ 400 ∧ recN a b ≤ r.length)) : readL (a :: b :: r) = ([], 0) := by
  rw [readL, if_neg h]
theorem readL_go {a b : UInt8} {r : List UInt8} (h : 1 ≤ recN a b ∧ recN a b ≤ 400 ∧ recN a b ≤ r.length) :
    readL (a :: b :: r) = (⟨(r.take (recN a b)).toArray⟩ :: (readL (r.drop (recN a b))).1, 2 + recN a b + (readL (r.drop (recN a b))).2) := by
  rw [readL, if_pos h]
theorem readL_short {l : List UInt8} (h : l.length < 2) : readL l = ([], 0) := by
  match l, h with
  | [], _ => rw [readL]; intro a b r h; cases h
  | [x], _ => rw [readL]; intro a b r h; cases h

/-- How far a log was read: k bytes of it, in these records. -/
def ReadTo (log : ByteArray) (acc : List ByteArray) (k : Nat) : Prop :=
  (readL log.data.toList).1 = acc ++ (readL (log.data.toList.drop k)).1 ∧ (readL log.data.toList).2 = k + (readL (log.data.toList.drop k)).2 ∧ acc.length ≤ k
theorem readTo_zero (log : ByteArray) : ReadTo log [] 0 := by simp [ReadTo]
theorem drop_two {log : ByteArray} {k : Nat} (h : k + 2 ≤ log.size) : log.data.toList.drop k = log[k] :: log[k + 1] :: log.data.toList.drop (k + 2) := by
  have hl : log.data.toList.length = log.size := rfl
  rw [List.drop_eq_getElem_cons (by omega), List.drop_eq_getElem_cons (by omega)]
  rfl
theorem readTo_next {log : ByteArray} {acc : List ByteArray} {k : Nat} (h : ReadTo log acc k) (hk : k + 2 ≤ log.size)
    (hn : 1 ≤ recN log[k] log[k + 1] ∧ recN log[k] log[k + 1] ≤ 400 ∧ recN log[k] log[k + 1] ≤ log.size - k - 2) :
    ReadTo log (acc ++ [log.extract (k + 2) (k + 2 + recN log[k] log[k + 1])]) (k + (2 + recN log[k] log[k + 1])) := by
  obtain ⟨h1, h2, h3⟩ := h
  have hl : log.data.toList.length = log.size := rfl
  rw [drop_two hk, readL_go (by rw [List.length_drop, hl]; omega), List.drop_drop] at h1 h2
  have he : log.extract (k + 2) (k + 2 + recN log[k] log[k + 1]) = ⟨(List.take (recN log[k] log[k + 1]) (List.drop (k + 2) log.data.toList)).toArray⟩ := by
    apply str_ext
    rw [Go.Lib.extract_data]
    simp
  have e2 : k + 2 + recN log[k] log[k + 1] = k + (2 + recN log[k] log[k + 1]) := by omega
  rw [e2] at h1 h2
  refine ⟨?_, by omega, by simp; omega⟩
  rw [h1, ← e2, he]
  simp
theorem readTo_end {log : ByteArray} {acc : List ByteArray} {k : Nat} (h : ReadTo log acc k) (he : readL (log.data.toList.drop k) = ([], 0)) : readL log.data.toList = (acc, k) := by
  obtain ⟨h1, h2, _⟩ := h
  rw [he] at h1 h2
  simp at h1 h2
  rw [← h1, ← h2]

def RetTexts (w : World) (r : List ByteArray × Nat) (e : Ending) (w' : World) : Prop := ∃ v, e = .returned (.tuple #[v, .int .i64 (r.2 : Int)]) ∧ RTexts (fun b => w.heap.size ≤ b) w' v r.1 ∧ Below w.heap.size w w'
theorem one_str (x : ByteArray) : ∀ u ∈ [Value.string x], u.oneCell' = true := by simp [Value.oneCell']
theorem own_put_str {l : List ByteArray} {k : ByteArray} {W1 : World} {base : Nat} {v' : Value} (hown : W1.ownsRow base 9 1 v' (l.length + 1) (l.map Value.string ++ [.string k])) :
    W1.ownsRow base 9 1 v' (l ++ [k]).length ((l ++ [k]).map Value.string) := by simpa using hown

theorem alloc_le {B : Nat} {w : World} (h : B ≤ w.heap.size) (o : Obj) : B ≤ (w.alloc o).heap.size := by simp; omega

set_option maxRecDepth 100000 in
set_option maxHeartbeats 1000000 in
theorem read_any (log : ByteArray) (w : World) (hl : log.size ≤ 65536) :
    Calls Try.prog 16 #[.string log] w (RetTexts w (readL log.data.toList)) := by
  go_enter Try.func16, Try.ntmps16
  go_wp2_with fail
  go_loopw [4, 5, 6] (fun v4 i v6 wr => ∃ (k : Nat) (acc : List ByteArray), k ≤ log.size ∧ i = .int .i64 k ∧ ReadTo log acc k ∧ wr.ownsRow w.heap.size 9 1 v4 acc.length (acc.map Value.string) ∧ Below w.heap.size w wr) (fun _ i _ _ => log.size - (intOf i).toNat)
  case atStart => exact ⟨0, [], Nat.zero_le _, rfl, readTo_zero log, ownsRow_nil _ _ _ _, Below.refl _ _⟩
  case round =>
    obtain ⟨k, acc, hk, rfl, hr, hown, hb⟩ := hrel
    have hacc := hr.2.2
    have hfin : readL (log.data.toList.drop k) = ([], 0) → ∀ n, RRow (fun b => w.heap.size ≤ b) (wr.drewN n) u4 1 16 acc.length (acc.map Value.string) ∧ readL log.data.toList = (acc, k) := fun he n => ⟨RRow.of_own (bytes := 16) (w := wr.drewN n) hown (by omega), readTo_end hr he⟩
    by_cases hlt : k + 2 ≤ log.size
    · have hx0 := fun w => run_index_str (P := Try.prog) u_str log (k : Int) k rfl (by omega) w
      have hx1 := fun w => run_index_str (P := Try.prog) u_str log (IntKind.i64.wrap ((k : Int) + 1)) (k + 1) (IntWalk.i64_in _ (by omega)) (by omega) w
      have hx2 := fun w => run_index_str (P := Try.prog) u_str log ((k : Int) + 1) (k + 1) (by omega) (by omega) w
      have hx3 := fun w => run_index_str (P := Try.prog) u_str log (wrap64 ((k : Int) + 1)) (k + 1) (IntWalk.wrap64_in _ (by omega)) (by omega) w
      have hor : bits .or .i64 (wrap64 (wrap64 (log[k].toNat : Int) * 256)) (wrap64 (log[k + 1].toNat : Int)) = (recN log[k] log[k + 1] : Nat) := by
        rw [or_bytes' _ _ (UInt8.toNat_lt _) (UInt8.toNat_lt _)]; unfold recN; omega
      have hnext := readTo_next hr hlt
      have hstop : ¬ (1 ≤ recN log[k] log[k + 1] ∧ recN log[k] log[k + 1] ≤ 400 ∧ recN log[k] log[k + 1] ≤ log.size - k - 2) → readL (log.data.toList.drop k) = ([], 0) := fun h => by
        have hl : log.data.toList.length = log.size := rfl
        rw [drop_two hlt]
        exact readL_stop (by rw [List.length_drop, hl]; omega)
      have HOR := Go.Lib.hid hor
      have Hhr := Go.Lib.hid hr; clear hr; have Hhown := Go.Lib.hid hown; clear hown; have Hhb := Go.Lib.hid hb; clear hb; have Hhnext := Go.Lib.hid hnext; clear hnext; have Hhstop := Go.Lib.hid hstop; clear hstop; have Hhfin := Go.Lib.hid hfin; clear hfin
      clear hor
      go_wp2_with fail
      go_quiet (fail)
      clear hx0 hx1 hx2 hx3
      rw [HOR.out]
      by_cases n1 : recN log[k] log[k + 1] < 1
      · have hf := Hhfin.out (Hhstop.out (by omega)) nq
        have HB2 := Go.Lib.hid (Below.drewN Hhb.out nq)
        have Hhf := Go.Lib.hid hf; clear hf
        clear HOR
        generalize recN log[k] log[k + 1] = n at *
        go_wp2_with fail
        go_ret2
        exact ⟨u4, by rw [Hhf.out.2]; rfl, by rw [Hhf.out.2]; exact Hhf.out.1, HB2.out⟩
      · by_cases n2 : 400 < recN log[k] log[k + 1]
        · have hf := Hhfin.out (Hhstop.out (by omega)) nq
          have HB2 := Go.Lib.hid (Below.drewN Hhb.out nq)
          have Hhf := Go.Lib.hid hf; clear hf
          clear HOR
          generalize recN log[k] log[k + 1] = n at *
          go_wp2_with fail
          go_ret2
          exact ⟨u4, by rw [Hhf.out.2]; rfl, by rw [Hhf.out.2]; exact Hhf.out.1, HB2.out⟩
        · by_cases n3 : log.size - k - 2 < recN log[k] log[k + 1]
          · have hf := Hhfin.out (Hhstop.out (by omega)) nq
            have HB2 := Go.Lib.hid (Below.drewN Hhb.out nq)
            have Hhf := Go.Lib.hid hf; clear hf
            clear HOR
            generalize recN log[k] log[k + 1] = n at *
            go_wp2_with fail
            go_ret2
            exact ⟨u4, by rw [Hhf.out.2]; rfl, by rw [Hhf.out.2]; exact Hhf.out.1, HB2.out⟩
          · have hnx := Hhnext.out (by omega)
            have HB2 := Go.Lib.hid (Below.drewN Hhb.out nq)
            have HO2 : Hid ((wr.drewN nq).ownsRow w.heap.size 9 1 u4 acc.length (acc.map Value.string)) := Hhown.out
            clear HOR Hhnext Hhstop Hhfin
            generalize recN log[k] log[k + 1] = n at *
            have hn3 : (n : Int) ≤ (log.size : Int) - k - 2 := by omega
            have Hhnx := Go.Lib.hid hnx; clear hnx
            go_wp2_with (at_builtin; refine wpList_append_R rfl (.tmp 38) (.tmp 47) 23 rfl w.heap.size 9 (.string ⟨#[]⟩) 1 16 u_strs i_str rfl (by decide) _ _ _ _ _ _ rfl (HO2.out.alloc _) rfl _ (RRow.one _ _ _ _ (by decide)) (one_str _) (by omega) (by decide) (alloc_le HB2.out.size _) ?_; intro v' w1 hown1 hg1)
            have HOP := Go.Lib.hid (own_put_str hown1)
            have HB3 := Go.Lib.hid ((HB2.out.alloc HB2.out.size _).grown hg1 (alloc_le HB2.out.size _) (fun k hk => (HO2.out.lt k hk).1))
            clear hown1 hg1
            go_wp2_with fail
            go_roundw
            case rel => exact ⟨k + (2 + n), _, by omega, by go_num, Hhnx.out, HOP.out, HB3.out⟩
            case measure => simp [intOf]; omega
    · have hl : log.data.toList.length = log.size := rfl
      have hf := hfin (readL_short (by rw [List.length_drop, hl]; omega)) 0
      have Hhr := Go.Lib.hid hr; clear hr; have Hhown := Go.Lib.hid hown; clear hown; have Hhb := Go.Lib.hid hb; clear hb; have Hhf := Go.Lib.hid hf; clear hf; have Hhfin := Go.Lib.hid hfin; clear hfin
      clear hl
      go_wp2_with fail
      go_ret2
      exact ⟨u4, by rw [Hhf.out.2]; rfl, by rw [Hhf.out.2]; exact Hhf.out.1, Hhb.out⟩

end Go.Proofs.Ytnfdgjdnlikepaa
