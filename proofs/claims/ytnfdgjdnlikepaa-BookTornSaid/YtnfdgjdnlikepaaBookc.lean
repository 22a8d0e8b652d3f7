/- What the reference's reading of a log computes. -/
import Derived.Test.YtnfdgjdnlikepaaBookb
namespace Go.Proofs.Ytnfdgjdnlikepaa
open Go.RowKit

theorem mul_add_bytes (a b : Nat) (ha : a < 256) (hb : b < 256) : wrap64 (wrap64 (256 * wrap64 (a : Int)) + wrap64 (b : Int)) = (a : Int) * 256 + b := by
  rw [IntWalk.wrap64_in (a : Int) (by omega), IntWalk.wrap64_in (b : Int) (by omega), IntWalk.wrap64_in (256 * (a : Int)) (by omega), IntWalk.wrap64_in _ (by omega)]
  omega

set_option maxRecDepth 100000 in
set_option maxHeartbeats 1000000 in
theorem readLog_any (log : ByteArray) (w : World) (hl : log.size ≤ 65536) :
    Calls Try.prog 17 #[.string log] w (RetTexts w (readL log.data.toList)) := by
  go_enter Try.func17, Try.ntmps17
  go_wp2_with fail
  go_loopw [4, 5, 6] (fun v4 v5 v6 wr => ∃ (k : Nat) (acc : List ByteArray) (r : ByteArray), k + r.size = log.size ∧ v5 = .string r ∧ r = log.extract k log.size ∧ ReadTo log acc k ∧ wr.ownsRow w.heap.size 9 1 v4 acc.length (acc.map Value.string) ∧ Below w.heap.size w wr) (fun _ v5 _ _ => match v5 with | .string r => r.size | _ => 0)
  case atStart => exact ⟨0, [], log, by omega, rfl, (extract_all log _ (Nat.le_refl _)).symm, readTo_zero log, ownsRow_nil _ _ _ _, Below.refl _ _⟩
  case round =>
    obtain ⟨k, acc, r, hk, rfl, hrx, hr, hown, hb⟩ := hrel
    have hacc := hr.2.2
    have hdl : log.data.toList.length = log.size := rfl
    have hrl : r.data.toList = log.data.toList.drop k := by rw [hrx, Go.Lib.extract_data]; exact List.take_of_length_le (by rw [List.length_drop]; omega)
    have hfin : readL (log.data.toList.drop k) = ([], 0) → ∀ n, RRow (fun b => w.heap.size ≤ b) (wr.drewN n) u4 1 16 acc.length (acc.map Value.string) ∧ readL log.data.toList = (acc, k) := fun he n => ⟨RRow.of_own (bytes := 16) (w := wr.drewN n) hown (by omega), readTo_end hr he⟩
    by_cases hlt : 2 ≤ r.size
    · have hlt2 : k + 2 ≤ log.size := by omega
      have e0 : r[0]'(by omega) = log[k]'(by omega) := by
        have : r.data.toList[0]? = log.data.toList[k]? := by rw [hrl]; simp
        rw [List.getElem?_eq_getElem (by have : r.data.toList.length = r.size := rfl; omega), List.getElem?_eq_getElem (by omega)] at this
        exact Option.some.inj this
      have e1 : r[1]'(by omega) = log[k + 1]'(by omega) := by
        have : r.data.toList[1]? = log.data.toList[k + 1]? := by rw [hrl]; simp
        rw [List.getElem?_eq_getElem (by have : r.data.toList.length = r.size := rfl; omega), List.getElem?_eq_getElem (by omega)] at this
        exact Option.some.inj this
      have hx0 : ∀ w, (Instr.index 9 (.string r) (.int .i64 0)).run Try.prog w = .ok (.int .u8 ((log[k]'(by omega)).toNat : Int)) w := fun w => by
        rw [run_index_str (P := Try.prog) u_str r 0 0 rfl (by omega) w, e0]
      have hx1 : ∀ w, (Instr.index 9 (.string r) (.int .i64 1)).run Try.prog w = .ok (.int .u8 ((log[k + 1]'(by omega)).toNat : Int)) w := fun w => by
        rw [run_index_str (P := Try.prog) u_str r 1 1 rfl (by omega) w, e1]
      have hor : wrap64 (wrap64 (256 * wrap64 (log[k].toNat : Int)) + wrap64 (log[k + 1].toNat : Int)) = (recN log[k] log[k + 1] : Nat) := by
        rw [mul_add_bytes _ _ (UInt8.toNat_lt _) (UInt8.toNat_lt _)]; unfold recN; omega
      have hnext := readTo_next hr hlt2
      have hrec : ∀ n, n + 2 ≤ r.size → r.extract 2 (2 + n) = log.extract (k + 2) (k + 2 + n) := fun n hn => by
        apply str_ext
        rw [Go.Lib.extract_data, Go.Lib.extract_data, hrl, List.drop_drop]
        congr 1
        omega
      have hrest : ∀ n, n + 2 ≤ r.size → r.extract (2 + n) r.size = log.extract (k + (2 + n)) log.size := fun n hn => by
        apply str_ext
        rw [Go.Lib.extract_data, Go.Lib.extract_data, hrl, List.drop_drop]
        congr 1
        omega
      have hstop : ¬ (1 ≤ recN log[k] log[k + 1] ∧ recN log[k] log[k + 1] ≤ 400 ∧ recN log[k] log[k + 1] ≤ log.size - k - 2) → readL (log.data.toList.drop k) = ([], 0) := fun h => by
        rw [drop_two hlt2]
        exact readL_stop (by rw [List.length_drop, hdl]; omega)
      clear e0 e1
      generalize log[k]'(by omega) = b0 at *
      generalize log[k + 1]'(by omega) = b1 at *
      have HOR := Go.Lib.hid hor
      have Hhr := Go.Lib.hid hr; clear hr; have Hhown := Go.Lib.hid hown; clear hown; have Hhb := Go.Lib.hid hb; clear hb; have Hhnext := Go.Lib.hid hnext; clear hnext; have Hhstop := Go.Lib.hid hstop; clear hstop; have Hhfin := Go.Lib.hid hfin; clear hfin; have Hhrl := Go.Lib.hid hrl; clear hrl; have Hhrec := Go.Lib.hid hrec; clear hrec; have Hhrest := Go.Lib.hid hrest; clear hrest; have Hhrx := Go.Lib.hid hrx; clear hrx; have Hhdl := Go.Lib.hid hdl; clear hdl
      clear hor
      have HK := Go.Lib.hid hk
      have hk2 : k ≤ log.size := by omega
      have hk3 : r.size ≤ log.size := by omega
      clear hk
      go_wp2_with fail
      go_quiet (fail)
      clear hx0 hx1
      rw [HOR.out]
      by_cases n1 : recN b0 b1 < 1
      · have hf := Hhfin.out (Hhstop.out (by have := HK.out; omega)) nq
        have HB2 := Go.Lib.hid (Below.drewN Hhb.out nq)
        have Hhf := Go.Lib.hid hf; clear hf
        clear HOR
        generalize recN b0 b1 = n at *
        have z0 : ((n : Int) == 0) = true := by simp; omega
        go_wp2_with fail
        go_ret2
        exact ⟨u4, by rw [Hhf.out.2]; exact congrArg (fun x : Int => Ending.returned (.tuple #[u4, .int .i64 x])) (show ((log.size : Int) - r.size) = (k : Int) by have := HK.out; omega), by rw [Hhf.out.2]; exact Hhf.out.1, HB2.out⟩
      · by_cases n2 : 400 < recN b0 b1
        · have hf := Hhfin.out (Hhstop.out (by have := HK.out; omega)) nq
          have HB2 := Go.Lib.hid (Below.drewN Hhb.out nq)
          have Hhf := Go.Lib.hid hf; clear hf
          clear HOR
          generalize recN b0 b1 = n at *
          have z0 : ((n : Int) == 0) = false := by simp; omega
          go_wp2_with fail
          go_ret2
          exact ⟨u4, by rw [Hhf.out.2]; exact congrArg (fun x : Int => Ending.returned (.tuple #[u4, .int .i64 x])) (show ((log.size : Int) - r.size) = (k : Int) by have := HK.out; omega), by rw [Hhf.out.2]; exact Hhf.out.1, HB2.out⟩
        · by_cases n3 : r.size < 2 + recN b0 b1
          · have hf := Hhfin.out (Hhstop.out (by have := HK.out; omega)) nq
            have HB2 := Go.Lib.hid (Below.drewN Hhb.out nq)
            have Hhf := Go.Lib.hid hf; clear hf
            clear HOR
            generalize recN b0 b1 = n at *
            have z0 : ((n : Int) == 0) = false := by simp; omega
            go_wp2_with fail
            go_ret2
            exact ⟨u4, by rw [Hhf.out.2]; exact congrArg (fun x : Int => Ending.returned (.tuple #[u4, .int .i64 x])) (show ((log.size : Int) - r.size) = (k : Int) by have := HK.out; omega), by rw [Hhf.out.2]; exact Hhf.out.1, HB2.out⟩
          · have hnx := Hhnext.out (by have := HK.out; omega)
            have hrc := Hhrec.out (recN b0 b1) (by omega)
            have hrs := Hhrest.out (recN b0 b1) (by omega)
            have HB2 := Go.Lib.hid (Below.drewN Hhb.out nq)
            have HO2 : Hid ((wr.drewN nq).ownsRow w.heap.size 9 1 u4 acc.length (acc.map Value.string)) := Hhown.out
            clear HOR Hhnext Hhstop Hhfin Hhrec Hhrest
            generalize recN b0 b1 = n at *
            have z0 : ((n : Int) == 0) = false := by simp; omega
            have hsz : (r.extract (2 + n) r.size).size = r.size - (2 + n) := by simp
            have Hhnx := Go.Lib.hid hnx; clear hnx; have Hhrc := Go.Lib.hid hrc; clear hrc; have Hhrs := Go.Lib.hid hrs; clear hrs; have Hhsz := Go.Lib.hid hsz; clear hsz
            go_wp2_with (at_builtin; refine wpList_append_R rfl (.tmp 32) (.tmp 37) 23 rfl w.heap.size 9 (.string ⟨#[]⟩) 1 16 u_strs i_str rfl (by decide) _ _ _ _ _ _ rfl (HO2.out.alloc _) rfl _ (RRow.one _ _ _ _ (by decide)) (one_str _) (by omega) (by decide) (alloc_le HB2.out.size _) ?_; intro v' w1 hown1 hg1)
            rw [Hhrc.out] at hown1
            have HOP := Go.Lib.hid (own_put_str hown1)
            have HB3 := Go.Lib.hid ((HB2.out.alloc HB2.out.size _).grown hg1 (alloc_le HB2.out.size _) (fun k hk => (HO2.out.lt k hk).1))
            clear hown1 hg1
            go_wp2_with fail
            go_roundw
            case rel => exact ⟨k + (2 + n), _, _, by rw [Hhsz.out]; have := HK.out; omega, rfl, Hhrs.out, Hhnx.out, HOP.out, HB3.out⟩
            case measure => show (r.extract (2 + n) r.size).size < r.size; rw [Hhsz.out]; omega
    · have hf := hfin (readL_short (by rw [List.length_drop, hdl]; omega)) 0
      have Hhr := Go.Lib.hid hr; clear hr; have Hhown := Go.Lib.hid hown; clear hown; have Hhb := Go.Lib.hid hb; clear hb; have Hhf := Go.Lib.hid hf; clear hf; have Hhfin := Go.Lib.hid hfin; clear hfin; have Hhrl := Go.Lib.hid hrl; clear hrl; have Hhrx := Go.Lib.hid hrx; clear hrx; have Hhdl := Go.Lib.hid hdl; clear hdl
      have HK := Go.Lib.hid hk
      have hk2 : k ≤ log.size := by omega
      have hk3 : r.size ≤ log.size := by omega
      clear hk
      go_wp2_with fail
      go_ret2
      exact ⟨u4, by rw [Hhf.out.2]; exact congrArg (fun x : Int => Ending.returned (.tuple #[u4, .int .i64 x])) (show ((log.size : Int) - r.size) = (k : Int) by have := HK.out; omega), by rw [Hhf.out.2]; exact Hhf.out.1, Hhb.out⟩

end Go.Proofs.Ytnfdgjdnlikepaa
