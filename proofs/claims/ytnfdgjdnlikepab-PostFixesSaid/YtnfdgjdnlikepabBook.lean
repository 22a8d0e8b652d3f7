/- What writing and tearing of a log compute. -/
import Derived.Test.YtnfdgjdnlikepabRows
import Derived.Test.YtnfdgjdnlikepabStr
namespace Go.Proofs.Ytnfdgjdnlikepab
open Go.RowKit

theorem u_bytes : Try.prog.underlying 124 = some (.slice 5) := by kernel_rfl
theorem u_byte : Try.prog.underlying 5 = some (.int .u8) := by kernel_rfl
theorem u_str : Try.prog.underlying 9 = some .string := by kernel_rfl

theorem ret_str {a b : ByteArray} (h : a = b) : Ending.returned (.string a) = .returned (.string b) := by rw [h]

def wcode (log s : ByteArray) : Int := if 65536 < log.size then 2 else if s.size = 0 ∨ 400 < s.size then 1 else if 65536 < log.size + 2 + s.size then 5 else 0
def wtext (log s : ByteArray) : ByteArray := log ++ strOfNums [(s.size : Int) / 256, (s.size : Int) % 256] ++ s
def wout (log s : ByteArray) : ByteArray := if wcode log s = 0 then wtext log s else log
theorem ret_pair {a b : ByteArray} {m n : Int} (h : a = b) (h2 : m = n) : Ending.returned (.tuple #[.string a, .int .i64 m]) = .returned (.tuple #[.string b, .int .i64 n]) := by rw [h, h2]
theorem wout_no {log s : ByteArray} {c : Int} (h : wcode log s = c) (hc : c ≠ 0) : log = wout log s := by unfold wout; rw [h, if_neg hc]
theorem wout_yes {log s : ByteArray} (h : wcode log s = 0) : wtext log s = wout log s := by unfold wout; rw [h]; rfl

theorem write_any (log s : ByteArray) (w : World) (hl : log.size ≤ 140737488351232) (hs : s.size ≤ 140737488351232) :
    Calls Try.prog 125 #[.string log, .string s] w fun e w' => e = .returned (.tuple #[.string (wout log s), .int .i64 (wcode log s)]) ∧ Below w.heap.size w w' := by
  by_cases h1 : 65536 < log.size
  · have hc : wcode log s = 2 := by unfold wcode; rw [if_pos h1]
    have Hhc := Go.Lib.hid hc; clear hc
    go_enter Try.func125, Try.ntmps125
    go_wp2_with fail
    go_ret2
    exact ⟨ret_pair (wout_no Hhc.out (by decide)) Hhc.out.symm, Below.refl _ _⟩
  · by_cases h2 : s.size < 1
    · have hc : wcode log s = 1 := by unfold wcode; rw [if_neg h1, if_pos (by omega)]
      have Hhc := Go.Lib.hid hc; clear hc
      go_enter Try.func125, Try.ntmps125
      go_wp2_with fail
      go_ret2
      exact ⟨ret_pair (wout_no Hhc.out (by decide)) Hhc.out.symm, Below.refl _ _⟩
    · by_cases h3 : 400 < s.size
      · have hc : wcode log s = 1 := by unfold wcode; rw [if_neg h1, if_pos (by omega)]
        have Hhc := Go.Lib.hid hc; clear hc
        go_enter Try.func125, Try.ntmps125
        go_wp2_with fail
        go_ret2
        exact ⟨ret_pair (wout_no Hhc.out (by decide)) Hhc.out.symm, Below.refl _ _⟩
      · by_cases h4 : 65536 < log.size + 2 + s.size
        · have hc : wcode log s = 5 := by unfold wcode; rw [if_neg h1, if_neg (by omega), if_pos h4]
          have Hhc := Go.Lib.hid hc; clear hc
          go_enter Try.func125, Try.ntmps125
          go_wp2_with fail
          go_ret2
          exact ⟨ret_pair (wout_no Hhc.out (by decide)) Hhc.out.symm, Below.refl _ _⟩
        · have hc : wcode log s = 0 := by unfold wcode; rw [if_neg h1, if_neg (by omega), if_neg h4]
          have hz2 : ∀ a b, (strOfNums [a, b]).size = 2 := fun a b => strOfNums_size [a, b]
          have Hhc := Go.Lib.hid hc; clear hc
          go_enter Try.func125, Try.ntmps125
          go_wp2_with (refine wpList_bytes_string rfl 124 9 5 (.tmp 38) rfl u_bytes u_byte u_str _ rfl _ [_, _] (RRow.lit _ _ _ 1 1 2 rfl (by decide)) ?_)
          go_ret2
          exact ⟨ret_pair (wout_yes Hhc.out) Hhc.out.symm, by (repeat (first | exact Below.refl _ _ | assumption | refine Below.drewN ?_ _ | refine Below.drew ?_ | refine Below.alloc ?_ (by simp <;> omega) _))⟩

theorem data_append (a b : ByteArray) : (a ++ b).data.toList = a.data.toList ++ b.data.toList := by simp
theorem wtext_ref (log s : ByteArray) (h : s.size ≤ 400) : log ++ strOfNums [(s.size : Int) / 256 % 256] ++ strOfNums [(s.size : Int) % 256] ++ s = wtext log s := by
  apply str_ext
  unfold wtext
  simp only [data_append, strOfNums_data, List.map_cons, List.map_nil]
  rw [show (s.size : Int) / 256 % 256 = (s.size : Int) / 256 by omega]
  simp
theorem wtext_size (log s : ByteArray) : (wtext log s).size = log.size + 2 + s.size := by
  unfold wtext
  simp [ByteArray.size_append, strOfNums_size]
theorem wcode_or (log s : ByteArray) : wcode log s = 0 ∧ s.size ≤ 400 ∧ 1 ≤ s.size ∧ log.size + 2 + s.size ≤ 65536 ∨ (wcode log s ≠ 0 ∧ wout log s = log) := by
  unfold wout wcode
  split
  · exact .inr ⟨by decide, rfl⟩
  · split
    · exact .inr ⟨by decide, rfl⟩
    · split
      · exact .inr ⟨by decide, rfl⟩
      · exact .inl ⟨rfl, by omega, by omega, by omega⟩

theorem toList_ne {s : ByteArray} (h : 1 ≤ s.size) : s.toList.isEmpty = false := by
  rw [Go.Lib.toList_data]
  have hl : s.data.toList.length = s.size := rfl
  cases he : s.data.toList with
  | nil => rw [he] at hl; simp at hl; omega
  | cons x t => rfl

/-- What is left of a record when n bytes of it are written. -/
def tornLen (s : ByteArray) (n : Int) : Nat := if n < 0 then 0 else if (s.size : Int) + 2 < n then s.size + 2 else n.toNat
def tearZ (log s : ByteArray) (n : Int) : ByteArray := if wcode log s = 0 then (wtext log s).extract 0 (log.size + tornLen s n) else log

theorem tear_any (log s : ByteArray) (n : Int) (w : World) (hl : log.size ≤ 140737488351232) (hs : s.size ≤ 140737488351232) :
    Calls Try.prog 124 #[.string log, .string s, .int .i64 n] w fun e w' => e = .returned (.string (tearZ log s n)) ∧ Below w.heap.size w w' := by
  rcases wcode_or log s with ⟨hc, h4, h1, h6⟩ | ⟨hc, ho⟩
  · have hsz := wtext_size log s
    have ho := wout_yes hc
    have hb : (wcode log s != 0) = false := by simp [hc]
    have ht : tearZ log s n = (wtext log s).extract 0 (log.size + tornLen s n) := by unfold tearZ; rw [if_pos hc]
    have hsz2 : (wout log s).size = log.size + 2 + s.size := by rw [← ho]; exact hsz
    rw [ho] at ht
    clear hsz ho
    have HC := Go.Lib.hid hc
    clear hc
    have Hht := Go.Lib.hid ht; clear ht; have Hhsz2 := Go.Lib.hid hsz2; clear hsz2
    by_cases n0 : n < 0
    · have HL : Hid (tornLen s n = 0) := Go.Lib.hid (if_pos n0)
      go_enter Try.func124, Try.ntmps124
      go_wp2_with fail
      refine (write_any _ _ _ hl hs).mono ?_
      rintro e w1 ⟨rfl, hb1⟩
      have hsz2 := Hhsz2.out
      generalize wout log s = W at *
      generalize wcode log s = c at *
      have Hhb1 := Go.Lib.hid hb1; clear hb1
      go_wp2_with fail
      go_ret
      exact ⟨ret_str (by rw [Hht.out, HL.out]; rfl), Hhb1.out⟩
    · by_cases n1 : (s.size : Int) + 2 < n
      · have HL : Hid (tornLen s n = s.size + 2) := Go.Lib.hid (by unfold tornLen; rw [if_neg n0, if_pos n1])
        go_enter Try.func124, Try.ntmps124
        go_wp2_with fail
        refine (write_any _ _ _ hl hs).mono ?_
        rintro e w1 ⟨rfl, hb1⟩
        have hsz2 := Hhsz2.out
        generalize wout log s = W at *
        generalize wcode log s = c at *
        have Hhb1 := Go.Lib.hid hb1; clear hb1
        go_wp2_with fail
        go_ret
        exact ⟨ret_str (by rw [Hht.out, HL.out]; congr 1; try omega), Hhb1.out⟩
      · have HL : Hid (tornLen s n = n.toNat) := Go.Lib.hid (by unfold tornLen; rw [if_neg n0, if_neg n1])
        go_enter Try.func124, Try.ntmps124
        go_wp2_with fail
        refine (write_any _ _ _ hl hs).mono ?_
        rintro e w1 ⟨rfl, hb1⟩
        have hsz2 := Hhsz2.out
        generalize wout log s = W at *
        generalize wcode log s = c at *
        have Hhb1 := Go.Lib.hid hb1; clear hb1
        go_wp2_with fail
        all_goals
          go_ret
          exact ⟨ret_str (by rw [Hht.out, HL.out]; congr 1; try omega), Hhb1.out⟩
  · have hb : (wcode log s != 0) = true := by simpa using hc
    have ht : tearZ log s n = log := by unfold tearZ; rw [if_neg hc]
    have Hht := Go.Lib.hid ht; clear ht; have Hho := Go.Lib.hid ho; clear ho; have Hhc := Go.Lib.hid hc; clear hc
    go_enter Try.func124, Try.ntmps124
    go_wp2_with fail
    refine (write_any _ _ _ hl hs).mono ?_
    rintro e w1 ⟨rfl, hb1⟩
    rw [Hho.out]
    have Hhb1 := Go.Lib.hid hb1; clear hb1
    go_wp2_with fail
    go_ret
    exact ⟨ret_str Hht.out.symm, Hhb1.out⟩

theorem extract_all (s : ByteArray) (n : Nat) (h : s.size ≤ n) : s.extract 0 n = s := by
  apply str_ext
  rw [Go.Lib.extract_data]
  have hl : s.data.toList.length = s.size := rfl
  simp only [List.drop_zero, Nat.sub_zero]
  exact List.take_of_length_le (by omega)
theorem wtext_front (log s : ByteArray) : (wtext log s).extract 0 log.size = log := by
  apply str_ext
  rw [Go.Lib.extract_data]
  have hl : log.data.toList.length = log.size := rfl
  unfold wtext
  simp only [data_append, List.drop_zero, Nat.sub_zero, List.append_assoc]
  rw [List.take_append_of_le_length (by omega), List.take_of_length_le (by omega)]

end Go.Proofs.Ytnfdgjdnlikepab
