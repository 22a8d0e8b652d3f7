/- What writing and tearing of a log compute. -/
import Derived.Test.YtopgdemmdcipcaaRows
import Derived.Test.YtopgdemmdcipcaaStr
namespace Go.Proofs.Ytopgdemmdcipcaa
open Go.RowKit

theorem u_bytes : Try.prog.underlying 98 = some (.slice 5) := by kernel_rfl
theorem u_byte : Try.prog.underlying 5 = some (.int .u8) := by kernel_rfl
theorem u_str : Try.prog.underlying 9 = some .string := by kernel_rfl

theorem ret_str {a b : ByteArray} (h : a = b) : Ending.returned (.string a) = .returned (.string b) := by rw [h]

def wcode (log s : ByteArray) : Int := if 65536 < log.size then 2 else if s.size = 0 ∨ 400 < s.size then 1 else if 65536 < log.size + 2 + s.size then 5 else 0
def wtext (log s : ByteArray) : ByteArray := log ++ strOfNums [(s.size : Int) / 256, (s.size : Int) % 256] ++ s
def wout (log s : ByteArray) : ByteArray := if wcode log s = 0 then wtext log s else log
theorem ret_pair {a b : ByteArray} {m n : Int} (h : a = b) (h2 : m = n) : Ending.returned (.tuple #[.string a, .int .i64 m]) = .returned (.tuple #[.string b, .int .i64 n]) := by rw [h, h2]
theorem wout_no {log s : ByteArray} {c : Int} (h : wcode log s = c) (hc : c ≠ 0) : log = wout log s := by unfold wout; rw [h, if_neg hc]
theorem wout_yes {log s : ByteArray} (h : wcode log s = 0) : wtext log s = wout log s := by unfold wout; rw [h]; rfl

theorem data_append (a b : ByteArray) : (a ++ b).data.toList = a.data.toList ++ b.data.toList := by simp
theorem wtext_ref (log s : ByteArray) (h : s.size ≤ 400) : log ++ strOfNums [(s.size : Int) / 256 % 256] ++ strOfNums [(s.size : Int) % 256] ++ s = wtext log s := by
  apply str_ext
  unfold wtext
  simp only [data_append, strOfNums_data, List.map_cons, List.map_nil]
  rw [show (s.size : Int) / 256 % 256 = (s.size : Int) / 256 by omega]
  simp
theorem wtext_size (log s : ByteArray) : (wtext log s).size = log.size + 2 + s.size := by
  unfold wtext
  simp [ByteArray.size_append, strOfNums_size]
theorem wcode_or (log s : ByteArray) : wcode log s = 0 ∧ s.size ≤ 400 ∧ 1 ≤ s.size ∧ log.size + 2 + s.size ≤ 65536 ∨ (wcode log s ≠ 0 ∧ wout log s = log) := by
  unfold wout wcode
  split
  · exact .inr ⟨by decide, rfl⟩
  · split
    · exact .inr ⟨by decide, rfl⟩
    · split
      · exact .inr ⟨by decide, rfl⟩
      · exact .inl ⟨rfl, by omega, by omega, by omega⟩

theorem toList_ne {s : ByteArray} (h : 1 ≤ s.size) : s.toList.isEmpty = false := by
  rw [Go.Lib.toList_data]
  have hl : s.data.toList.length = s.size := rfl
  cases he : s.data.toList with
  | nil => rw [he] at hl; simp at hl; omega
  | cons x t => rfl

/-- What is left of a record when n bytes of it are written. -/
def tornLen (s : ByteArray) (n : Int) : Nat := if n < 0 then 0 else if (s.size : Int) + 2 < n then s.size + 2 else n.toNat
def tearZ (log s : ByteArray) (n : Int) : ByteArray := if wcode log s = 0 then (wtext log s).extract 0 (log.size + tornLen s n) else log

theorem extract_all (s : ByteArray) (n : Nat) (h : s.size ≤ n) : s.extract 0 n = s := by
  apply str_ext
  rw [Go.Lib.extract_data]
  have hl : s.data.toList.length = s.size := rfl
  simp only [List.drop_zero, Nat.sub_zero]
  exact List.take_of_length_le (by omega)
theorem wtext_front (log s : ByteArray) : (wtext log s).extract 0 log.size = log := by
  apply str_ext
  rw [Go.Lib.extract_data]
  have hl : log.data.toList.length = log.size := rfl
  unfold wtext
  simp only [data_append, List.drop_zero, Nat.sub_zero, List.append_assoc]
  rw [List.take_append_of_le_length (by omega), List.take_of_length_le (by omega)]

end Go.Proofs.Ytopgdemmdcipcaa
