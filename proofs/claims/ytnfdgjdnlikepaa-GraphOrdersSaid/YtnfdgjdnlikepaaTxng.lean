/- That txn answers at all. -/
import Derived.Test.YtnfdgjdnlikepaaTxnf
namespace Go.Proofs.Ytnfdgjdnlikepaa
open Go.RowKit

theorem union12 : (unionZ [1] [2]).length = 2 := by decide
theorem row_int (w : World) (x : Int) (t : TypeId) : RInts (fun _ => True) (w.alloc (.cells #[.int .i64 x] t)) (.slice (some ⟨w.heap.size, 0, none⟩) 1 1) [x] := RRow.one w (.int .i64 x) t 8 (by decide)

theorem counts_any (w : World) : Calls Try.prog 29 #[] w fun e w' => e = .returned (.bool true) ∧ Below w.heap.size w w' := by
  have h1 : (shardZ 3 == 1) = true := by decide
  have h2 : (ofZ 4 == 1) = true := by decide
  have h3 : (doZ 5 ⟨3, 0, 2⟩ == 7) = true := by decide
  go_enter Try.func29, Try.ntmps29
  go_wp2_with (first | (go_at_call 38; refine (shard_any _ _).mono ?_; rintro e w' ⟨rfl, rfl⟩) | (go_at_call 40; refine (of_any _ _).mono ?_; rintro e w' ⟨rfl, rfl⟩) | (go_at_call 42; refine (do_any 5 ⟨3, 0, 2⟩ _).mono ?_; rintro e w1 ⟨rfl, hb1⟩))
  refine (union_any _ _ [1] [2] _ ((row_int _ _ _).later ((Below.refl _ _).alloc (Nat.le_refl _) _)) (by simpa using row_int (w1.alloc (.cells #[.int .i64 1] 3)) 2 3)).mono ?_
  rintro e w2 ⟨v, rfl, hr, hb2⟩
  obtain ⟨a, cap, rfl, hm⟩ := hr.shape
  have hl := union12
  have hb : Below w.heap.size w w2 := ((hb1.alloc hb1.size _).alloc (by have := hb1.size; simp; omega) _).trans (hb2.mono (by have := hb1.size; simp; omega))
  have HB := Go.Lib.hid hb
  clear hb hb1 hb2 hr hm
  go_wp2_with fail
  go_ret
  exact ⟨rfl, HB.out⟩

theorem keepCounts_any (w : World) : Calls Try.prog 31 #[] w fun e w' => e = .returned (.bool true) ∧ Below w.heap.size w w' := by
  have h1 : (shardZ 3 == 1) = true := by decide
  have h2 : (ofZ 4 == 1) = true := by decide
  have h3 : (doZ 5 ⟨3, 0, 2⟩ == 7) = true := by decide
  go_enter Try.func31, Try.ntmps31
  go_wp2_with (first | (go_at_call 38; refine (shard_any _ _).mono ?_; rintro e w' ⟨rfl, rfl⟩) | (go_at_call 40; refine (of_any _ _).mono ?_; rintro e w' ⟨rfl, rfl⟩) | (go_at_call 42; refine (do_any 5 ⟨3, 0, 2⟩ _).mono ?_; rintro e w1 ⟨rfl, hb1⟩))
  refine (union_any _ _ [1] [2] _ ((row_int _ _ _).later ((Below.refl _ _).alloc (Nat.le_refl _) _)) (by simpa using row_int (w1.alloc (.cells #[.int .i64 1] 3)) 2 3)).mono ?_
  rintro e w2 ⟨v, rfl, hr, hb2⟩
  obtain ⟨a, cap, rfl, hm⟩ := hr.shape
  have hl := union12
  have hb : Below w.heap.size w w2 := ((hb1.alloc hb1.size _).alloc (by have := hb1.size; simp; omega) _).trans (hb2.mono (by have := hb1.size; simp; omega))
  have HB := Go.Lib.hid hb
  clear hb hb1 hb2 hr hm
  go_wp2_with fail
  go_ret
  exact ⟨rfl, HB.out⟩

end Go.Proofs.Ytnfdgjdnlikepaa
