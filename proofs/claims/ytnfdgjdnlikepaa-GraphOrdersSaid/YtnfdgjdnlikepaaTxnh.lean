/- The walks of the laws on txn. -/
import Derived.Test.YtnfdgjdnlikepaaTxng
namespace Go.Proofs.Ytnfdgjdnlikepaa
open Go.RowKit

theorem RInts.own {w' : World} {base : Nat} {v : Value} {l : List Int} (h : w'.ownsRow base 3 1 v l.length (l.map (Value.int .i64))) (hl : l.length * 8 ≤ 140737488351232) : RInts (fun b => base ≤ b) w' v l := RRow.of_own (bytes := 8) h hl

set_option maxHeartbeats 1000000 in
theorem txnLists_walk (w : World) (va : Value) (a : List Int) (ha : RInts (fun b => b < w.heap.size) w va a) (vb : Value) (b : List Int) (hb : RInts (fun b => b < w.heap.size) w vb b) :
    Calls Try.prog 7 #[va, vb] w fun e w' => e = .returned (.bool true) ∧ Below w.heap.size w w' := by
  have hr : (risingZ a == risingZ a) = true := by simp
  have hs := sameZ_refl (unionZ a b)
  have ha2 : a.length * 8 ≤ 140737488351232 := by obtain ⟨_, _, _, _, _, _, h, _⟩ := ha; omega
  have hb2 : b.length * 8 ≤ 140737488351232 := by obtain ⟨_, _, _, _, _, _, h, _⟩ := hb; omega
  have HA := Go.Lib.hid ha
  have HB := Go.Lib.hid hb
  clear ha hb
  go_enter Try.func7, Try.ntmps7
  go_wp2_with (first | (go_at_call 24; refine (rising_any _ a _ HA.out).mono ?_; rintro e w' ⟨rfl, rfl⟩) | (go_at_call 25; refine (isRising_any _ a _ HA.out).mono ?_; rintro e w' ⟨rfl, rfl⟩) | (at_builtin; refine wpList_append_R rfl (.const (.slice none 0 0)) (.tmp 11) 34 rfl w.heap.size 3 (.int .i64 0) 1 8 u_ints i_int rfl (by decide) _ _ _ _ _ _ rfl (ownsRow_nil w _ _ _) rfl _ HA.out (ints_oneCell a) (by omega) (by decide) (Nat.le_refl _) ?_; intro v1 w1 hown1 hg1; simp only [Nat.zero_add, List.nil_append] at hown1; have HB1 := Go.Lib.hid ((Below.refl w.heap.size _).grown hg1 (Nat.le_refl _) (fun k hk => by cases hk)); have HO1 := Go.Lib.hid hown1; clear hown1 hg1) | (at_builtin; refine wpList_append_R rfl (.const (.slice none 0 0)) (.tmp 13) 34 rfl w1.heap.size 3 (.int .i64 0) 1 8 u_ints i_int rfl (by decide) _ _ _ _ _ _ rfl (ownsRow_nil w1 _ _ _) rfl _ (HB.out.later HB1.out) (ints_oneCell b) (by omega) (by decide) (Nat.le_refl _) ?_; intro v2 w2 hown2 hg2; simp only [Nat.zero_add, List.nil_append] at hown2; have HB2 := Go.Lib.hid ((Below.refl w1.heap.size _).grown hg2 (Nat.le_refl _) (fun k hk => by cases hk)); have HO2 := Go.Lib.hid hown2; clear hown2 hg2))
  have hr1 := (RInts.own HO1.out ha2).later HB2.out
  have hr2 := RInts.own HO2.out hb2
  have hbw := HB1.out.trans (HB2.out.mono HB1.out.size)
  refine (union_any _ _ a b _ hr1 hr2).mono ?_
  rintro e w3 ⟨v3, rfl, hr3, hb3⟩
  have hbw3 := hbw.trans (hb3.mono hbw.size)
  clear hb3 hbw hr1 hr2 HB1 HB2 HO1 HO2
  have HR3 := Go.Lib.hid hr3
  have HW3 := Go.Lib.hid hbw3
  clear hr3 hbw3
  go_wp2_with fail
  refine (unionOf_any _ _ a b _ (HA.out.later HW3.out) (HB.out.later HW3.out)).mono ?_
  rintro e w4 ⟨v4, rfl, hr4, hb4⟩
  have HW4 := Go.Lib.hid (HW3.out.trans (hb4.mono HW3.out.size))
  have HR4 := Go.Lib.hid hr4
  have HR34 := Go.Lib.hid (HR3.out.later hb4)
  clear hr4 hb4 HR3 HW3
  go_wp2_with fail
  refine (sameNumbers_any _ _ _ _ _ HR34.out HR4.out).mono ?_
  rintro e w5 ⟨rfl, n, rfl⟩
  have HW5 := Go.Lib.hid (Below.drewN HW4.out n)
  clear HW4
  go_wp2_with fail
  refine (counts_any _).mono ?_
  rintro e w6 ⟨rfl, hb6⟩
  have HW6 := Go.Lib.hid (HW5.out.trans (hb6.mono HW5.out.size))
  clear hb6
  go_wp2_with fail
  go_ret
  exact ⟨rfl, HW6.out⟩

end Go.Proofs.Ytnfdgjdnlikepaa
