/- What the reference's check of a transaction's operations computes. -/
import Derived.Test.YtopgdemmdcipcaaTxnd
namespace Go.Proofs.Ytopgdemmdcipcaa
open Go.RowKit

set_option maxHeartbeats 1000000 in
theorem isOps_any {S : Nat → Prop} (v : Value) (l : List GOp) (w : World) (hv : ROps S w v l) :
    Calls Try.prog 63 #[v] w fun e w' => e = .returned (.bool (goodOpsZ l)) ∧ Below w.heap.size w w' := by
  obtain ⟨a, cap, rfl, hm⟩ := hv.shape
  have hcap : l.length ≤ cap := by obtain ⟨a', cap', he, h1, _⟩ := hv; cases he; exact h1
  have Hhv := Go.Lib.hid hv; clear hv
  go_enter Try.func63, Try.ntmps63
  go_wp2_with fail
  go_loopw [9] (fun i wr => ∃ k : Nat, k ≤ l.length ∧ i = .int .i64 k ∧ allTo (opAt l) k = true ∧ Below w.heap.size w wr) (fun i _ => l.length - (intOf i).toNat)
  case atStart => exact ⟨0, Nat.zero_le _, rfl, rfl, Below.refl _ _⟩
  case round =>
    obtain ⟨k, hk, rfl, ht, hb⟩ := hrel
    by_cases hlt : k < l.length
    · obtain ⟨o, ho⟩ := some_at hlt
      obtain ⟨b, off, rfl, hs, hbs, h0, h1, h2⟩ := (Hhv.out.later hb).at ho
      have hno := goodOps_no l k o ho hlt
      have hyes : goodOp o = true → newTo l k o.key = true → allTo (opAt l) (k + 1) = true := fun h1 h2 => by rw [allTo_succ, ht]; unfold opAt; rw [getD_of ho, h1, h2]; rfl
      obtain ⟨wo, rfl⟩ : ∃ wo : World, wo = wr := ⟨_, rfl⟩
      obtain ⟨W1, hW1⟩ : ∃ W1, W1 = wo.alloc (.cells #[.int .i64 o.kind, .int .i64 o.key, .int .i64 o.n] 78) := ⟨_, rfl⟩
      have hb1 : Below w.heap.size w W1 := by rw [hW1]; exact hb.alloc hb.size _
      have hc1 : W1.cell? ⟨wo.heap.size, 1, none⟩ = some (.int .i64 o.key) := by rw [hW1]; go_simp
      have hsz : wo.heap.size < W1.heap.size := by rw [hW1]; simp
      have Hhno := Go.Lib.hid hno; clear hno; have Hhyes := Go.Lib.hid hyes; clear hyes; have Hht := Go.Lib.hid ht; clear ht; have Hhb := Go.Lib.hid hb; clear hb; have Hho := Go.Lib.hid ho; clear ho; have Hhb1 := Go.Lib.hid hb1; clear hb1; have Hhc1 := Go.Lib.hid hc1; clear hc1; have HhW1 := Go.Lib.hid hW1; clear hW1
      by_cases hg : goodOp o = true
      · have hg2 := hg
        unfold goodOp at hg2
        simp only [decide_eq_true_eq] at hg2
        obtain ⟨b1, b2, b3, b4, b5, b6, b7⟩ := hg2
        by_cases b8 : o.kind = 1
        all_goals
          first
          | (have hb8 : (o.kind == 1) = true := by simp [b8]
             have hb9 : (o.n != 0) = false := by simp [b7 b8]
             have HX8 := Go.Lib.hid b8
             clear b8 b7)
          | (have hb8 : (o.kind == 1) = false := by simp [b8]
             have HX8 := Go.Lib.hid b8
             clear b8 b7)
          have Hhg := Go.Lib.hid hg; clear hg
          go_wp2_with fail
          rw [← HhW1.out]
          clear h0 h1 h2
          go_loopw [56] (fun i wr => ∃ j : Nat, j ≤ k ∧ i = .int .i64 j ∧ newTo l j o.key = true ∧ Below W1.heap.size W1 wr) (fun i _ => k - (intOf i).toNat)
          case atStart => exact ⟨0, Nat.zero_le _, rfl, rfl, Below.refl _ _⟩
          case round =>
            obtain ⟨j, hj, rfl, hty, hb2⟩ := hrel
            have hbw : Below w.heap.size w wr := Hhb1.out.trans (hb2.mono Hhb1.out.size)
            by_cases hjt : j < k
            · obtain ⟨y, hy⟩ := some_at (show j < l.length by omega)
              obtain ⟨bY, offY, hab, hs, hbs, h0, h1, h2⟩ := (Hhv.out.later hbw).at hy
              simp only [Option.some.injEq, Addr.mk.injEq] at hab
              obtain ⟨rfl, rfl, _⟩ := hab
              have g1 : wr.cell? ⟨wo.heap.size, 1, none⟩ = some (.int .i64 o.key) := by rw [hb2.cell (p := ⟨wo.heap.size, 1, none⟩) hsz]; exact Hhc1.out
              have hwz : wo.heap.size < wr.heap.size := Nat.lt_of_lt_of_le hsz hb2.size
              have HB2 := Go.Lib.hid (hb2.alloc hb2.size (.cells #[.int .i64 y.kind, .int .i64 y.key, .int .i64 y.n] 78))
              have HN := Go.Lib.hid (newTo_succ l j o.key y hy)
              have hnw : (y.key == o.key) = true → newTo l k o.key = false := fun h => by
                unfold newTo
                exact allTo_no (k := j) (by rw [getD_of hy]; simpa using h) hjt
              have Hhy := Go.Lib.hid hy; clear hy; have Hhty := Go.Lib.hid hty; clear hty; have Hhbw := Go.Lib.hid hbw; clear hbw; have Hhnw := Go.Lib.hid hnw; clear hnw
              clear hb2 hs hbs
              rcases Bool.eq_false_or_eq_true (y.key == o.key) with c1 | c1
              · go_wp2_with fail
                go_ret
                exact ⟨ret_bool (Hhno.out (by rw [Hhnw.out c1]; simp)).symm, Hhb1.out.trans (HB2.out.mono Hhb1.out.size)⟩
              · go_wp2_with fail
                go_roundw
                case rel => exact ⟨j + 1, by omega, by go_num, by rw [HN.out, Hhty.out]; simpa using c1, HB2.out⟩
                case measure => simp [intOf]; omega
            · have hkl : j = k := by omega
              subst hkl
              have Hhb2 := Go.Lib.hid hb2; clear hb2; have Hhbw := Go.Lib.hid hbw; clear hbw; have Hhty := Go.Lib.hid hty; clear hty
              go_wp2_with fail
              go_roundw
              case rel => exact ⟨j + 1, by omega, by go_num, Hhyes.out Hhg.out Hhty.out, Hhbw.out⟩
              case measure => simp [intOf]; omega
      · have hg0 : goodOp o = false := by simpa using hg
        have hg2 := hg
        unfold goodOp at hg2
        simp only [decide_eq_true_eq] at hg2
        have Hhg0 := Go.Lib.hid hg0; clear hg0; have Hhg := Go.Lib.hid hg; clear hg
        by_cases b1 : o.kind < 1
        · clear hg2
          go_wp2_with fail
          go_ret
          exact ⟨ret_bool (Hhno.out (by rw [Hhg0.out]; rfl)).symm, by have := Hhb1.out; rw [HhW1.out] at this; exact this⟩
        · by_cases b2 : 3 < o.kind
          · clear hg2
            go_wp2_with fail
            go_ret
            exact ⟨ret_bool (Hhno.out (by rw [Hhg0.out]; rfl)).symm, by have := Hhb1.out; rw [HhW1.out] at this; exact this⟩
          · by_cases b3 : o.key < 0
            · clear hg2
              go_wp2_with fail
              go_ret
              exact ⟨ret_bool (Hhno.out (by rw [Hhg0.out]; rfl)).symm, by have := Hhb1.out; rw [HhW1.out] at this; exact this⟩
            · by_cases b4 : 7 < o.key
              · clear hg2
                go_wp2_with fail
                go_ret
                exact ⟨ret_bool (Hhno.out (by rw [Hhg0.out]; rfl)).symm, by have := Hhb1.out; rw [HhW1.out] at this; exact this⟩
              · by_cases b6 : 1099511627776 < o.n
                · clear hg2
                  go_wp2_with fail
                  go_ret
                  exact ⟨ret_bool (Hhno.out (by rw [Hhg0.out]; rfl)).symm, by have := Hhb1.out; rw [HhW1.out] at this; exact this⟩
                · by_cases b5 : o.n < -1099511627776
                  · clear hg2
                    go_wp2_with fail
                    go_ret
                    exact ⟨ret_bool (Hhno.out (by rw [Hhg0.out]; rfl)).symm, by have := Hhb1.out; rw [HhW1.out] at this; exact this⟩
                  · have b7 : o.kind = 1 := by omega
                    have b8 : o.n ≠ 0 := by omega
                    have hb8 : (o.kind == 1) = true := by simp [b7]
                    have hb9 : (o.n != 0) = true := by simp [b8]
                    have Hb7 := Go.Lib.hid b7; clear b7; have Hb8 := Go.Lib.hid b8; clear b8
                    clear hg2
                    go_wp2_with fail
                    go_ret
                    exact ⟨ret_bool (Hhno.out (by rw [Hhg0.out]; rfl)).symm, by have := Hhb1.out; rw [HhW1.out] at this; exact this⟩
    · have hkl : k = l.length := by omega
      have HT : goodOpsZ l = (decide (0 < l.length) && decide (l.length < 5)) := by rw [hkl] at ht; unfold goodOpsZ; rw [ht]; rfl
      have HHT := Go.Lib.hid HT; clear HT; have Hhb := Go.Lib.hid hb; clear hb
      clear ht hkl
      by_cases c1 : 0 < l.length
      · by_cases c2 : l.length < 5
        · go_wp2_with fail
          go_ret
          exact ⟨ret_bool (by rw [HHT.out]; simp [c1, c2] <;> omega), Hhb.out⟩
        · go_wp2_with fail
          go_ret
          exact ⟨ret_bool (by rw [HHT.out]; simp [c1, c2] <;> omega), Hhb.out⟩
      · go_wp2_with fail
        go_ret
        exact ⟨ret_bool (by rw [HHT.out]; simp [c1] <;> omega), Hhb.out⟩

end Go.Proofs.Ytopgdemmdcipcaa
