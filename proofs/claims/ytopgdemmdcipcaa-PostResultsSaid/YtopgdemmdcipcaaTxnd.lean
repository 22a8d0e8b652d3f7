/- What the checks of a transaction's operations compute. -/
import Derived.Test.YtopgdemmdcipcaaTxnc
namespace Go.Proofs.Ytopgdemmdcipcaa
open Go.RowKit

def goodOp (o : GOp) : Bool := decide (1 ≤ o.kind ∧ o.kind ≤ 3 ∧ 0 ≤ o.key ∧ o.key < 8 ∧ -1099511627776 ≤ o.n ∧ o.n ≤ 1099511627776 ∧ (o.kind = 1 → o.n = 0))
def newTo (l : List GOp) (k : Nat) (j : Int) : Bool := allTo (fun i => (l.getD i default).key != j) k
def opAt (l : List GOp) (i : Nat) : Bool := goodOp (l.getD i default) && newTo l i (l.getD i default).key
def goodOpsZ (l : List GOp) : Bool := allTo (opAt l) l.length && (decide (0 < l.length) && decide (l.length < 5))

theorem newTo_succ (l : List GOp) (k : Nat) (j : Int) (o : GOp) (h : l[k]? = some o) : newTo l (k + 1) j = (newTo l k j && (o.key != j)) := by
  unfold newTo; rw [allTo_succ, getD_of h]
theorem goodOps_no (l : List GOp) (k : Nat) (o : GOp) (h : l[k]? = some o) (hlt : k < l.length) (hb : (goodOp o && newTo l k o.key) = false) : goodOpsZ l = false := by
  unfold goodOpsZ; rw [allTo_no (f := opAt l) (k := k) (by unfold opAt; rw [getD_of h]; exact hb) hlt]; rfl

set_option maxHeartbeats 1000000 in
theorem goodOps_any {S : Nat → Prop} (v : Value) (l : List GOp) (w : World) (hv : ROps S w v l) :
    Calls Try.prog 38 #[v] w fun e w' => e = .returned (.bool (goodOpsZ l)) ∧ Below w.heap.size w w' := by
  obtain ⟨a, cap, rfl, hm⟩ := hv.shape
  have Hhv := Go.Lib.hid hv; clear hv
  go_enter Try.func38, Try.ntmps38
  go_wp2_with fail
  go_loopw [8] (fun i wr => ∃ k : Nat, k ≤ l.length ∧ i = .int .i64 k ∧ allTo (opAt l) k = true ∧ Below w.heap.size w wr ∧ w.heap.size < wr.heap.size ∧
    ∃ cur, wr.heap[w.heap.size]? = some (.cells cur 100 (0, 0)) ∧ cur.size = 8 ∧ ∀ j : Nat, j < 8 → cur[j]? = some (.bool (!newTo l k j))) (fun i _ => l.length - (intOf i).toNat)
  case atStart => exact ⟨0, Nat.zero_le _, rfl, rfl, by (repeat (first | exact Below.refl _ _ | assumption | refine Below.drewN ?_ _ | refine Below.drew ?_ | refine Below.alloc ?_ (by simp <;> omega) _)), by simp, _, heap_alloc_new _ _, rfl, fun j hj => by
    match j, hj with
    | 0, _ | 1, _ | 2, _ | 3, _ | 4, _ | 5, _ | 6, _ | 7, _ => rfl⟩
  case round =>
    obtain ⟨k, hk, rfl, ht, hb, hsz, cur, hg, hc8, hcur⟩ := hrel
    by_cases hlt : k < l.length
    · obtain ⟨o, ho⟩ := some_at hlt
      obtain ⟨b, off, rfl, hs, hbs, h0, h1, h2⟩ := (Hhv.out.later hb).at ho
      have hno := goodOps_no l k o ho hlt
      have HB := Go.Lib.hid (hb.alloc hb.size (.cells #[.int .i64 o.kind, .int .i64 o.key, .int .i64 o.n] 78))
      have hyes : goodOp o = true → newTo l k o.key = true → allTo (opAt l) (k + 1) = true := fun h1 h2 => by rw [allTo_succ, ht]; unfold opAt; rw [getD_of ho, h1, h2]; rfl
      have Hhno := Go.Lib.hid hno; clear hno; have Hhyes := Go.Lib.hid hyes; clear hyes; have Hht := Go.Lib.hid ht; clear ht; have Hhb := Go.Lib.hid hb; clear hb
      by_cases b1 : o.kind < 1
      · have hz : goodOp o = false := by unfold goodOp; simp; omega
        have Hhz := Go.Lib.hid hz; clear hz; have Hhcur := Go.Lib.hid hcur; clear hcur; have Hhg := Go.Lib.hid hg; clear hg; have Hho := Go.Lib.hid ho; clear ho
        go_wp2_with fail
        go_ret
        exact ⟨ret_bool (Hhno.out (by rw [Hhz.out]; rfl)).symm, HB.out⟩
      · by_cases b2 : 3 < o.kind
        · have hz : goodOp o = false := by unfold goodOp; simp; omega
          have Hhz := Go.Lib.hid hz; clear hz; have Hhcur := Go.Lib.hid hcur; clear hcur; have Hhg := Go.Lib.hid hg; clear hg; have Hho := Go.Lib.hid ho; clear ho
          go_wp2_with fail
          go_ret
          exact ⟨ret_bool (Hhno.out (by rw [Hhz.out]; rfl)).symm, HB.out⟩
        · by_cases b3 : o.key < 0
          · have hz : goodOp o = false := by unfold goodOp; simp; omega
            have Hhz := Go.Lib.hid hz; clear hz; have Hhcur := Go.Lib.hid hcur; clear hcur; have Hhg := Go.Lib.hid hg; clear hg; have Hho := Go.Lib.hid ho; clear ho
            go_wp2_with fail
            go_ret
            exact ⟨ret_bool (Hhno.out (by rw [Hhz.out]; rfl)).symm, HB.out⟩
          · by_cases b4 : 8 ≤ o.key
            · have hz : goodOp o = false := by unfold goodOp; simp; omega
              have Hhz := Go.Lib.hid hz; clear hz; have Hhcur := Go.Lib.hid hcur; clear hcur; have Hhg := Go.Lib.hid hg; clear hg; have Hho := Go.Lib.hid ho; clear ho
              go_wp2_with fail
              go_ret
              exact ⟨ret_bool (Hhno.out (by rw [Hhz.out]; rfl)).symm, HB.out⟩
            · have hkn : ((o.key.toNat : Nat) : Int) = o.key := by omega
              have hcell : wr.cell? ⟨w.heap.size, o.key.toNat, none⟩ = some (.bool (!newTo l k o.key)) := by
                rw [cell_of_row _ _ _ _ _ _ hg, hcur _ (by omega), hkn]
              have hfz : wr.frozen? ⟨w.heap.size, o.key.toNat, none⟩ = false := frozen_of_row _ _ _ _ _ hg
              generalize hnew : newTo l k o.key = nw at *
              cases nw
              · have Hhcur := Go.Lib.hid hcur; clear hcur; have Hhg := Go.Lib.hid hg; clear hg; have Hho := Go.Lib.hid ho; clear ho; have Hhkn := Go.Lib.hid hkn; clear hkn; have Hhnew := Go.Lib.hid hnew; clear hnew
                go_wp2_with fail
                go_ret
                exact ⟨ret_bool (Hhno.out (by simp)).symm, HB.out⟩
              · by_cases b5 : o.n < -1099511627776
                · have hz : goodOp o = false := by unfold goodOp; simp; omega
                  have Hhz := Go.Lib.hid hz; clear hz; have Hhcur := Go.Lib.hid hcur; clear hcur; have Hhg := Go.Lib.hid hg; clear hg; have Hho := Go.Lib.hid ho; clear ho; have Hhkn := Go.Lib.hid hkn; clear hkn; have Hhnew := Go.Lib.hid hnew; clear hnew
                  go_wp2_with fail
                  go_ret
                  exact ⟨ret_bool (Hhno.out (by rw [Hhz.out]; rfl)).symm, HB.out⟩
                · by_cases b6 : 1099511627776 < o.n
                  · have hz : goodOp o = false := by unfold goodOp; simp; omega
                    have Hhz := Go.Lib.hid hz; clear hz; have Hhcur := Go.Lib.hid hcur; clear hcur; have Hhg := Go.Lib.hid hg; clear hg; have Hho := Go.Lib.hid ho; clear ho; have Hhkn := Go.Lib.hid hkn; clear hkn; have Hhnew := Go.Lib.hid hnew; clear hnew
                    go_wp2_with fail
                    go_ret
                    exact ⟨ret_bool (Hhno.out (by rw [Hhz.out]; rfl)).symm, HB.out⟩
                  · have hgo : wr.heap[w.heap.size]? = some (.cells cur 100 (0, 0)) → ∃ cur', ((wr.setCell ⟨w.heap.size, o.key.toNat, none⟩ (.bool true)).alloc (.cells #[.int .i64 o.kind, .int .i64 o.key, .int .i64 o.n] 78)).heap[w.heap.size]? = some (.cells cur' 100 (0, 0)) ∧ cur'.size = 8 ∧ ∀ j : Nat, j < 8 → cur'[j]? = some (.bool (!newTo l (k + 1) j)) := fun hg => by
                      refine ⟨cur.setIfInBounds o.key.toNat (.bool true), ?_, by simpa using hc8, fun j hj => ?_⟩
                      · rw [Below.heap_alloc _ _ _ (by simpa [World.setCell] using hsz)]
                        exact heap_setCell_same _ _ _ _ _ _ hg
                      · rw [newTo_succ l k j o ho]
                        by_cases hj2 : j = o.key.toNat
                        · subst hj2
                          rw [hkn, hnew]
                          simp [hc8, hj]
                        · have : (o.key != (j : Int)) = true := by simp; omega
                          rw [this, Array.getElem?_setIfInBounds_ne (by omega), hcur j hj]
                          simp
                    have hbz : Below w.heap.size w ((wr.setCell ⟨w.heap.size, o.key.toNat, none⟩ (.bool true)).alloc (.cells #[.int .i64 o.kind, .int .i64 o.key, .int .i64 o.n] 78)) := (Hhb.out.setCell (by simp) _).alloc (by simpa using Hhb.out.size) _
                    have hgo := hgo hg
                    by_cases b7 : o.kind = 1
                    · have hb7 : (o.kind == 1) = true := by simp [b7]
                      by_cases b8 : o.n = 0
                      · have hb8 : (o.n != 0) = false := by simp [b8]
                        have hz : goodOp o = true := by unfold goodOp; simp; omega
                        have Hhz := Go.Lib.hid hz; clear hz; have Hhcur := Go.Lib.hid hcur; clear hcur; have Hhg := Go.Lib.hid hg; clear hg; have Hho := Go.Lib.hid ho; clear ho; have Hhkn := Go.Lib.hid hkn; clear hkn; have Hhnew := Go.Lib.hid hnew; clear hnew; have Hb7 := Go.Lib.hid b7; clear b7; have Hb8 := Go.Lib.hid b8; clear b8; have Hhgo := Go.Lib.hid hgo; clear hgo; have Hhbz := Go.Lib.hid hbz; clear hbz
                        go_wp2_with fail
                        go_roundw
                        case rel => exact ⟨k + 1, by omega, by go_num, Hhyes.out Hhz.out rfl, Hhbz.out, by simp; omega, Hhgo.out⟩
                        case measure => simp [intOf]; omega
                      · have hb8 : (o.n != 0) = true := by simp [b8]
                        have hz : goodOp o = false := by unfold goodOp; simp; omega
                        have Hhz := Go.Lib.hid hz; clear hz; have Hhcur := Go.Lib.hid hcur; clear hcur; have Hhg := Go.Lib.hid hg; clear hg; have Hho := Go.Lib.hid ho; clear ho; have Hhkn := Go.Lib.hid hkn; clear hkn; have Hhnew := Go.Lib.hid hnew; clear hnew; have Hb7 := Go.Lib.hid b7; clear b7; have Hb8 := Go.Lib.hid b8; clear b8; have Hhgo := Go.Lib.hid hgo; clear hgo; have Hhbz := Go.Lib.hid hbz; clear hbz
                        go_wp2_with fail
                        go_ret
                        exact ⟨ret_bool (Hhno.out (by rw [Hhz.out]; rfl)).symm, HB.out⟩
                    · have hb7 : (o.kind == 1) = false := by simp [b7]
                      have hz : goodOp o = true := by unfold goodOp; simp; omega
                      have Hhz := Go.Lib.hid hz; clear hz; have Hhcur := Go.Lib.hid hcur; clear hcur; have Hhg := Go.Lib.hid hg; clear hg; have Hho := Go.Lib.hid ho; clear ho; have Hhkn := Go.Lib.hid hkn; clear hkn; have Hhnew := Go.Lib.hid hnew; clear hnew; have Hb7 := Go.Lib.hid b7; clear b7; have Hhgo := Go.Lib.hid hgo; clear hgo; have Hhbz := Go.Lib.hid hbz; clear hbz
                      go_wp2_with fail
                      go_roundw
                      case rel => exact ⟨k + 1, by omega, by go_num, Hhyes.out Hhz.out rfl, Hhbz.out, by simp; omega, Hhgo.out⟩
                      case measure => simp [intOf]; omega
    · have hkl : k = l.length := by omega
      have HT : goodOpsZ l = (decide (0 < l.length) && decide (l.length < 5)) := by rw [hkl] at ht; unfold goodOpsZ; rw [ht]; rfl
      have HHT := Go.Lib.hid HT; clear HT; have Hhb := Go.Lib.hid hb; clear hb; have Hhcur := Go.Lib.hid hcur; clear hcur; have Hhg := Go.Lib.hid hg; clear hg
      clear ht hkl
      by_cases c1 : 0 < l.length
      · by_cases c2 : l.length < 5
        · go_wp2_with fail
          go_ret
          exact ⟨ret_bool (by rw [HHT.out]; simp [c1, c2] <;> omega), Hhb.out⟩
        · go_wp2_with fail
          go_ret
          exact ⟨ret_bool (by rw [HHT.out]; simp [c1, c2] <;> omega), Hhb.out⟩
      · go_wp2_with fail
        go_ret
        exact ⟨ret_bool (by rw [HHT.out]; simp [c1] <;> omega), Hhb.out⟩

end Go.Proofs.Ytopgdemmdcipcaa
