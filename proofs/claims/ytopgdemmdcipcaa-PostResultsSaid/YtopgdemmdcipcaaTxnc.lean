/- What the walks over pairs of operations, and the checks of a transaction's operations, compute. -/
import Derived.Test.YtopgdemmdcipcaaTxnb
namespace Go.Proofs.Ytopgdemmdcipcaa
open Go.RowKit

def wayZ (s : Int) (x y : GOp) : Bool := x.key == y.key && (shardZ x.key == s && (x.kind != 1 || y.kind != 1))
def conflictZ (a b : List GOp) (s : Int) : Bool := a.any fun x => b.any fun y => wayZ s x y
theorem any_snoc {α : Type} {l : List α} {k : Nat} {o : α} (f : α → Bool) (h : l[k]? = some o) : (l.take (k + 1)).any f = ((l.take k).any f || f o) := by
  rw [take_snoc h, List.any_append]; simp
theorem any_of {α : Type} {l : List α} {k : Nat} {o : α} (f : α → Bool) (h : l[k]? = some o) (hs : f o = true) : l.any f = true :=
  List.any_eq_true.2 ⟨o, List.mem_of_getElem? h, hs⟩

set_option maxHeartbeats 1000000 in
theorem conflict_any {S S' : Nat → Prop} (v u : Value) (a b : List GOp) (s : Int) (w : World) (hv : ROps S w v a) (hu : ROps S' w u b) :
    Calls Try.prog 72 #[v, u, .int .i64 s] w fun e w' => e = .returned (.bool (conflictZ a b s)) ∧ Below w.heap.size w w' := by
  obtain ⟨aa, cap, rfl, hm⟩ := hv.shape
  obtain ⟨ab, cap2, rfl, hm2⟩ := hu.shape
  have Hhv := Go.Lib.hid hv; clear hv; have Hhu := Go.Lib.hid hu; clear hu
  go_enter Try.func72, Try.ntmps72
  go_wp2_with fail
  go_loopw [6, 13] (fun v6 i wr => ∃ k : Nat, k ≤ a.length ∧ i = .int .i64 k ∧ v6 = .bool false ∧ (a.take k).any (fun x => b.any fun y => wayZ s x y) = false ∧ Below w.heap.size w wr) (fun _ i _ => a.length - (intOf i).toNat)
  case atStart => exact ⟨0, Nat.zero_le _, rfl, rfl, rfl, Below.refl _ _⟩
  case round =>
    obtain ⟨k, hk, rfl, rfl, ht, hb⟩ := hrel
    by_cases hlt : k < a.length
    · obtain ⟨x, hx⟩ := some_at hlt
      obtain ⟨bx, offx, rfl, hs, hbs, h0, h1, h2⟩ := (Hhv.out.later hb).at hx
      have HS := Go.Lib.hid (any_snoc (fun x => b.any fun y => wayZ s x y) hx)
      have hno := any_of (fun x => b.any fun y => wayZ s x y) hx
      obtain ⟨wo, rfl⟩ : ∃ wo : World, wo = wr := ⟨_, rfl⟩
      obtain ⟨W1, hW1⟩ : ∃ W1, W1 = wo.alloc (.cells #[.int .i64 x.kind, .int .i64 x.key, .int .i64 x.n] 78) := ⟨_, rfl⟩
      have hb1 : Below w.heap.size w W1 := by rw [hW1]; exact hb.alloc hb.size _
      have hc0 : W1.cell? ⟨wo.heap.size, 0, none⟩ = some (.int .i64 x.kind) := by rw [hW1]; go_simp
      have hc1 : W1.cell? ⟨wo.heap.size, 1, none⟩ = some (.int .i64 x.key) := by rw [hW1]; go_simp
      have hsz : wo.heap.size < W1.heap.size := by rw [hW1]; simp
      have Hhx := Go.Lib.hid hx; clear hx; have Hht := Go.Lib.hid ht; clear ht; have Hhb := Go.Lib.hid hb; clear hb; have Hhno := Go.Lib.hid hno; clear hno; have HhW1 := Go.Lib.hid hW1; clear hW1; have Hhb1 := Go.Lib.hid hb1; clear hb1; have Hhc0 := Go.Lib.hid hc0; clear hc0; have Hhc1 := Go.Lib.hid hc1; clear hc1
      go_wp2_with fail
      rw [← HhW1.out]
      go_loopw [6, 19] (fun v6 i wr => ∃ j : Nat, j ≤ b.length ∧ i = .int .i64 j ∧ v6 = .bool false ∧ (b.take j).any (fun y => wayZ s x y) = false ∧ Below W1.heap.size W1 wr) (fun _ i _ => b.length - (intOf i).toNat)
      case atStart => exact ⟨0, Nat.zero_le _, rfl, rfl, rfl, Below.refl _ _⟩
      case round =>
        obtain ⟨j, hj, rfl, rfl, hty, hb2⟩ := hrel
        clear h0 h1 h2 hs hbs
        have hbw : Below w.heap.size w wr := Hhb1.out.trans (hb2.mono Hhb1.out.size)
        by_cases hjt : j < b.length
        · obtain ⟨y, hy⟩ := some_at hjt
          obtain ⟨bY, offY, rfl, hs, hbs, h0, h1, h2⟩ := (Hhu.out.later hbw).at hy
          have HY := Go.Lib.hid (any_snoc (fun y => wayZ s x y) hy)
          have g0 : wr.cell? ⟨wo.heap.size, 0, none⟩ = some (.int .i64 x.kind) := by rw [hb2.cell (p := ⟨wo.heap.size, 0, none⟩) hsz]; exact Hhc0.out
          have g1 : wr.cell? ⟨wo.heap.size, 1, none⟩ = some (.int .i64 x.key) := by rw [hb2.cell (p := ⟨wo.heap.size, 1, none⟩) hsz]; exact Hhc1.out
          have hwz : wo.heap.size < wr.heap.size := Nat.lt_of_lt_of_le hsz hb2.size
          have HB2 := Go.Lib.hid (hb2.alloc hb2.size (.cells #[.int .i64 y.kind, .int .i64 y.key, .int .i64 y.n] 78))
          have Hhy := Go.Lib.hid hy; clear hy; have Hhty := Go.Lib.hid hty; clear hty; have Hhbw := Go.Lib.hid hbw; clear hbw
          clear hb2 hs hbs
          rcases Bool.eq_false_or_eq_true (x.key == y.key) with c1 | c1
          · rcases Bool.eq_false_or_eq_true (shardZ x.key == s) with c2 | c2
            · rcases Bool.eq_false_or_eq_true (x.kind != 1) with c3 | c3
              · have hw : wayZ s x y = true := by unfold wayZ; rw [c1, c2, c3]; rfl
                have Hhw := Go.Lib.hid hw; clear hw
                go_wp2_with (go_at_call 48; refine (shard_any _ _).mono ?_; rintro e w' ⟨rfl, rfl⟩)
                go_ret
                exact ⟨ret_bool (Hhno.out (any_of (fun y => wayZ s x y) Hhy.out Hhw.out)).symm, Hhb1.out.trans (HB2.out.mono Hhb1.out.size)⟩
              · rcases Bool.eq_false_or_eq_true (y.kind != 1) with c4 | c4
                · have hw : wayZ s x y = true := by unfold wayZ; rw [c1, c2, c3, c4]; rfl
                  have Hhw := Go.Lib.hid hw; clear hw
                  go_wp2_with (go_at_call 48; refine (shard_any _ _).mono ?_; rintro e w' ⟨rfl, rfl⟩)
                  go_ret
                  exact ⟨ret_bool (Hhno.out (any_of (fun y => wayZ s x y) Hhy.out Hhw.out)).symm, Hhb1.out.trans (HB2.out.mono Hhb1.out.size)⟩
                · have hw : wayZ s x y = false := by unfold wayZ; rw [c1, c2, c3, c4]; rfl
                  have Hhw := Go.Lib.hid hw; clear hw
                  go_wp2_with (go_at_call 48; refine (shard_any _ _).mono ?_; rintro e w' ⟨rfl, rfl⟩)
                  go_roundw
                  case rel => exact ⟨j + 1, by omega, by go_num, rfl, by rw [HY.out, Hhty.out, Hhw.out]; rfl, HB2.out⟩
                  case measure => simp [intOf]; omega
            · have hw : wayZ s x y = false := by unfold wayZ; rw [c1, c2]; rfl
              have Hhw := Go.Lib.hid hw; clear hw
              go_wp2_with (go_at_call 48; refine (shard_any _ _).mono ?_; rintro e w' ⟨rfl, rfl⟩)
              go_roundw
              case rel => exact ⟨j + 1, by omega, by go_num, rfl, by rw [HY.out, Hhty.out, Hhw.out]; rfl, HB2.out⟩
              case measure => simp [intOf]; omega
          · have hw : wayZ s x y = false := by unfold wayZ; rw [c1]; rfl
            have Hhw := Go.Lib.hid hw; clear hw
            go_wp2_with (go_at_call 48; refine (shard_any _ _).mono ?_; rintro e w' ⟨rfl, rfl⟩)
            go_roundw
            case rel => exact ⟨j + 1, by omega, by go_num, rfl, by rw [HY.out, Hhty.out, Hhw.out]; rfl, HB2.out⟩
            case measure => simp [intOf]; omega
        · have hkl : j = b.length := by omega
          have HT : (b.any fun y => wayZ s x y) = false := by rw [hkl] at hty; simpa using hty
          have HHT := Go.Lib.hid HT; clear HT; have Hhb2 := Go.Lib.hid hb2; clear hb2; have Hhbw := Go.Lib.hid hbw; clear hbw
          clear hty hkl
          go_wp2_with fail
          go_roundw
          case rel => exact ⟨k + 1, by omega, by go_num, rfl, by rw [HS.out, Hht.out, HHT.out]; rfl, Hhbw.out⟩
          case measure => simp [intOf]; omega
    · have hkl : k = a.length := by omega
      have HT : conflictZ a b s = false := by rw [hkl] at ht; simpa [conflictZ] using ht
      have HHT := Go.Lib.hid HT; clear HT; have Hhb := Go.Lib.hid hb; clear hb
      clear ht hkl
      go_wp2_with fail
      go_ret
      exact ⟨ret_bool HHT.out.symm, Hhb.out⟩

set_option maxHeartbeats 1000000 in
theorem inWay_any {S S' : Nat → Prop} (v u : Value) (a b : List GOp) (s : Int) (w : World) (hv : ROps S w v a) (hu : ROps S' w u b) :
    Calls Try.prog 77 #[v, u, .int .i64 s] w fun e w' => e = .returned (.bool (conflictZ a b s)) ∧ Below w.heap.size w w' := by
  obtain ⟨aa, cap, rfl, hm⟩ := hv.shape
  obtain ⟨ab, cap2, rfl, hm2⟩ := hu.shape
  have Hhv := Go.Lib.hid hv; clear hv; have Hhu := Go.Lib.hid hu; clear hu
  go_enter Try.func77, Try.ntmps77
  go_wp2_with fail
  go_loopw [7, 14] (fun v7 i wr => ∃ k : Nat, k ≤ a.length ∧ i = .int .i64 k ∧ v7 = .bool ((a.take k).any (fun x => b.any fun y => wayZ s x y)) ∧ Below w.heap.size w wr) (fun _ i _ => a.length - (intOf i).toNat)
  case atStart => exact ⟨0, Nat.zero_le _, rfl, rfl, Below.refl _ _⟩
  case round =>
    obtain ⟨k, hk, rfl, rfl, hb⟩ := hrel
    by_cases hlt : k < a.length
    · obtain ⟨x, hx⟩ := some_at hlt
      obtain ⟨bx, offx, rfl, hs, hbs, h0, h1, h2⟩ := (Hhv.out.later hb).at hx
      have HS := Go.Lib.hid (any_snoc (fun x => b.any fun y => wayZ s x y) hx)
      obtain ⟨wo, rfl⟩ : ∃ wo : World, wo = wr := ⟨_, rfl⟩
      obtain ⟨W1, hW1⟩ : ∃ W1, W1 = wo.alloc (.cells #[.int .i64 x.kind, .int .i64 x.key, .int .i64 x.n] 78) := ⟨_, rfl⟩
      have hb1 : Below w.heap.size w W1 := by rw [hW1]; exact hb.alloc hb.size _
      have hc0 : W1.cell? ⟨wo.heap.size, 0, none⟩ = some (.int .i64 x.kind) := by rw [hW1]; go_simp
      have hc1 : W1.cell? ⟨wo.heap.size, 1, none⟩ = some (.int .i64 x.key) := by rw [hW1]; go_simp
      have hsz : wo.heap.size < W1.heap.size := by rw [hW1]; simp
      generalize hP : (a.take k).any (fun x => b.any fun y => wayZ s x y) = p at *
      have Hhx := Go.Lib.hid hx; clear hx; have Hhb := Go.Lib.hid hb; clear hb; have HhW1 := Go.Lib.hid hW1; clear hW1; have Hhb1 := Go.Lib.hid hb1; clear hb1; have Hhc0 := Go.Lib.hid hc0; clear hc0; have Hhc1 := Go.Lib.hid hc1; clear hc1; have HhP := Go.Lib.hid hP; clear hP
      go_wp2_with fail
      rw [← HhW1.out]
      go_loopw [7, 20] (fun v7 i wr => ∃ j : Nat, j ≤ b.length ∧ i = .int .i64 j ∧ v7 = .bool (p || (b.take j).any (fun y => wayZ s x y)) ∧ Below W1.heap.size W1 wr) (fun _ i _ => b.length - (intOf i).toNat)
      case atStart => exact ⟨0, Nat.zero_le _, rfl, by simp, Below.refl _ _⟩
      case round =>
        obtain ⟨j, hj, rfl, rfl, hb2⟩ := hrel
        clear h0 h1 h2 hs hbs
        have hbw : Below w.heap.size w wr := Hhb1.out.trans (hb2.mono Hhb1.out.size)
        by_cases hjt : j < b.length
        · obtain ⟨y, hy⟩ := some_at hjt
          obtain ⟨bY, offY, rfl, hs, hbs, h0, h1, h2⟩ := (Hhu.out.later hbw).at hy
          have HY := Go.Lib.hid (any_snoc (fun y => wayZ s x y) hy)
          have g0 : wr.cell? ⟨wo.heap.size, 0, none⟩ = some (.int .i64 x.kind) := by rw [hb2.cell (p := ⟨wo.heap.size, 0, none⟩) hsz]; exact Hhc0.out
          have g1 : wr.cell? ⟨wo.heap.size, 1, none⟩ = some (.int .i64 x.key) := by rw [hb2.cell (p := ⟨wo.heap.size, 1, none⟩) hsz]; exact Hhc1.out
          have hwz : wo.heap.size < wr.heap.size := Nat.lt_of_lt_of_le hsz hb2.size
          have HB2 := Go.Lib.hid (hb2.alloc hb2.size (.cells #[.int .i64 y.kind, .int .i64 y.key, .int .i64 y.n] 78))
          have Hhy := Go.Lib.hid hy; clear hy; have Hhbw := Go.Lib.hid hbw; clear hbw
          clear hb2 hs hbs
          generalize (b.take j).any (fun y => wayZ s x y) = q at *
          have hor : ∀ c, (p || q) = c → (p || (q || wayZ s x y)) = (c || wayZ s x y) := fun c hc => by rw [← hc, Bool.or_assoc]
          generalize hr : (p || q) = r at *
          have hw0 := hor r rfl
          clear hor
          cases r
          · simp only [Bool.false_or] at hw0
            rcases Bool.eq_false_or_eq_true (x.key == y.key) with c1 | c1
            · rcases Bool.eq_false_or_eq_true (shardZ x.key == s) with c2 | c2
              · rcases Bool.eq_false_or_eq_true (x.kind == 1) with c3 | c3
                · rcases Bool.eq_false_or_eq_true (y.kind == 1) with c4 | c4
                  · have hw := hw0.trans (show _ = false by unfold wayZ; rw [c1, c2]; simp at c3 c4; simp [c3, c4])
                    clear hw0
                    have Hhw := Go.Lib.hid hw; clear hw; have Hhr := Go.Lib.hid hr; clear hr
                    go_wp2_with (go_at_call 76; refine (shardOf_any _ _).mono ?_; rintro e w' ⟨rfl, rfl⟩)
                    go_roundw
                    case rel => exact ⟨j + 1, by omega, by go_num, by rw [HY.out]; exact congrArg Value.bool Hhw.out.symm, HB2.out⟩
                    case measure => simp [intOf]; omega
                  · have hw := hw0.trans (show _ = true by unfold wayZ; rw [c1, c2]; simp at c3 c4; simp [c3, c4])
                    clear hw0
                    have Hhw := Go.Lib.hid hw; clear hw; have Hhr := Go.Lib.hid hr; clear hr
                    go_wp2_with (go_at_call 76; refine (shardOf_any _ _).mono ?_; rintro e w' ⟨rfl, rfl⟩)
                    go_roundw
                    case rel => exact ⟨j + 1, by omega, by go_num, by rw [HY.out]; exact congrArg Value.bool Hhw.out.symm, HB2.out⟩
                    case measure => simp [intOf]; omega
                · have hw := hw0.trans (show _ = true by unfold wayZ; rw [c1, c2]; simp at c3; simp [c3])
                  clear hw0
                  have Hhw := Go.Lib.hid hw; clear hw; have Hhr := Go.Lib.hid hr; clear hr
                  go_wp2_with (go_at_call 76; refine (shardOf_any _ _).mono ?_; rintro e w' ⟨rfl, rfl⟩)
                  go_roundw
                  case rel => exact ⟨j + 1, by omega, by go_num, by rw [HY.out]; exact congrArg Value.bool Hhw.out.symm, HB2.out⟩
                  case measure => simp [intOf]; omega
              · have hw := hw0.trans (show _ = false by unfold wayZ; rw [c1, c2]; rfl)
                clear hw0
                have Hhw := Go.Lib.hid hw; clear hw; have Hhr := Go.Lib.hid hr; clear hr
                go_wp2_with (go_at_call 76; refine (shardOf_any _ _).mono ?_; rintro e w' ⟨rfl, rfl⟩)
                go_roundw
                case rel => exact ⟨j + 1, by omega, by go_num, by rw [HY.out]; exact congrArg Value.bool Hhw.out.symm, HB2.out⟩
                case measure => simp [intOf]; omega
            · have hw := hw0.trans (show _ = false by unfold wayZ; rw [c1]; rfl)
              clear hw0
              have Hhw := Go.Lib.hid hw; clear hw; have Hhr := Go.Lib.hid hr; clear hr
              go_wp2_with (go_at_call 76; refine (shardOf_any _ _).mono ?_; rintro e w' ⟨rfl, rfl⟩)
              go_roundw
              case rel => exact ⟨j + 1, by omega, by go_num, by rw [HY.out]; exact congrArg Value.bool Hhw.out.symm, HB2.out⟩
              case measure => simp [intOf]; omega
          · have hw := hw0
            clear hw0
            simp only [Bool.true_or] at hw
            have Hhw := Go.Lib.hid hw; clear hw; have Hhr := Go.Lib.hid hr; clear hr
            go_wp2_with (go_at_call 76; refine (shardOf_any _ _).mono ?_; rintro e w' ⟨rfl, rfl⟩)
            go_roundw
            case rel => exact ⟨j + 1, by omega, by go_num, by rw [HY.out]; exact congrArg Value.bool Hhw.out.symm, HB2.out⟩
            case measure => simp [intOf]; omega
        · have hkl : j = b.length := by omega
          subst hkl
          have Hhb2 := Go.Lib.hid hb2; clear hb2; have Hhbw := Go.Lib.hid hbw; clear hbw
          go_wp2_with fail
          go_roundw
          case rel => exact ⟨k + 1, by omega, by go_num, by rw [HS.out, List.take_length], Hhbw.out⟩
          case measure => simp [intOf]; omega
    · have hkl : k = a.length := by omega
      subst hkl
      have Hhb := Go.Lib.hid hb; clear hb
      go_wp2_with fail
      go_ret
      exact ⟨ret_bool (by unfold conflictZ; rw [List.take_length]), Hhb.out⟩

end Go.Proofs.Ytopgdemmdcipcaa
