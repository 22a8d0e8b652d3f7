/- Plain laws on unions and on what is in the way; the walks of the laws on them. -/
import Derived.Test.YtnfdgjdnlikepaaTxnh
import Derived.Test.YtnfdgjdnlikepaaTxne
import Derived.Deep.RegionHeld3
namespace Go.Proofs.Ytnfdgjdnlikepaa
open Go.RowKit

theorem keepHas_any {S : Nat → Prop} (v : Value) (l : List Int) (n : Int) (w : World) (hv : RInts S w v l) :
    Calls Try.prog 30 #[v, .int .i64 n] w fun e w' => e = .returned (.bool (hasZ l n)) ∧ w = w' := by
  obtain ⟨a, cap, rfl, hm⟩ := hv.shape
  have HV := Go.Lib.hid hv
  clear hv
  go_enter Try.func30, Try.ntmps30
  go_wp2_with fail
  go_loop [4, 6, 9] (fun v4 v6 i => ∃ k : Nat, k ≤ l.length ∧ i = .int .i64 k ∧ v4 = .bool false ∧ hasZ (l.take k) n = false) (fun _ _ i => l.length - (intOf i).toNat)
  case atStart => exact ⟨0, Nat.zero_le _, rfl, rfl, rfl⟩
  case round =>
    obtain ⟨k, hk, rfl, rfl, ht⟩ := hrel
    by_cases hlt : k < l.length
    · obtain ⟨x, hx⟩ := some_at hlt
      obtain ⟨b, off, rfl, hs, hbs, hc⟩ := HV.out.at hx
      have HX := Go.Lib.hid (take_snoc hx)
      have HT := Go.Lib.hid ht
      have HX2 := Go.Lib.hid hx
      clear ht hx
      by_cases hxn : x = n
      · have hb : (x == n) = true := by simp [hxn]
        have HN := Go.Lib.hid hxn
        clear hxn
        go_wp2_with fail
        go_ret
        exact ⟨ret_bool (by unfold hasZ; exact (List.any_eq_true.2 ⟨x, List.mem_of_getElem? HX2.out, by simpa using HN.out⟩).symm), rfl⟩
      · have hb : (x == n) = false := by simp [hxn]
        have HN := Go.Lib.hid hxn
        clear hxn
        go_wp2_with fail
        go_round
        case rel => exact ⟨k + 1, by omega, by go_num, rfl, by rw [HX.out]; unfold hasZ; rw [List.any_append]; simp only [hasZ] at HT; rw [HT.out]; simpa using hb⟩
        case measure => simp [intOf]; omega
    · have hkl : k = l.length := by omega
      have HT : hasZ l n = false := by rw [hkl] at ht; simpa using ht
      have HT2 := Go.Lib.hid HT
      clear ht HT hkl
      go_wp2_with fail
      go_ret
      exact ⟨ret_bool HT2.out.symm, rfl⟩

theorem has_append (l : List Int) (x n : Int) : hasZ (l ++ [x]) n = (hasZ l n || x == n) := by unfold hasZ; rw [List.any_append]; simp
theorem has_unionTo (a b : List Int) (n : Int) : ∀ k : Nat, hasZ (unionTo a b k) n = (decide (0 ≤ n ∧ n < k) && (hasZ a n || hasZ b n)) := by
  intro k
  induction k with
  | zero =>
    have : decide (0 ≤ n ∧ n < ((0 : Nat) : Int)) = false := by simp
    rw [this]; rfl
  | succ k ih =>
    rw [unionTo_succ]
    by_cases hk : n = k
    · subst hk
      split
      · rename_i h
        rw [has_append, h, ih, h]
        simp
        omega
      · rename_i h
        have h : (hasZ a k || hasZ b k) = false := by simpa using h
        rw [List.append_nil, ih, h]
        simp
    · have hd : decide (0 ≤ n ∧ n < ((k + 1 : Nat) : Int)) = decide (0 ≤ n ∧ n < (k : Int)) := by
        apply decide_eq_decide.2; omega
      rw [hd, ← ih]
      split
      · rw [has_append]
        have : ((k : Int) == n) = false := by simp; omega
        rw [this, Bool.or_false]
      · rw [List.append_nil]

theorem rise_append (l : List Int) (x : Int) (h : risingZ l = true) (hx : ∀ y ∈ l, y < x) (h0 : 0 ≤ x) (h1 : x < 32) : risingZ (l ++ [x]) = true := by
  unfold risingZ at *
  rw [allTo_iff] at *
  intro i hi
  simp only [List.length_append, List.length_cons, List.length_nil] at hi
  by_cases e : i = l.length
  · subst e
    unfold riseAt
    have g : (l ++ [x]).getD l.length 0 = x := by simp
    rw [g]
    by_cases z : l.length = 0
    · simp [z, h0, h1]
    · have hlt : l.length - 1 < l.length := by omega
      have g2 : (l ++ [x]).getD (l.length - 1) 0 = l[l.length - 1] := by simp [List.getElem?_append_left hlt, hlt]
      rw [g2]
      have := hx _ (List.getElem_mem hlt)
      simp [h0, h1, this]
  · have hlt : i < l.length := by omega
    have := h i hlt
    unfold riseAt at *
    have g : (l ++ [x]).getD i 0 = l.getD i 0 := by simp [List.getElem?_append_left hlt]
    have hlt2 : i - 1 < l.length := by omega
    have g2 : (l ++ [x]).getD (i - 1) 0 = l.getD (i - 1) 0 := by simp [List.getElem?_append_left hlt2]
    rw [g, g2]
    exact this

theorem unionTo_rising (a b : List Int) : ∀ k : Nat, k ≤ 32 → risingZ (unionTo a b k) = true ∧ ∀ y ∈ unionTo a b k, y < (k : Int) := by
  intro k
  induction k with
  | zero => intro _; exact ⟨rfl, by simp [unionTo]⟩
  | succ k ih =>
    intro hk
    obtain ⟨h1, h2⟩ := ih (by omega)
    rw [unionTo_succ]
    split
    · refine ⟨rise_append _ _ h1 h2 (by omega) (by omega), fun y hy => ?_⟩
      rcases List.mem_append.1 hy with h | h
      · have := h2 y h; omega
      · simp at h; omega
    · rw [List.append_nil]
      exact ⟨h1, fun y hy => by have := h2 y hy; omega⟩

theorem way_comm (s : Int) (x y : GOp) : wayZ s x y = wayZ s y x := by
  unfold wayZ
  by_cases h : x.key = y.key
  · rw [h, Bool.or_comm]
  · have h1 : (x.key == y.key) = false := by simpa using h
    have h2 : (y.key == x.key) = false := by simpa using fun e => h e.symm
    rw [h1, h2]; rfl
theorem conflict_comm (a b : List GOp) (s : Int) : conflictZ a b s = conflictZ b a s := by
  unfold conflictZ
  rw [Bool.eq_iff_iff]
  simp only [List.any_eq_true]
  constructor
  · rintro ⟨x, hx, y, hy, h⟩; exact ⟨y, hy, x, hx, by rw [way_comm]; exact h⟩
  · rintro ⟨x, hx, y, hy, h⟩; exact ⟨y, hy, x, hx, by rw [way_comm]; exact h⟩
theorem conflict_touches (a b : List GOp) (s : Int) (h : conflictZ a b s = true) : touchesZ a s = true ∧ touchesZ b s = true := by
  unfold conflictZ at h
  simp only [List.any_eq_true] at h
  obtain ⟨x, hx, y, hy, h⟩ := h
  unfold wayZ at h
  simp only [Bool.and_eq_true, beq_iff_eq] at h
  unfold touchesZ
  simp only [List.any_eq_true]
  exact ⟨⟨x, hx, by rw [h.2.1]; simp⟩, ⟨y, hy, by rw [← h.1, h.2.1]; simp⟩⟩

theorem txnUnions_walk (w : World) (va : Value) (a : List Int) (ha : RInts (fun b => b < w.heap.size) w va a) (vb : Value) (b : List Int) (hb : RInts (fun b => b < w.heap.size) w vb b) (n : Int) :
    Calls Try.prog 8 #[va, vb, .int .i64 n] w fun e w' => e = .returned (.bool true) ∧ Below w.heap.size w w' := by
  have hu := has_unionTo a b n 32
  have hr : risingZ (unionZ a b) = true := (unionTo_rising a b 32 (by omega)).1
  have hu2 : (hasZ (unionZ a b) n == (decide (0 ≤ n ∧ n < 32) && (hasZ a n || hasZ b n))) = true := by unfold unionZ; rw [hu]; simp
  clear hu
  have HA := Go.Lib.hid ha
  have HB := Go.Lib.hid hb
  have HU := Go.Lib.hid hu2
  clear ha hb hu2
  go_enter Try.func8, Try.ntmps8
  go_wp2_with fail
  refine (union_any _ _ a b _ HA.out HB.out).mono ?_
  rintro e w3 ⟨v3, rfl, hr3, hb3⟩
  have HR3 := Go.Lib.hid hr3
  have HA3 := Go.Lib.hid (HA.out.later hb3)
  have HB3 := Go.Lib.hid (HB.out.later hb3)
  have HW3 := Go.Lib.hid hb3
  clear hr3 hb3
  by_cases h0 : 0 ≤ n
  · by_cases h1 : n < 32
    · have hd : decide (0 ≤ n ∧ n < 32) = true := by simp; omega
      by_cases h2 : hasZ a n = true
      · have HF : Hid ((hasZ (unionZ a b) n == true) = true) := by have := HU.out; rw [hd, h2] at this; exact this
        clear HU hd
        go_wp2_with (first | (go_at_call 30; (with_reducible refine (keepHas_any _ a _ _ HA3.out).mono ?_); rintro e w' ⟨rfl, rfl⟩) | (go_at_call 24; refine (rising_any _ _ _ HR3.out).mono ?_; rintro e w' ⟨rfl, rfl⟩) | (go_at_call 30; (with_reducible refine (keepHas_any _ _ _ _ HR3.out).mono ?_); rintro e w' ⟨rfl, rfl⟩; have hz := HF.out) | (go_at_call 31; refine (keepCounts_any _).mono ?_; rintro e w6 ⟨rfl, hb6⟩))
        go_ret
        exact ⟨rfl, HW3.out.trans (hb6.mono HW3.out.size)⟩
      · have h2 : hasZ a n = false := by simpa using h2
        have HF : Hid ((hasZ (unionZ a b) n == hasZ b n) = true) := by have := HU.out; rw [hd, h2] at this; exact Go.Lib.hid (by simpa using this)
        clear HU hd
        go_wp2_with (first | (go_at_call 30; (with_reducible refine (keepHas_any _ a _ _ HA3.out).mono ?_); rintro e w' ⟨rfl, rfl⟩) | (go_at_call 30; (with_reducible refine (keepHas_any _ b _ _ HB3.out).mono ?_); rintro e w' ⟨rfl, rfl⟩) | (go_at_call 24; refine (rising_any _ _ _ HR3.out).mono ?_; rintro e w' ⟨rfl, rfl⟩) | (go_at_call 30; (with_reducible refine (keepHas_any _ _ _ _ HR3.out).mono ?_); rintro e w' ⟨rfl, rfl⟩; have hz := HF.out) | (go_at_call 31; refine (keepCounts_any _).mono ?_; rintro e w6 ⟨rfl, hb6⟩))
        go_ret
        exact ⟨rfl, HW3.out.trans (hb6.mono HW3.out.size)⟩
    · have hd : decide (0 ≤ n ∧ n < 32) = false := by simp; omega
      have HF : Hid ((hasZ (unionZ a b) n == false) = true) := by have := HU.out; rw [hd] at this; exact this
      clear HU hd
      go_wp2_with (first | (go_at_call 24; refine (rising_any _ _ _ HR3.out).mono ?_; rintro e w' ⟨rfl, rfl⟩) | (go_at_call 30; (with_reducible refine (keepHas_any _ _ _ _ HR3.out).mono ?_); rintro e w' ⟨rfl, rfl⟩; have hz := HF.out) | (go_at_call 31; refine (keepCounts_any _).mono ?_; rintro e w6 ⟨rfl, hb6⟩))
      go_ret
      exact ⟨rfl, HW3.out.trans (hb6.mono HW3.out.size)⟩
  · have hd : decide (0 ≤ n ∧ n < 32) = false := by simp; omega
    have HF : Hid ((hasZ (unionZ a b) n == false) = true) := by have := HU.out; rw [hd] at this; exact this
    clear HU hd
    go_wp2_with (first | (go_at_call 24; refine (rising_any _ _ _ HR3.out).mono ?_; rintro e w' ⟨rfl, rfl⟩) | (go_at_call 30; (with_reducible refine (keepHas_any _ _ _ _ HR3.out).mono ?_); rintro e w' ⟨rfl, rfl⟩; have hz := HF.out) | (go_at_call 31; refine (keepCounts_any _).mono ?_; rintro e w6 ⟨rfl, hb6⟩))
    go_ret
    exact ⟨rfl, HW3.out.trans (hb6.mono HW3.out.size)⟩

theorem txnBoth_walk (w : World) (va : Value) (a : List GOp) (ha : ROps (fun b => b < w.heap.size) w va a) (vb : Value) (b : List GOp) (hb : ROps (fun b => b < w.heap.size) w vb b) (n : Int) :
    Calls Try.prog 9 #[va, vb, .int .i64 n] w fun e w' => e = .returned (.bool true) ∧ Below w.heap.size w w' := by
  have HC := Go.Lib.hid (conflict_comm b a n)
  have HT := Go.Lib.hid (conflict_touches a b n)
  have HA := Go.Lib.hid ha
  have HB := Go.Lib.hid hb
  clear ha hb
  go_enter Try.func9, Try.ntmps9
  go_wp2_with fail
  refine (conflict_any _ _ a b _ _ HA.out HB.out).mono ?_
  rintro e w1 ⟨rfl, hb1⟩
  have HW1 := Go.Lib.hid hb1
  clear hb1
  go_wp2_with fail
  refine (conflict_any _ _ b a _ _ (HB.out.later HW1.out) (HA.out.later HW1.out)).mono ?_
  rintro e w2 ⟨rfl, hb2⟩
  rw [HC.out]
  have HW2 := Go.Lib.hid (HW1.out.trans (hb2.mono HW1.out.size))
  clear hb2 HW1
  cases hc : conflictZ a b n
  · clear HT
    have HC1 := Go.Lib.hid hc
    clear hc
    go_wp2_with fail
    refine (keepCounts_any _).mono ?_
    rintro e w3 ⟨rfl, hb3⟩
    go_wp2_with fail
    go_ret
    exact ⟨rfl, HW2.out.trans (hb3.mono HW2.out.size)⟩
  · obtain ⟨t1, t2⟩ := HT.out hc
    clear HT
    have HC1 := Go.Lib.hid hc
    clear hc
    go_wp2_with fail
    refine (touches_any _ a _ _ (HA.out.later HW2.out)).mono ?_
    rintro e w3 ⟨rfl, hb3⟩
    have HW3 := Go.Lib.hid (HW2.out.trans (hb3.mono HW2.out.size))
    clear hb3
    go_wp2_with fail
    refine (touches_any _ b _ _ (HB.out.later HW3.out)).mono ?_
    rintro e w4 ⟨rfl, hb4⟩
    have HW4 := Go.Lib.hid (HW3.out.trans (hb4.mono HW3.out.size))
    clear hb4
    go_wp2_with fail
    refine (keepCounts_any _).mono ?_
    rintro e w5 ⟨rfl, hb5⟩
    go_wp2_with fail
    go_ret
    exact ⟨rfl, HW4.out.trans (hb5.mono HW4.out.size)⟩

theorem op_kept {g B : Nat} {o : GOp} {w0 w w' : World} (h : w.cell? ⟨g, 0, none⟩ = some (.int .i64 o.kind) ∧ w.cell? ⟨g, 1, none⟩ = some (.int .i64 o.key) ∧ w.cell? ⟨g, 2, none⟩ = some (.int .i64 o.n) ∧ g < w.heap.size ∧ Below B w0 w)
    (hb : Below w.heap.size w w') (hB : B ≤ w0.heap.size) : w'.cell? ⟨g, 0, none⟩ = some (.int .i64 o.kind) ∧ w'.cell? ⟨g, 1, none⟩ = some (.int .i64 o.key) ∧ w'.cell? ⟨g, 2, none⟩ = some (.int .i64 o.n) ∧ g < w'.heap.size ∧ Below B w0 w' := by
  obtain ⟨h0, h1, h2, h3, h4⟩ := h
  have hc : ∀ i, w'.cell? ⟨g, i, none⟩ = w.cell? ⟨g, i, none⟩ := fun i => hb.cell (p := ⟨g, i, none⟩) h3
  exact ⟨by rw [hc]; exact h0, by rw [hc]; exact h1, by rw [hc]; exact h2, Nat.lt_of_lt_of_le h3 hb.size, h4.trans (hb.mono (Nat.le_trans hB h4.size))⟩

theorem names_walk (w : World) : Calls Try.prog 3 #[] w fun e w' => e = .returned (.bool true) ∧ Below w.heap.size w w' := by
  go_enter Try.func3, Try.ntmps3
  go_wp2_with fail
  go_ret
  exact ⟨rfl, Below.refl _ _⟩

set_option maxHeartbeats 1000000 in
theorem txnTells_walk (w : World) (va : Value) (a : List GOp) (ha : ROps (fun b => b < w.heap.size) w va a) (vb : Value) (b : List GOp) (hb : ROps (fun b => b < w.heap.size) w vb b) (s n v : Int) :
    Calls Try.prog 10 #[va, vb, .int .i64 s, .int .i64 n, .int .i64 v] w fun e w' => e = .returned (.bool true) ∧ Below w.heap.size w w' := by
  have h1 : (goodOpsZ a != goodOpsZ a) = false := by simp
  have h2 : (touchesZ a s != touchesZ a s) = false := by simp
  have h3 : (conflictZ a b s != conflictZ a b s) = false := by simp
  have h4 : (shardZ n != shardZ n) = false := by simp
  have h5 : (ofZ n != ofZ n) = false := by simp
  obtain ⟨aa, capa, rfl, hma⟩ := ha.shape
  have HA := Go.Lib.hid ha
  have HB := Go.Lib.hid hb
  clear ha hb
  go_enter Try.func10, Try.ntmps10
  go_wp2_with fail
  refine (goodOps_any _ a _ HA.out).mono ?_
  rintro e w1 ⟨rfl, hb1⟩
  have HW1 := Go.Lib.hid hb1
  clear hb1
  go_wp2_with fail
  refine (isOps_any _ a _ (HA.out.later HW1.out)).mono ?_
  rintro e w2 ⟨rfl, hb2⟩
  have HW2 := Go.Lib.hid (HW1.out.trans (hb2.mono HW1.out.size))
  clear hb2 HW1
  go_wp2_with fail
  refine (touches_any _ a _ _ (HA.out.later HW2.out)).mono ?_
  rintro e w3 ⟨rfl, hb3⟩
  have HW3 := Go.Lib.hid (HW2.out.trans (hb3.mono HW2.out.size))
  clear hb3 HW2
  go_wp2_with fail
  refine (touchesShard_any _ a _ _ (HA.out.later HW3.out)).mono ?_
  rintro e w4 ⟨rfl, hb4⟩
  have HW4 := Go.Lib.hid (HW3.out.trans (hb4.mono HW3.out.size))
  clear hb4 HW3
  go_wp2_with fail
  refine (conflict_any _ _ a b _ _ (HA.out.later HW4.out) (HB.out.later HW4.out)).mono ?_
  rintro e w5 ⟨rfl, hb5⟩
  have HW5 := Go.Lib.hid (HW4.out.trans (hb5.mono HW4.out.size))
  clear hb5 HW4
  go_wp2_with fail
  refine (inWay_any _ _ a b _ _ (HA.out.later HW5.out) (HB.out.later HW5.out)).mono ?_
  rintro e w6 ⟨rfl, hb6⟩
  have HW6 := Go.Lib.hid (HW5.out.trans (hb6.mono HW5.out.size))
  clear hb6 HW5
  go_wp2_with (first | (go_at_call 38; refine (shard_any _ _).mono ?_; rintro e w' ⟨rfl, rfl⟩) | (go_at_call 40; refine (of_any _ _).mono ?_; rintro e w' ⟨rfl, rfl⟩) | (go_at_call 39; refine (shardOf_any _ _).mono ?_; rintro e w' ⟨rfl, rfl⟩) | (go_at_call 41; refine (ofNode_any _ _).mono ?_; rintro e w' ⟨rfl, rfl⟩))
  clear h1 h2 h3 h4 h5
  go_loopw [54] (fun i wr => ∃ k : Nat, k ≤ a.length ∧ i = .int .i64 k ∧ Below w.heap.size w wr) (fun i _ => a.length - (intOf i).toNat)
  case atStart => exact ⟨0, Nat.zero_le _, rfl, HW6.out⟩
  case round =>
    obtain ⟨k, hk, rfl, hb⟩ := hrel
    clear HW6
    by_cases hlt : k < a.length
    · obtain ⟨o, ho⟩ := some_at hlt
      obtain ⟨b, off, rfl, hs, hbs, h0, h1, h2⟩ := (HA.out.later hb).at ho
      have hd : (doZ v o != doZ v o) = false := by simp
      have Hho := Go.Lib.hid ho; clear ho; have Hhb := Go.Lib.hid hb; clear hb
      go_wp2_with fail
      have HB1 := Go.Lib.hid (Hhb.out.alloc Hhb.out.size (.cells #[.int .i64 o.kind, .int .i64 o.key, .int .i64 o.n] 46))
      clear h0 h1 h2 hs hbs
      have K1 : (wr.alloc (.cells #[.int .i64 o.kind, .int .i64 o.key, .int .i64 o.n] 46)).cell? ⟨wr.heap.size, 0, none⟩ = some (.int .i64 o.kind) ∧ (wr.alloc (.cells #[.int .i64 o.kind, .int .i64 o.key, .int .i64 o.n] 46)).cell? ⟨wr.heap.size, 1, none⟩ = some (.int .i64 o.key) ∧ (wr.alloc (.cells #[.int .i64 o.kind, .int .i64 o.key, .int .i64 o.n] 46)).cell? ⟨wr.heap.size, 2, none⟩ = some (.int .i64 o.n) ∧ wr.heap.size < (wr.alloc (.cells #[.int .i64 o.kind, .int .i64 o.key, .int .i64 o.n] 46)).heap.size ∧ Below w.heap.size w (wr.alloc (.cells #[.int .i64 o.kind, .int .i64 o.key, .int .i64 o.n] 46)) := ⟨by go_simp, by go_simp, by go_simp, by simp, HB1.out⟩
      have K0 : (wr.alloc (.cells #[.int .i64 o.kind, .int .i64 o.key, .int .i64 o.n] 46)).drew.cell? ⟨wr.heap.size, 0, none⟩ = some (.int .i64 o.kind) ∧ (wr.alloc (.cells #[.int .i64 o.kind, .int .i64 o.key, .int .i64 o.n] 46)).drew.cell? ⟨wr.heap.size, 1, none⟩ = some (.int .i64 o.key) ∧ (wr.alloc (.cells #[.int .i64 o.kind, .int .i64 o.key, .int .i64 o.n] 46)).drew.cell? ⟨wr.heap.size, 2, none⟩ = some (.int .i64 o.n) ∧ wr.heap.size < (wr.alloc (.cells #[.int .i64 o.kind, .int .i64 o.key, .int .i64 o.n] 46)).drew.heap.size ∧ Below w.heap.size w (wr.alloc (.cells #[.int .i64 o.kind, .int .i64 o.key, .int .i64 o.n] 46)).drew := ⟨K1.1, K1.2.1, K1.2.2.1, K1.2.2.2.1, K1.2.2.2.2.drew⟩
      have HK0 := Go.Lib.hid K1
      have HK1 := Go.Lib.hid K0
      clear K1 K0
      go_region_held3 (fun w' => w'.cell? ⟨wr.heap.size, 0, none⟩ = some (.int .i64 o.kind) ∧ w'.cell? ⟨wr.heap.size, 1, none⟩ = some (.int .i64 o.key) ∧ w'.cell? ⟨wr.heap.size, 2, none⟩ = some (.int .i64 o.n) ∧ wr.heap.size < w'.heap.size ∧ Below w.heap.size w w') (first | exact HK0.out | exact HK1.out | exact HK2.out) (first | (go_at_call 42; refine (do_any v o _).mono ?_; rintro e w' ⟨rfl, hb'⟩; have HK2 := Go.Lib.hid (op_kept HK1.out hb' (Nat.le_refl _)); clear hb') | (go_at_call 43; refine (doOp_any v o _).mono ?_; rintro e w' ⟨rfl, hb'⟩; have HK3 := Go.Lib.hid (op_kept HK2.out hb' (Nat.le_refl _)); clear HK2; have HK2 := HK3; clear HK3 hb'))
      go_wp2_with fail
      go_roundw
      case rel => exact ⟨k + 1, by omega, by go_num, by rename_i h; exact h.2.2.2.2⟩
      case measure => simp [intOf]; omega
    · have Hhb := Go.Lib.hid hb; clear hb
      go_wp2_with fail
      refine (counts_any _).mono ?_
      rintro e w3 ⟨rfl, hb3⟩
      go_wp2_with fail
      go_ret
      exact ⟨rfl, Hhb.out.trans (hb3.mono Hhb.out.size)⟩

end Go.Proofs.Ytnfdgjdnlikepaa
