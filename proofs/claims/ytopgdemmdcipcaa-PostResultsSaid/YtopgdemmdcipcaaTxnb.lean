/- What the walks over lists in package txn, and the references beside them, compute. -/
import Derived.Test.YtopgdemmdcipcaaTxn
namespace Go.Proofs.Ytopgdemmdcipcaa
open Go.RowKit

def touchesZ (l : List GOp) (s : Int) : Bool := l.any fun o => shardZ o.key == s
theorem touches_snoc (l : List GOp) (k : Nat) (o : GOp) (s : Int) (h : l[k]? = some o) : touchesZ (l.take (k + 1)) s = (touchesZ (l.take k) s || shardZ o.key == s) := by
  rw [take_snoc h]; unfold touchesZ; rw [List.any_append]; simp
theorem touches_of (l : List GOp) (k : Nat) (o : GOp) (s : Int) (h : l[k]? = some o) (hs : (shardZ o.key == s) = true) : touchesZ l s = true :=
  List.any_eq_true.2 ⟨o, List.mem_of_getElem? h, hs⟩

theorem touches_any {S : Nat → Prop} (v : Value) (l : List GOp) (s : Int) (w : World) (hv : ROps S w v l) :
    Calls Try.prog 44 #[v, .int .i64 s] w fun e w' => e = .returned (.bool (touchesZ l s)) ∧ Below w.heap.size w w' := by
  obtain ⟨a, cap, rfl, hm⟩ := hv.shape
  have Hhv := Go.Lib.hid hv; clear hv
  go_enter Try.func44, Try.ntmps44
  go_wp2_with fail
  go_loopw [4, 9] (fun v4 i wr => ∃ k : Nat, k ≤ l.length ∧ i = .int .i64 k ∧ v4 = .bool false ∧ touchesZ (l.take k) s = false ∧ Below w.heap.size w wr) (fun _ i _ => l.length - (intOf i).toNat)
  case atStart => exact ⟨0, Nat.zero_le _, rfl, rfl, rfl, Below.refl _ _⟩
  case round =>
    obtain ⟨k, hk, rfl, rfl, ht, hb⟩ := hrel
    by_cases hlt : k < l.length
    · obtain ⟨o, ho⟩ := some_at hlt
      obtain ⟨b, off, rfl, hs, hbs, h0, h1, h2⟩ := (Hhv.out.later hb).at ho
      have HS := Go.Lib.hid (touches_snoc l k o s ho)
      have Hho := Go.Lib.hid ho; clear ho; have Hht := Go.Lib.hid ht; clear ht
      have HB := Go.Lib.hid (hb.alloc hb.size (.cells #[.int .i64 o.kind, .int .i64 o.key, .int .i64 o.n] 78))
      clear hb
      by_cases hx : (shardZ o.key == s) = true
      · go_wp2_with (go_at_call 48; refine (shard_any _ _).mono ?_; rintro e w' ⟨rfl, rfl⟩)
        go_ret
        exact ⟨ret_bool (touches_of l k o s Hho.out hx).symm, HB.out⟩
      · have hx : (shardZ o.key == s) = false := by simpa using hx
        go_wp2_with (go_at_call 48; refine (shard_any _ _).mono ?_; rintro e w' ⟨rfl, rfl⟩)
        go_roundw
        case rel => exact ⟨k + 1, by omega, by go_num, rfl, by rw [HS.out, Hht.out, hx]; rfl, HB.out⟩
        case measure => simp [intOf]; omega
    · have hkl : k = l.length := by omega
      have HT : touchesZ l s = false := by rw [hkl] at ht; simpa using ht
      have HHT := Go.Lib.hid HT; clear HT; have Hhb := Go.Lib.hid hb; clear hb
      clear ht hkl
      go_wp2_with fail
      go_ret
      exact ⟨ret_bool HHT.out.symm, Hhb.out⟩

theorem touchesShard_any {S : Nat → Prop} (v : Value) (l : List GOp) (s : Int) (w : World) (hv : ROps S w v l) :
    Calls Try.prog 56 #[v, .int .i64 s] w fun e w' => e = .returned (.bool (touchesZ l s)) ∧ Below w.heap.size w w' := by
  obtain ⟨a, cap, rfl, hm⟩ := hv.shape
  have Hhv := Go.Lib.hid hv; clear hv
  go_enter Try.func56, Try.ntmps56
  go_wp2_with fail
  go_loopw [5, 10] (fun v5 i wr => ∃ k : Nat, k ≤ l.length ∧ i = .int .i64 k ∧ v5 = .bool (touchesZ (l.take k) s) ∧ Below w.heap.size w wr) (fun _ i _ => l.length - (intOf i).toNat)
  case atStart => exact ⟨0, Nat.zero_le _, rfl, rfl, Below.refl _ _⟩
  case round =>
    obtain ⟨k, hk, rfl, rfl, hb⟩ := hrel
    by_cases hlt : k < l.length
    · obtain ⟨o, ho⟩ := some_at hlt
      obtain ⟨b, off, rfl, hs, hbs, h0, h1, h2⟩ := (Hhv.out.later hb).at ho
      have HS := Go.Lib.hid (touches_snoc l k o s ho)
      have Hho := Go.Lib.hid ho; clear ho
      have HB := Go.Lib.hid (hb.alloc hb.size (.cells #[.int .i64 o.kind, .int .i64 o.key, .int .i64 o.n] 78))
      clear hb
      generalize touchesZ (l.take k) s = tk at *
      cases tk
      · go_wp2_with (go_at_call 76; refine (shardOf_any _ _).mono ?_; rintro e w' ⟨rfl, rfl⟩)
        go_roundw
        case rel => exact ⟨k + 1, by omega, by go_num, by rw [HS.out]; rfl, HB.out⟩
        case measure => simp [intOf]; omega
      · go_wp2_with fail
        go_roundw
        case rel => exact ⟨k + 1, by omega, by go_num, by rw [HS.out]; rfl, HB.out⟩
        case measure => simp [intOf]; omega
    · have hkl : k = l.length := by omega
      subst hkl
      have Hhb := Go.Lib.hid hb; clear hb
      go_wp2_with fail
      go_ret
      exact ⟨ret_bool (by simp), Hhb.out⟩

def allTo (f : Nat → Bool) (n : Nat) : Bool := (List.range n).all f
theorem allTo_succ (f : Nat → Bool) (n : Nat) : allTo f (n + 1) = (allTo f n && f n) := by unfold allTo; rw [List.range_succ, List.all_append]; simp
theorem allTo_iff (f : Nat → Bool) (n : Nat) : allTo f n = true ↔ ∀ i, i < n → f i = true := by unfold allTo; simp
theorem allTo_no {f : Nat → Bool} {k n : Nat} (h : f k = false) (hk : k < n) : allTo f n = false := by
  cases he : allTo f n
  · rfl
  · have := (allTo_iff f n).1 he k hk
    rw [h] at this
    cases this

def riseAt (l : List Int) (i : Nat) : Bool := decide (0 ≤ l.getD i 0) && decide (l.getD i 0 < 32) && (i == 0 || decide (l.getD (i - 1) 0 < l.getD i 0))
def risingZ (l : List Int) : Bool := allTo (riseAt l) l.length
theorem getD_of {α : Type} {l : List α} {k : Nat} {x d : α} (h : l[k]? = some x) : l.getD k d = x := by simp [h]

theorem rising_any {S : Nat → Prop} (v : Value) (l : List Int) (w : World) (hv : RInts S w v l) :
    Calls Try.prog 62 #[v] w fun e w' => e = .returned (.bool (risingZ l)) ∧ w = w' := by
  obtain ⟨a, cap, rfl, hm⟩ := hv.shape
  have Hhv := Go.Lib.hid hv; clear hv
  go_enter Try.func62, Try.ntmps62
  go_wp2_with fail
  go_loop [7] (fun i => ∃ k : Nat, k ≤ l.length ∧ i = .int .i64 k ∧ allTo (riseAt l) k = true) (fun i => l.length - (intOf i).toNat)
  case atStart => exact ⟨0, Nat.zero_le _, rfl, rfl⟩
  case round =>
    obtain ⟨k, hk, rfl, ht⟩ := hrel
    by_cases hlt : k < l.length
    · obtain ⟨x, hx⟩ := some_at hlt
      obtain ⟨y, hy⟩ := some_at (show k - 1 < l.length by omega)
      obtain ⟨b, off, rfl, hs, hbs, h0⟩ := Hhv.out.at hx
      obtain ⟨b1, off1, hab, hs1, hbs1, h1⟩ := Hhv.out.at hy
      simp only [Option.some.injEq, Addr.mk.injEq] at hab
      obtain ⟨rfl, rfl, _⟩ := hab
      have hno : (x < 0 ∨ 32 ≤ x ∨ (0 < k ∧ x ≤ y)) → risingZ l = false := fun h => allTo_no (f := riseAt l) (k := k) (by unfold riseAt; rw [getD_of hx, getD_of hy]; rcases h with h | h | ⟨h, h'⟩ <;> simp <;> omega) hlt
      have hyes : 0 ≤ x → x < 32 → (k = 0 ∨ y < x) → allTo (riseAt l) (k + 1) = true := fun h1 h2 h3 => by rw [allTo_succ, ht]; unfold riseAt; rw [getD_of hx, getD_of hy]; rcases h3 with h3 | h3 <;> simp [h1, h2, h3]
      have Hhno := Go.Lib.hid hno; clear hno; have Hhyes := Go.Lib.hid hyes; clear hyes; have Hht := Go.Lib.hid ht; clear ht; have Hhx := Go.Lib.hid hx; clear hx; have Hhy := Go.Lib.hid hy; clear hy
      by_cases hk0 : k = 0
      · subst hk0
        rw [Nat.add_zero] at h0
        by_cases hx0 : x < 0
        · go_wp2_with fail
          go_ret
          exact ⟨ret_bool (Hhno.out (.inl hx0)).symm, rfl⟩
        · by_cases hx1 : 32 ≤ x
          · go_wp2_with fail
            go_ret
            exact ⟨ret_bool (Hhno.out (.inr (.inl hx1))).symm, rfl⟩
          · go_wp2_with fail
            go_round
            case rel => exact ⟨0 + 1, by omega, by go_num, Hhyes.out (by omega) (by omega) (by omega)⟩
            case measure => simp [intOf]; omega
      · by_cases hx0 : x < 0
        · go_wp2_with fail
          go_ret
          exact ⟨ret_bool (Hhno.out (.inl hx0)).symm, rfl⟩
        · by_cases hx1 : 32 ≤ x
          · go_wp2_with fail
            go_ret
            exact ⟨ret_bool (Hhno.out (.inr (.inl hx1))).symm, rfl⟩
          · by_cases hxy : x ≤ y
            · go_wp2_with fail
              go_ret
              exact ⟨ret_bool (Hhno.out (.inr (.inr ⟨by omega, hxy⟩))).symm, rfl⟩
            · go_wp2_with fail
              go_round
              case rel => exact ⟨k + 1, by omega, by go_num, Hhyes.out (by omega) (by omega) (by omega)⟩
              case measure => simp [intOf]; omega
    · have hkl : k = l.length := by omega
      have HT : risingZ l = true := by rw [hkl] at ht; exact ht
      have HHT := Go.Lib.hid HT; clear HT
      clear ht hkl
      go_wp2_with fail
      go_ret
      exact ⟨ret_bool HHT.out.symm, rfl⟩

theorem isRising_any {S : Nat → Prop} (v : Value) (l : List Int) (w : World) (hv : RInts S w v l) :
    Calls Try.prog 64 #[v] w fun e w' => e = .returned (.bool (risingZ l)) ∧ w = w' := by
  obtain ⟨a, cap, rfl, hm⟩ := hv.shape
  have Hhv := Go.Lib.hid hv; clear hv
  go_enter Try.func64, Try.ntmps64
  go_wp2_with fail
  go_loop [3, 8] (fun last i => ∃ k : Nat, k ≤ l.length ∧ i = .int .i64 k ∧ ∃ p : Int, last = .int .i64 p ∧ -1 ≤ p ∧ (0 < k → p = l.getD (k - 1) 0) ∧ (k = 0 → p = -1) ∧ allTo (riseAt l) k = true) (fun _ i => l.length - (intOf i).toNat)
  case atStart => exact ⟨0, Nat.zero_le _, rfl, -1, rfl, by omega, by omega, by omega, rfl⟩
  case round =>
    obtain ⟨k, hk, rfl, p, rfl, hp1, hp2, hp3, ht⟩ := hrel
    by_cases hlt : k < l.length
    · obtain ⟨x, hx⟩ := some_at hlt
      obtain ⟨b, off, rfl, hs, hbs, h0⟩ := Hhv.out.at hx
      have hno : (x ≤ p ∨ ¬ (0 ≤ x ∧ x < 32)) → risingZ l = false := fun h => allTo_no (f := riseAt l) (k := k) (by
        unfold riseAt; rw [getD_of hx]
        by_cases hk0 : k = 0
        · have := hp3 hk0
          rcases h with h | h <;> simp <;> omega
        · have := hp2 (by omega)
          rw [← this]
          rcases h with h | h <;> simp <;> omega) hlt
      have hyes : p < x → 0 ≤ x → x < 32 → allTo (riseAt l) (k + 1) = true := fun h1 h2 h3 => by
        rw [allTo_succ, ht]; unfold riseAt; rw [getD_of hx]
        by_cases hk0 : k = 0
        · simp [h2, h3, hk0]
        · rw [← hp2 (by omega)]; simp [h1, h2, h3]
      have hxl : x = l.getD (k + 1 - 1) 0 := by simp [hx]
      have Hhno := Go.Lib.hid hno; clear hno; have Hhyes := Go.Lib.hid hyes; clear hyes; have Hht := Go.Lib.hid ht; clear ht; have Hhx := Go.Lib.hid hx; clear hx; have Hhp2 := Go.Lib.hid hp2; clear hp2; have Hhp3 := Go.Lib.hid hp3; clear hp3; have Hhxl := Go.Lib.hid hxl; clear hxl
      by_cases hxp : x ≤ p
      · go_wp2_with (go_at_call 66; refine (isTxn_any _ _).mono ?_; rintro e w' ⟨rfl, rfl⟩)
        go_ret
        exact ⟨ret_bool (Hhno.out (.inl hxp)).symm, rfl⟩
      · by_cases hx0 : 0 ≤ x ∧ x < 32
        · have hd : decide (0 ≤ x ∧ x < 32) = true := by simpa using hx0
          go_wp2_with (go_at_call 66; refine (isTxn_any _ _).mono ?_; rintro e w' ⟨rfl, rfl⟩)
          go_round
          case rel => exact ⟨k + 1, by omega, by go_num, x, rfl, by omega, fun _ => Hhxl.out, by omega, Hhyes.out (by omega) (by omega) (by omega)⟩
          case measure => simp [intOf]; omega
        · have hd : decide (0 ≤ x ∧ x < 32) = false := by simpa using hx0
          have HX0 := Go.Lib.hid hx0
          clear hx0
          go_wp2_with (go_at_call 66; refine (isTxn_any _ _).mono ?_; rintro e w' ⟨rfl, rfl⟩)
          go_ret
          exact ⟨ret_bool (Hhno.out (.inr HX0.out)).symm, rfl⟩
    · have hkl : k = l.length := by omega
      have HT : risingZ l = true := by rw [hkl] at ht; exact ht
      have HHT := Go.Lib.hid HT; clear HT; have Hhp2 := Go.Lib.hid hp2; clear hp2; have Hhp3 := Go.Lib.hid hp3; clear hp3
      clear ht hkl
      go_wp2_with fail
      go_ret
      exact ⟨ret_bool HHT.out.symm, rfl⟩

def sameZ (l m : List Int) : Bool := l.length == m.length && allTo (fun i => l.getD i 0 == m.getD i 0) l.length
theorem sameZ_refl (l : List Int) : sameZ l l = true := by unfold sameZ; simp [allTo]
theorem sameZ_iff (l m : List Int) : sameZ l m = true ↔ l = m := by
  constructor
  · intro h
    unfold sameZ at h
    rw [Bool.and_eq_true, beq_iff_eq, allTo_iff] at h
    refine List.ext_getElem h.1 fun i h1 h2 => ?_
    have := h.2 i h1
    simpa [h1, h2] using this
  · rintro rfl
    exact sameZ_refl l

theorem sameNumbers_any {S S' : Nat → Prop} (v u : Value) (l m : List Int) (w : World) (hv : RInts S w v l) (hu : RInts S' w u m) :
    Calls Try.prog 36 #[v, u] w fun e w' => e = .returned (.bool (sameZ l m)) ∧ ∃ n, w' = w.drewN n := by
  obtain ⟨a, cap, rfl, hm⟩ := hv.shape
  obtain ⟨a2, cap2, rfl, hm2⟩ := hu.shape
  by_cases hlen : l.length = m.length
  · have hb : ((l.length : Int) != (m.length : Int)) = false := by simp [hlen]
    have Hhv := Go.Lib.hid hv; clear hv; have Hhu := Go.Lib.hid hu; clear hu; have Hhlen := Go.Lib.hid hlen; clear hlen
    go_enter Try.func36, Try.ntmps36
    go_wp2_with fail
    go_loopw [13] (fun i wr => ∃ k : Nat, k ≤ l.length ∧ i = .int .i64 k ∧ allTo (fun i => l.getD i 0 == m.getD i 0) k = true ∧ ∃ n, wr = w.drewN n) (fun i _ => l.length - (intOf i).toNat)
    case atStart => exact ⟨0, Nat.zero_le _, rfl, rfl, 0, rfl⟩
    case round =>
      obtain ⟨k, hk, rfl, ht, nd, rfl⟩ := hrel
      by_cases hlt : k < l.length
      · obtain ⟨x, hx⟩ := some_at hlt
        obtain ⟨y, hy⟩ := some_at (show k < m.length by have := Hhlen.out; omega)
        obtain ⟨b, off, rfl, hs, hbs, h0⟩ := Hhv.out.at hx
        obtain ⟨b1, off1, rfl, hs1, hbs1, h1⟩ := Hhu.out.at hy
        have hlt2 : k < m.length := by have := Hhlen.out; omega
        have hno : x ≠ y → sameZ l m = false := fun h => by unfold sameZ; rw [allTo_no (f := fun i => l.getD i 0 == m.getD i 0) (k := k) (by show (l.getD k 0 == m.getD k 0) = false; rw [getD_of hx, getD_of hy]; simpa using h) hlt]; simp
        have hyes : x = y → allTo (fun i => l.getD i 0 == m.getD i 0) (k + 1) = true := fun h => by rw [allTo_succ, ht, getD_of hx, getD_of hy]; simp [h]
        have Hhno := Go.Lib.hid hno; clear hno; have Hhyes := Go.Lib.hid hyes; clear hyes; have Hht := Go.Lib.hid ht; clear ht; have Hhx := Go.Lib.hid hx; clear hx; have Hhy := Go.Lib.hid hy; clear hy
        by_cases hxy : x = y
        · have hd : (x != y) = false := by simp [hxy]
          have Hhxy := Go.Lib.hid hxy; clear hxy
          go_wp2_with fail
          go_quiet (fail)
          go_wp2_with fail
          go_roundw
          case rel => exact ⟨k + 1, by omega, by go_num, Hhyes.out Hhxy.out, (by first | exact ⟨_, rfl⟩ | exact ⟨_, drewN_drewN _ _ _⟩)⟩
          case measure => simp [intOf]; omega
        · have hd : (x != y) = true := by simp [hxy]
          have Hhxy := Go.Lib.hid hxy; clear hxy
          go_wp2_with fail
          go_quiet (fail)
          go_wp2_with fail
          go_ret
          exact ⟨ret_bool (Hhno.out Hhxy.out).symm, (by first | exact ⟨_, rfl⟩ | exact ⟨_, drewN_drewN _ _ _⟩)⟩
      · have hkl : k = l.length := by omega
        have HT : sameZ l m = true := by rw [hkl] at ht; unfold sameZ; rw [ht]; simp [Hhlen.out]
        have HHT := Go.Lib.hid HT; clear HT
        clear ht hkl
        go_wp2_with fail
        go_ret
        exact ⟨ret_bool HHT.out.symm, _, rfl⟩
  · have hb : ((l.length : Int) != (m.length : Int)) = true := by simp; omega
    have hr : sameZ l m = false := by unfold sameZ; simp [hlen]
    have Hhv := Go.Lib.hid hv; clear hv; have Hhu := Go.Lib.hid hu; clear hu; have Hhlen := Go.Lib.hid hlen; clear hlen; have Hhr := Go.Lib.hid hr; clear hr
    go_enter Try.func36, Try.ntmps36
    go_wp2_with fail
    go_ret
    exact ⟨ret_bool Hhr.out.symm, 0, rfl⟩

end Go.Proofs.Ytopgdemmdcipcaa
