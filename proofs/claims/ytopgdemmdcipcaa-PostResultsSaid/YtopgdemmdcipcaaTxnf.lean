/- The union of two lists of numbers, by the program and by the reference. -/
import Derived.Test.YtopgdemmdcipcaaTxnb
namespace Go.Proofs.Ytopgdemmdcipcaa
open Go.RowKit

theorem u_ints : Try.prog.underlying 27 = some (.slice 3) := by kernel_rfl
theorem i_int : (Try.prog.info? 3).map (fun i => (i.zero, i.size, i.bytes)) = some (some (.int .i64 0), 1, 8) := by kernel_rfl

def unionTo (a b : List Int) (k : Nat) : List Int := ((List.range k).filter (fun n : Nat => hasZ a n || hasZ b n)).map Int.ofNat
def unionZ (a b : List Int) : List Int := unionTo a b 32
theorem unionTo_succ (a b : List Int) (k : Nat) : unionTo a b (k + 1) = unionTo a b k ++ (if (hasZ a k || hasZ b k) = true then [(k : Int)] else []) := by
  unfold unionTo
  rw [List.range_succ, List.filter_append, List.map_append]
  simp only [List.filter_cons, List.filter_nil]
  split <;> simp
theorem unionTo_len (a b : List Int) (k : Nat) : (unionTo a b k).length ≤ k := by
  unfold unionTo
  rw [List.length_map]
  exact Nat.le_trans (List.length_filter_le _ _) (by simp)

theorem ints_oneCell (l : List Int) : ∀ u ∈ l.map (Value.int .i64), u.oneCell' = true := by
  intro u hu
  obtain ⟨x, _, rfl⟩ := List.mem_map.1 hu
  rfl

theorem one_int (x : Int) : ∀ u ∈ [Value.int .i64 x], u.oneCell' = true := by simp [Value.oneCell']
theorem own_put {l : List Int} {k : Int} {W1 : World} {base : Nat} {v' : Value} (hown : W1.ownsRow base 3 1 v' (l.length + 1) (l.map (Value.int .i64) ++ [.int .i64 k])) :
    W1.ownsRow base 3 1 v' (l ++ [k]).length ((l ++ [k]).map (Value.int .i64)) := by simpa using hown

theorem u_two : Try.prog.underlying 102 = some (.array 2 27) := by kernel_rfl
theorem u_b32 : Try.prog.underlying 61 = some (.array 32 4) := by kernel_rfl
theorem one_ints : oneCellType Try.prog 27 = true := by kernel_rfl
theorem one_bool : oneCellType Try.prog 4 = true := by kernel_rfl

def seenU (a b : List Int) (k : Nat) (j : Int) : Bool := (decide (0 < k) && hasZ a j) || (decide (1 < k) && hasZ b j)
theorem has_snoc (c : List Int) (m : Nat) (x j : Int) (h : c[m]? = some x) : hasZ (c.take (m + 1)) j = (hasZ (c.take m) j || x == j) := by
  unfold hasZ; rw [take_snoc h, List.any_append]; simp

/-- The block of truths at g holds f. -/
def Truths (w : World) (g n : Nat) (t : TypeId) (f : Nat → Bool) : Prop := ∃ cur, w.heap[g]? = some (.cells cur t (0, 0)) ∧ cur.size = n ∧ ∀ j, j < n → cur[j]? = some (.bool (f j))
theorem Truths.cell {w : World} {g n : Nat} {t : TypeId} {f : Nat → Bool} (h : Truths w g n t f) {j : Nat} (hj : j < n) : w.cell? ⟨g, j, none⟩ = some (.bool (f j)) := by
  obtain ⟨cur, hg, _, hc⟩ := h
  rw [cell_of_row _ _ _ _ _ _ hg, hc j hj]
theorem Truths.free {w : World} {g n : Nat} {t : TypeId} {f : Nat → Bool} (h : Truths w g n t f) (j : Nat) : w.frozen? ⟨g, j, none⟩ = false := by
  obtain ⟨cur, hg, _, hc⟩ := h
  exact frozen_of_row _ _ _ _ _ hg
theorem Truths.put {w : World} {g n : Nat} {t : TypeId} {f : Nat → Bool} (h : Truths w g n t f) (i : Nat) (b : Bool) (hi : i < n) (f' : Nat → Bool) (hf : ∀ j, j < n → f' j = if j = i then b else f j) :
    Truths (w.setCell ⟨g, i, none⟩ (.bool b)) g n t f' := by
  obtain ⟨cur, hg, hs, hc⟩ := h
  refine ⟨cur.setIfInBounds i (.bool b), heap_setCell_same _ _ _ _ _ _ hg, by simpa using hs, fun j hj => ?_⟩
  rw [hf j hj]
  by_cases e : j = i
  · subst e
    simp [hs, hj]
  · rw [Array.getElem?_setIfInBounds_ne (by omega), hc j hj, if_neg e]
theorem Truths.later {w w' : World} {g n : Nat} {t : TypeId} {f : Nat → Bool} (h : Truths w g n t f) (hb : w'.heap[g]? = w.heap[g]?) : Truths w' g n t f := by
  obtain ⟨cur, hg, hs, hc⟩ := h
  exact ⟨cur, by rw [hb, hg], hs, hc⟩
theorem Truths.congr {w : World} {g n : Nat} {t : TypeId} {f f' : Nat → Bool} (h : Truths w g n t f) (hf : ∀ j, j < n → f' j = f j) : Truths w g n t f' := by
  obtain ⟨cur, hg, hs, hc⟩ := h
  exact ⟨cur, hg, hs, fun j hj => by rw [hf j hj]; exact hc j hj⟩
theorem Truths.new (w : World) (n : Nat) (t : TypeId) : Truths (w.alloc (.cells (Array.replicate n (.bool false)) t)) w.heap.size n t (fun _ => false) :=
  ⟨_, heap_alloc_new _ _, by simp, fun j hj => by simp [hj]⟩

set_option maxHeartbeats 1000000 in
theorem union_any {S S' : Nat → Prop} (v u : Value) (a b : List Int) (w : World) (hv : RInts S w v a) (hu : RInts S' w u b) :
    Calls Try.prog 46 #[v, u] w (RetInts w (unionZ a b)) := by
  obtain ⟨av, capv, rfl, hmv⟩ := hv.shape
  obtain ⟨au, capu, rfl, hmu⟩ := hu.shape
  have Hhv := Go.Lib.hid hv; clear hv; have Hhu := Go.Lib.hid hu; clear hu
  go_enter Try.func46, Try.ntmps46
  go_wp2_with fail
  go_loopw [7, 9, 16] (fun v7 v9 i wr => ∃ k : Nat, k ≤ 2 ∧ i = .int .i64 k ∧ Truths wr w.heap.size 32 61 (fun j => seenU a b k j) ∧ Below w.heap.size w wr ∧ w.heap.size < wr.heap.size) (fun _ _ i _ => 2 - (intOf i).toNat)
  case atStart => exact ⟨0, Nat.zero_le _, rfl, (Truths.new w 32 61).congr (fun j hj => by simp [seenU]), by (repeat (first | exact Below.refl _ _ | assumption | refine Below.drewN ?_ _ | refine Below.drew ?_ | refine Below.alloc ?_ (by simp <;> omega) _)), by simp⟩
  case round =>
    obtain ⟨k, hk, rfl, htr, hb, hsz⟩ := hrel
    by_cases hlt : k < 2
    · have hpick : ∃ vc c, (#[.slice av a.length capv, .slice au b.length capu] : Array Value)[k]? = some vc ∧ (∃ T : Nat → Prop, RInts T w vc c) ∧ ∀ j, seenU a b (k + 1) j = (seenU a b k j || hasZ c j) := by
        match k, hlt with
        | 0, _ => exact ⟨_, a, rfl, ⟨_, Hhv.out⟩, fun j => by simp [seenU]⟩
        | 1, _ => exact ⟨_, b, rfl, ⟨_, Hhu.out⟩, fun j => by simp [seenU]⟩
      obtain ⟨vc, c, hvc, ⟨T, hc⟩, hnext⟩ := hpick
      have hidx := run_index1 u_two one_ints #[.slice av a.length capv, .slice au b.length capu] k vc hlt hvc
      obtain ⟨aa, cap, rfl, hm⟩ := hc.shape
      have Hhc := Go.Lib.hid hc; clear hc; have Hhnext := Go.Lib.hid hnext; clear hnext; have Hhtr := Go.Lib.hid htr; clear htr; have Hhb := Go.Lib.hid hb; clear hb; have Hhvc := Go.Lib.hid hvc; clear hvc
      obtain ⟨wo, rfl⟩ : ∃ wo : World, wo = wr := ⟨_, rfl⟩
      go_wp2_with fail
      clear hidx
      go_loopw [9, 21] (fun v9 i wr => ∃ m : Nat, m ≤ c.length ∧ i = .int .i64 m ∧ Truths wr w.heap.size 32 61 (fun j => seenU a b k j || hasZ (c.take m) j) ∧ Below w.heap.size w wr ∧ w.heap.size < wr.heap.size) (fun _ i _ => c.length - (intOf i).toNat)
      case atStart => exact ⟨0, Nat.zero_le _, rfl, Hhtr.out.congr (fun j hj => by simp [hasZ]), Hhb.out, hsz⟩
      case round =>
        obtain ⟨m, hmc, rfl, htr2, hb2, hsz2⟩ := hrel
        by_cases hlt2 : m < c.length
        · obtain ⟨x, hx⟩ := some_at hlt2
          obtain ⟨bb, off, rfl, hs, hbs, h0⟩ := (Hhc.out.later hb2).at hx
          have HX := Go.Lib.hid (fun j => has_snoc c m x j hx)
          by_cases hx0 : 0 ≤ x
          · by_cases hx1 : x < 32
            · have hfz := htr2.free x.toNat
              have hcell := htr2.cell (j := x.toNat) (by omega)
              have HT2 := Go.Lib.hid (htr2.put x.toNat true (by omega) (fun j => seenU a b k j || hasZ (c.take (m + 1)) j) (fun j hj => by
                show (seenU a b k j || hasZ (c.take (m + 1)) j) = _
                rw [HX.out]
                by_cases e : j = x.toNat
                · have : (x == (j : Int)) = true := by simp; omega
                  rw [this, if_pos e]; simp
                · have : (x == (j : Int)) = false := by simp; omega
                  rw [this, if_neg e]; simp))
              have HB2 := Go.Lib.hid (hb2.setCell (p := ⟨w.heap.size, x.toNat, none⟩) (by simp) (.bool true))
              have Hhx := Go.Lib.hid hx; clear hx; have Hhtr2 := Go.Lib.hid htr2; clear htr2; have Hhb2 := Go.Lib.hid hb2; clear hb2
              go_wp2_with fail
              go_roundw
              case rel => exact ⟨m + 1, by omega, by go_num, HT2.out, HB2.out, by simpa [World.setCell] using hsz2⟩
              case measure => simp [intOf]; omega
            · have HT2 := Go.Lib.hid (htr2.congr (f' := fun j => seenU a b k j || hasZ (c.take (m + 1)) j) (fun j hj => by
                show (seenU a b k j || hasZ (c.take (m + 1)) j) = _
                rw [HX.out]
                have : (x == (j : Int)) = false := by simp; omega
                rw [this]; simp))
              have Hhx := Go.Lib.hid hx; clear hx; have Hhtr2 := Go.Lib.hid htr2; clear htr2; have Hhb2 := Go.Lib.hid hb2; clear hb2
              go_wp2_with fail
              go_roundw
              case rel => exact ⟨m + 1, by omega, by go_num, HT2.out, Hhb2.out, hsz2⟩
              case measure => simp [intOf]; omega
          · have HT2 := Go.Lib.hid (htr2.congr (f' := fun j => seenU a b k j || hasZ (c.take (m + 1)) j) (fun j hj => by
                show (seenU a b k j || hasZ (c.take (m + 1)) j) = _
                rw [HX.out]
                have : (x == (j : Int)) = false := by simp; omega
                rw [this]; simp))
            have Hhx := Go.Lib.hid hx; clear hx; have Hhtr2 := Go.Lib.hid htr2; clear htr2; have Hhb2 := Go.Lib.hid hb2; clear hb2
            go_wp2_with fail
            go_roundw
            case rel => exact ⟨m + 1, by omega, by go_num, HT2.out, Hhb2.out, hsz2⟩
            case measure => simp [intOf]; omega
        · have hkl : m = c.length := by omega
          subst hkl
          have HT2 := Go.Lib.hid (htr2.congr (f' := fun j => seenU a b (k + 1) j) (fun j hj => by
            show seenU a b (k + 1) j = _
            rw [Hhnext.out, List.take_length]))
          have Hhtr2 := Go.Lib.hid htr2; clear htr2; have Hhb2 := Go.Lib.hid hb2; clear hb2
          go_wp2_with fail
          go_roundw
          case rel => exact ⟨k + 1, by omega, by go_num, HT2.out, Hhb2.out, hsz2⟩
          case measure => simp [intOf]; omega
    · have hkl : k = 2 := by omega
      subst hkl
      obtain ⟨wo, rfl⟩ : ∃ wo : World, wo = wr := ⟨_, rfl⟩
      obtain ⟨cur, hg, hs32, hcur⟩ := htr
      have hcur : ∀ j, j < 32 → cur[j]? = some (.bool (hasZ a j || hasZ b j)) := fun j hj => by rw [hcur j hj]; simp [seenU]
      have hi32 : (Try.prog.info? 61).map (·.size) = some cur.size := by rw [hs32]; kernel_rfl
      have Hhcur := Go.Lib.hid hcur; clear hcur; have Hhb := Go.Lib.hid hb; clear hb
      go_wp2_with (refine wpList_load_row rfl 61 _ rfl w.heap.size rfl 61 cur (0, 0) _ hg u_b32 rfl hi32 ?_)
      clear hg hi32 hs32
      go_loopw [10, 36] (fun v10 i wr => ∃ k : Nat, k ≤ 32 ∧ i = .int .i64 k ∧ wr.ownsRow (w.heap.size + 1) 3 1 v10 (unionTo a b k).length ((unionTo a b k).map (Value.int .i64)) ∧ Below w.heap.size w wr ∧ w.heap.size < wr.heap.size) (fun _ i _ => 32 - (intOf i).toNat)
      case atStart => exact ⟨0, Nat.zero_le _, rfl, ownsRow_nil _ _ _ _, Hhb.out, hsz⟩
      case round =>
        clear Hhb hsz
        obtain ⟨k, hk, rfl, hown, hb, hsz⟩ := hrel
        by_cases hlt : k < 32
        · have HS := Go.Lib.hid (unionTo_succ a b k)
          have hl := unionTo_len a b k
          have hidx := run_index1 u_b32 one_bool cur k _ hlt (Hhcur.out k hlt)
          have Hhown := Go.Lib.hid hown; clear hown; have Hhb := Go.Lib.hid hb; clear hb
          generalize hh : (hasZ a k || hasZ b k) = h at *
          cases h
          · have Hhh := Go.Lib.hid hh; clear hh
            go_wp2_with fail
            go_roundw
            case rel => exact ⟨k + 1, by omega, by go_num, by rw [HS.out]; simpa using Hhown.out, Hhb.out, hsz⟩
            case measure => simp [intOf]; omega
          · have Hhh := Go.Lib.hid hh; clear hh
            go_wp2_with (at_builtin; refine wpList_append_R rfl (.tmp 41) (.tmp 43) 27 rfl (w.heap.size + 1) 3 (.int .i64 0) 1 8 u_ints i_int rfl (by decide) _ _ _ _ _ _ rfl (Hhown.out.alloc _) rfl _ (RRow.one _ _ _ _ (by decide)) (one_int _) (by omega) (by decide) (by have := Hhb.out.size; simp; omega) ?_; intro v' w1 hown1 hg1)
            have HO := Go.Lib.hid (own_put hown1)
            have HB := Go.Lib.hid ((Hhb.out.alloc Hhb.out.size _).grown hg1 (by have := Hhb.out.size; simp; omega) (fun k hk => Nat.le_of_succ_le (Hhown.out.lt k hk).1))
            have hs1 : w.heap.size < w1.heap.size := by have := hg1.size; simp at this; omega
            clear hown1 hg1
            go_wp2_with fail
            go_roundw
            case rel => exact ⟨k + 1, by omega, by go_num, by rw [HS.out]; exact HO.out, HB.out, hs1⟩
            case measure => simp [intOf]; omega
        · have hkl : k = 32 := by omega
          subst hkl
          have hl := unionTo_len a b 32
          have HR := Go.Lib.hid ((RRow.of_own (bytes := 8) hown (by omega)).mono (S' := fun b => w.heap.size ≤ b) fun b h _ => ⟨by omega, rfl⟩)
          have Hhown := Go.Lib.hid hown; clear hown; have Hhb := Go.Lib.hid hb; clear hb
          go_wp2_with fail
          go_ret
          exact ⟨_, rfl, HR.out, Hhb.out⟩

end Go.Proofs.Ytopgdemmdcipcaa
