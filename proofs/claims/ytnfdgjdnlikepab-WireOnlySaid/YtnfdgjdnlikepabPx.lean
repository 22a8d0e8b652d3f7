/- What is read of bytes as a frame: the program's Decode. -/
import Derived.Test.YtnfdgjdnlikepabEr
import Derived.Test.YtnfdgjdnlikepabPc
namespace Go.Proofs.Ytnfdgjdnlikepab
open Go.RowKit
open Rep (rep)

/-! Texts ats lists of bytes. -/
def byL (s : ByteArray) : List Int := s.data.toList.map fun b => (b.toNat : Int)
theorem byL_len (s : ByteArray) : (byL s).length = s.size := by
  unfold byL
  rw [List.length_map]
  rfl
theorem byL_range {s : ByteArray} {c : Int} (h : c ∈ byL s) : 0 ≤ c ∧ c < 256 := by
  unfold byL at h
  obtain ⟨b, _, rfl⟩ := List.mem_map.1 h
  have := b.toNat_lt
  omega
theorem byL_idx (s : ByteArray) (k : Nat) : idxS s (k : Int) = (byL s)[k]? := by
  unfold idxS byL
  rw [if_pos (Int.natCast_nonneg k), List.getElem?_map]
  have e : ((k : Int)).toNat = k := rfl
  rw [e]
  by_cases hk : k < s.size
  · have h2 : k < s.data.toList.length := hk
    rw [List.getElem?_eq_getElem h2]
    have : s[k]? = some s[k] := getElem?_pos s k hk
    rw [this]
    rfl
  · have h2 : s.data.toList.length ≤ k := by have : s.data.toList.length = s.size := rfl; omega
    rw [List.getElem?_eq_none h2]
    have : s[k]? = none := getElem?_neg s k hk
    rw [this]
theorem byL_cut {s : ByteArray} {k : Nat} (hk : k ≤ s.size) : ∃ s', cutB s (some (k : Int)) none = some s' ∧ byL s' = (byL s).drop k := by
  unfold cutB cutOk
  simp only [Option.getD_some, Option.getD_none]
  rw [if_pos (by omega)]
  refine ⟨_, rfl, ?_⟩
  unfold byL
  rw [Go.Lib.extract_data, ← List.map_drop]
  congr 1
  have e : ((s.size : Int)).toNat = s.size := rfl
  have e2 : ((k : Int)).toNat = k := rfl
  simp only [e, e2]
  refine List.take_of_length_le ?_
  have : s.data.toList.length = s.size := rfl
  rw [List.length_drop]
  omega
theorem byL_empty {s : ByteArray} : (s.toList == (⟨#[]⟩ : ByteArray).toList) = (byL s).isEmpty := by
  rw [ByteArray.toList_eq, ByteArray.toList_eq, Bool.eq_iff_iff]
  unfold byL
  simp

/-! What bytes say. -/
def sixV (a b c d e f : Int) : Int := ((((a * 256 + b) * 256 + c) * 256 + d) * 256 + e) * 256 + f - 140737488355328
def pOps : Nat → List Int → Option (List GOp × List Int)
  | 0, l => some ([], l)
  | n + 1, k :: y :: a :: b :: c :: d :: e :: f :: t => (pOps n t).map fun p => (⟨k, y, sixV a b c d e f⟩ :: p.1, p.2)
  | _ + 1, _ => none
def pDeps (n : Nat) (l : List Int) : Option (List Int × List Int) := if n ≤ l.length then some (l.take n, l.drop n) else none
def pAts : Nat → List Int → Option (List Int × List Int × List Int)
  | 0, l => some ([], [], l)
  | n + 1, k :: a :: b :: c :: d :: e :: f :: t => (pAts n t).map fun p => (k :: p.1, sixV a b c d e f :: p.2.1, p.2.2)
  | _ + 1, _ => none
def pTail (kd nd id : Int) (os : List GOp) (ds : List Int) : List Int → Option (GFrame × List Int)
  | k :: u => (pAts k.toNat u).map fun z => (⟨kd, nd, id, os, ds, z.1, z.2.1⟩, z.2.2)
  | [] => none
def pRest (kd nd id : Int) (os : List GOp) : List Int → Option (GFrame × List Int)
  | m :: r => (pDeps m.toNat r).bind fun q => pTail kd nd id os q.1 q.2
  | [] => none
/-- A frame in front, and what is left. -/
def parseR : List Int → Option (GFrame × List Int)
  | kd :: nd :: id :: no :: t => (pOps no.toNat t).bind fun p => pRest kd nd id p.1 p.2
  | _ => none
def noF : GFrame := ⟨0, 0, 0, [], [], [], []⟩
def finZ : Option (GFrame × List Int) → GFrame × Int
  | some (f, []) => bif frameZ f == 0 then (f, 0) else (noF, 1)
  | _ => (noF, 1)
def decZ (l : List Int) : GFrame × Int := finZ (parseR l)

/-! The reader. -/
structure Rd8 (x : GReader) (l : List Int) : Prop where
  s : byL x.s = l
  ok : x.bad = false
  small : x.s.size ≤ 140737488351232
def Bad8 (x : GReader) : Prop := x.bad = true ∧ x.s.size ≤ 140737488351232

theorem rByte_go {fu : Nat} {x : GReader} {c : Int} {t : List Int} (h : Rd8 x (c :: t)) : ∃ x', rByteD fu x = some (c, x') ∧ Rd8 x' t := by
  have hlen := byL_len x.s
  rw [h.s, List.length_cons] at hlen
  obtain ⟨s', h1, h2⟩ := byL_cut (s := x.s) (k := 1) (by omega)
  have h1 : cutB x.s (some 1) none = some s' := h1
  have hs' := byL_len s'
  rw [h2, List.length_drop, byL_len] at hs'
  have hsm := h.small
  have hi : idxS x.s 0 = some c := by
    have := byL_idx x.s 0
    rw [h.s] at this
    exact this
  have hc := byL_range (s := x.s) (c := c) (by rw [h.s]; exact List.mem_cons_self)
  refine ⟨{ x with s := s' }, ?_, ⟨by rw [h2, h.s]; rfl, h.ok, by show s'.size ≤ _; omega⟩⟩
  unfold rByteD
  rw [byL_empty, h.s, bif_f (by rfl), hi, some_bind, h1, some_bind, chkS_ok (by omega), some_bind, some_bind, wr64 (by omega) (by omega)]
theorem rByte_end {fu : Nat} {x : GReader} (h : Rd8 x []) : ∃ x', rByteD fu x = some (0, x') ∧ Bad8 x' := by
  refine ⟨{ x with bad := true }, ?_, rfl, h.small⟩
  unfold rByteD
  rw [byL_empty, h.s, bif_t (by rfl), some_bind]
theorem rByte_bad {fu : Nat} {x : GReader} (h : Bad8 x) : ∃ v x', rByteD fu x = some (v, x') ∧ Bad8 x' := by
  cases hl : byL x.s with
  | nil =>
    refine ⟨0, { x with bad := true }, ?_, rfl, h.2⟩
    unfold rByteD
    rw [byL_empty, hl, bif_t (by rfl), some_bind]
  | cons c t =>
    have hlen := byL_len x.s
    rw [hl, List.length_cons] at hlen
    obtain ⟨s', h1, h2⟩ := byL_cut (s := x.s) (k := 1) (by omega)
    have h1 : cutB x.s (some 1) none = some s' := h1
    have hs' := byL_len s'
    rw [h2, List.length_drop, byL_len] at hs'
    have hsm := h.2
    have hi : idxS x.s 0 = some c := by
      have := byL_idx x.s 0
      rw [hl] at this
      exact this
    refine ⟨IntKind.wrap .i64 c, { x with s := s' }, ?_, h.1, by show s'.size ≤ _; omega⟩
    unfold rByteD
    rw [byL_empty, hl, bif_f (by rfl), hi, some_bind, h1, some_bind, chkS_ok (by omega), some_bind, some_bind]

/-- Whichever: a byte, or none. -/
theorem orI_byte {y c : Int} (h0 : 0 ≤ y) (h1 : y < 1099511627776) (hc0 : 0 ≤ c) (hc1 : c < 256) : orI .i64 (IntKind.wrap .i64 (y * 2 ^ (min (Int.toNat 8) (IntKind.bits .i64)))) c = y * 256 + c := by
  have e : (2 : Int) ^ (min (Int.toNat 8) (IntKind.bits .i64)) = 256 := by decide
  rw [e, wr64 (by omega) (by omega)]
  obtain ⟨a, rfl⟩ := Int.eq_ofNat_of_zero_le h0
  obtain ⟨b, rfl⟩ := Int.eq_ofNat_of_zero_le hc0
  exact or_bytes a b (by omega) (by omega)
theorem rNumber_l1_bad {fu : Nat} : ∀ (n m : Nat) (x : GReader) (y : Int) (k : Int), (6 - k).toNat = m → 0 ≤ k → m < n → Bad8 x → ∃ v x', rNumber_l1 fu n x y k = some (v, x') ∧ Bad8 x'
  | 0, m, x, y, k, _, _, h, _ => absurd h (by omega)
  | n + 1, m, x, y, k, hm, hk, hn, hx => by
    rw [rNumber_l1]
    by_cases h : k < 6
    · obtain ⟨v, x', h1, h2⟩ := rByte_bad (fu := fu) hx
      rw [bif_t (dec_t h), h1, some_bind, wr64 (x := k + 1) (by omega) (by omega)]
      exact rNumber_l1_bad n (m - 1) x' _ (k + 1) (by omega) (by omega) (by omega) h2
    · rw [bif_f (dec_f h)]
      exact ⟨_, x, rfl, hx⟩
theorem rNumberD_bad {fu : Nat} (hf : 8 ≤ fu) {x : GReader} (hx : Bad8 x) : ∃ v x', rNumberD fu x = some (v, x') ∧ Bad8 x' := rNumber_l1_bad fu 6 x 0 0 rfl (by omega) (by omega) hx
theorem rNumber_step {fu n : Nat} {x : GReader} {c : Int} {t : List Int} (h : Rd8 x (c :: t)) {y k : Int} (hk : k < 6) (hk0 : 0 ≤ k) (h0 : 0 ≤ y) (h1 : y < 1099511627776) : ∃ x', rNumber_l1 fu (n + 1) x y k = rNumber_l1 fu n x' (y * 256 + c) (k + 1) ∧ Rd8 x' t := by
  obtain ⟨x', h2, h3⟩ := rByte_go (fu := fu) h
  have hc := byL_range (s := x.s) (c := c) (by rw [h.s]; exact List.mem_cons_self)
  refine ⟨x', ?_, h3⟩
  rw [rNumber_l1, bif_t (dec_t hk), h2, some_bind, orI_byte h0 h1 hc.1 hc.2, wr64 (x := k + 1) (by omega) (by omega)]
theorem rNumberD_go {fu : Nat} (hf : 8 ≤ fu) {x : GReader} {a b c d e f : Int} {t : List Int} (h : Rd8 x (a :: b :: c :: d :: e :: f :: t)) : ∃ x', rNumberD fu x = some (sixV a b c d e f, x') ∧ Rd8 x' t := by
  have hr : ∀ z ∈ [a, b, c, d, e, f], 0 ≤ z ∧ z < 256 := fun z hz => byL_range (s := x.s) (by rw [h.s]; simp at hz ⊢; rcases hz with rfl | rfl | rfl | rfl | rfl | rfl <;> simp)
  have ha := hr a (by simp)
  have hb := hr b (by simp)
  have hc := hr c (by simp)
  have hd := hr d (by simp)
  have he := hr e (by simp)
  have hff := hr f (by simp)
  obtain ⟨n, rfl⟩ : ∃ n, fu = n + 7 := ⟨fu - 7, by omega⟩
  obtain ⟨x1, e1, r1⟩ := rNumber_step (fu := n + 7) (n := n + 6) h (y := 0) (k := 0) (by omega) (by omega) (by omega) (by omega)
  obtain ⟨x2, e2, r2⟩ := rNumber_step (fu := n + 7) (n := n + 5) r1 (y := 0 * 256 + a) (k := 0 + 1) (by omega) (by omega) (by omega) (by omega)
  obtain ⟨x3, e3, r3⟩ := rNumber_step (fu := n + 7) (n := n + 4) r2 (y := (0 * 256 + a) * 256 + b) (k := 0 + 1 + 1) (by omega) (by omega) (by omega) (by omega)
  obtain ⟨x4, e4, r4⟩ := rNumber_step (fu := n + 7) (n := n + 3) r3 (y := ((0 * 256 + a) * 256 + b) * 256 + c) (k := 0 + 1 + 1 + 1) (by omega) (by omega) (by omega) (by omega)
  obtain ⟨x5, e5, r5⟩ := rNumber_step (fu := n + 7) (n := n + 2) r4 (y := (((0 * 256 + a) * 256 + b) * 256 + c) * 256 + d) (k := 0 + 1 + 1 + 1 + 1) (by omega) (by omega) (by omega) (by omega)
  obtain ⟨x6, e6, r6⟩ := rNumber_step (fu := n + 7) (n := n + 1) r5 (y := ((((0 * 256 + a) * 256 + b) * 256 + c) * 256 + d) * 256 + e) (k := 0 + 1 + 1 + 1 + 1 + 1) (by omega) (by omega) (by omega) (by omega)
  refine ⟨x6, ?_, r6⟩
  unfold rNumberD
  rw [e1, e2, e3, e4, e5, e6, rNumber_l1, bif_f (by rfl), wr64 (by omega) (by omega)]
  unfold sixV
  rw [Int.zero_mul, Int.zero_add]
theorem rNumber_l1_short {fu : Nat} : ∀ (t : List Int) (n : Nat) (x : GReader) (y k : Int), Rd8 x t → (t.length : Int) + k < 6 → 0 ≤ k → (6 - k).toNat < n → ∃ v x', rNumber_l1 fu n x y k = some (v, x') ∧ Bad8 x'
  | _, 0, x, y, k, _, _, _, h => absurd h (by omega)
  | [], n + 1, x, y, k, hx, hs, hk, hn => by
    obtain ⟨x', h1, h2⟩ := rByte_end (fu := fu) hx
    simp at hs
    rw [rNumber_l1, bif_t (dec_t hs), h1, some_bind, wr64 (x := k + 1) (by omega) (by omega)]
    exact rNumber_l1_bad n (6 - (k + 1)).toNat x' _ (k + 1) rfl (by omega) (by omega) h2
  | c :: t, n + 1, x, y, k, hx, hs, hk, hn => by
    obtain ⟨x', h1, h2⟩ := rByte_go (fu := fu) hx
    simp at hs
    rw [rNumber_l1, bif_t (dec_t (by omega)), h1, some_bind, wr64 (x := k + 1) (by omega) (by omega)]
    exact rNumber_l1_short t n x' _ (k + 1) h2 (by omega) (by omega) (by omega)
theorem rNumberD_short {fu : Nat} (hf : 8 ≤ fu) {x : GReader} {t : List Int} (h : Rd8 x t) (hs : t.length < 6) : ∃ v x', rNumberD fu x = some (v, x') ∧ Bad8 x' := rNumber_l1_short t fu x 0 0 h (by omega) (by omega) (by omega)

/-! The loops. Once it is bad, it is no frame. -/
section
variable {fu : Nat}
theorem dec_l3_bad {n : Nat} {x : GReader} {d : GFrame} {y : Int} (hx : Bad8 x) : decode_l3 fu (n + 1) x d y = some (noF, 1) := by
  rw [decode_l3]
  unfold decode_j6 decode_j8
  rw [hx.1]
  cases decide (y > 0) <;> rfl
theorem dec_l2_bad {n : Nat} (hf : 8 ≤ fu) {x : GReader} {d : GFrame} {y : Int} (hx : Bad8 x) : decode_l2 fu (n + 1) x d y = some (noF, 1) := by
  obtain ⟨v, x', h1, h2⟩ := rByte_bad (fu := fu) hx
  obtain ⟨m, rfl⟩ : ∃ m, fu = m + 1 := ⟨fu - 1, by omega⟩
  have h3 := dec_l3_bad (fu := m + 1) (n := m) (d := d) (y := v) h2
  rw [decode_l2]
  unfold decode_j4
  rw [hx.1]
  cases decide (y > 0)
  · simp only [cond_false]
    rw [h1, some_bind]; exact h3
  · simp only [cond_true, Bool.not_true, cond_false]
    rw [h1, some_bind]; exact h3
theorem dec_l1_bad {n : Nat} (hf : 8 ≤ fu) {x : GReader} {d : GFrame} {y : Int} (hx : Bad8 x) : decode_l1 fu (n + 1) x d y = some (noF, 1) := by
  obtain ⟨v, x', h1, h2⟩ := rByte_bad (fu := fu) hx
  obtain ⟨m, rfl⟩ : ∃ m, fu = m + 1 := ⟨fu - 1, by omega⟩
  have h3 := dec_l2_bad (fu := m + 1) (n := m) hf (d := d) (y := v) h2
  rw [decode_l1]
  unfold decode_j2
  rw [hx.1]
  cases decide (y > 0)
  · simp only [cond_false]
    rw [h1, some_bind]; exact h3
  · simp only [cond_true, Bool.not_true, cond_false]
    rw [h1, some_bind]; exact h3

theorem dec_end {x : GReader} {l : List Int} (hx : Rd8 x l) {n : Nat} {d : GFrame} {y : Int} (hy : ¬ y > 0) : decode_l3 fu (n + 1) x d y = some (finZ (some (d, l))) := by
  rw [decode_l3, bif_f (dec_f hy)]
  unfold decode_j6 decode_j8 decode_j7
  rw [bif_f rfl, hx.ok, bif_f rfl, byL_empty, hx.s]
  cases l with
  | nil =>
    rw [bif_f (by rfl), some_bind]
    have e0 : finZ (some (d, [])) = bif frameZ d == 0 then (d, 0) else (noF, 1) := rfl
    rw [e0]
    by_cases h : frameZ d = 0
    · rw [h]; rfl
    · have e1 : (frameZ d != 0) = true := by simp [h]
      have e2 : (frameZ d == 0) = false := by simp [h]
      rw [e1, e2]; rfl
  | cons c t => rfl
theorem dec_l3_eq (hf : 12 ≤ fu) : ∀ (m n : Nat) (x : GReader) (l : List Int) (d : GFrame), m < n → m < 256 → d.at_.length + m ≤ 300 → d.vals.length + m ≤ 300 → Rd8 x l →
    decode_l3 fu n x d m = some (finZ ((pAts m l).map fun z => ({ d with at_ := d.at_ ++ z.1, vals := d.vals ++ z.2.1 }, z.2.2)))
  | m, 0, _, _, _, h, _, _, _, _ => absurd h (by omega)
  | 0, n + 1, x, l, d, _, _, _, _, hx => by
    rw [dec_end hx (by omega), pAts]
    have e : ({ d with at_ := d.at_ ++ [], vals := d.vals ++ [] } : GFrame) = d := by simp
    simp only [Option.map_some]
    rw [e]
  | m + 1, n + 1, x, l, d, hn, hm, ha, hv, hx => by
    have hy : (((m + 1 : Nat) : Int)) > 0 := by omega
    have e1 : IntKind.wrap .i64 (((m + 1 : Nat) : Int) - 1) = (m : Int) := by rw [wr64 (by omega) (by omega)]; omega
    rw [decode_l3, bif_t (dec_t hy)]
    unfold decode_j6 decode_j5
    rw [hx.ok, bif_t (c := !false) rfl]
    cases l with
    | nil =>
      obtain ⟨x', h1, h2⟩ := rByte_end (fu := fu) hx
      obtain ⟨v, x2, h3, h4⟩ := rNumberD_bad (fu := fu) (by omega) h2
      simp only [h1, h3, some_bind]
      rw [app_ok (by have : Rep.bytes Int = 8 := rfl; rw [this]; simp; omega), some_bind, app_ok (by have : Rep.bytes Int = 8 := rfl; rw [this]; simp; omega), some_bind, e1]
      obtain ⟨n, rfl⟩ : ∃ q, n = q + 1 := ⟨n - 1, by omega⟩
      rw [dec_l3_bad h4]
      rfl
    | cons k t =>
      obtain ⟨x', h1, h2⟩ := rByte_go (fu := fu) hx
      by_cases h6 : t.length < 6
      · obtain ⟨v, x2, h3, h4⟩ := rNumberD_short (fu := fu) (by omega) h2 h6
        simp only [h1, h3, some_bind]
        rw [app_ok (by have : Rep.bytes Int = 8 := rfl; rw [this]; simp; omega), some_bind, app_ok (by have : Rep.bytes Int = 8 := rfl; rw [this]; simp; omega), some_bind, e1]
        obtain ⟨n, rfl⟩ : ∃ q, n = q + 1 := ⟨n - 1, by omega⟩
        rw [dec_l3_bad h4]
        have : pAts (m + 1) (k :: t) = none := by
          match t, h6 with
          | [], _ => rfl
          | [_], _ => rfl
          | [_, _], _ => rfl
          | [_, _, _], _ => rfl
          | [_, _, _, _], _ => rfl
          | [_, _, _, _, _], _ => rfl
          | _ :: _ :: _ :: _ :: _ :: _ :: _, h => simp at h; omega
        rw [this]
        rfl
      · obtain ⟨a, b, c, e, f, g, u, rfl⟩ : ∃ a b c e f g u, t = a :: b :: c :: e :: f :: g :: u := by
          match t, h6 with
          | [], h => simp at h
          | [_], h => simp at h
          | [_, _], h => simp at h
          | [_, _, _], h => simp at h
          | [_, _, _, _], h => simp at h
          | [_, _, _, _, _], h => simp at h
          | a :: b :: c :: e :: f :: g :: u, _ => exact ⟨a, b, c, e, f, g, u, rfl⟩
        obtain ⟨x2, h3, h4⟩ := rNumberD_go (fu := fu) (by omega) h2
        simp only [h1, h3, some_bind]
        rw [app_ok (by have : Rep.bytes Int = 8 := rfl; rw [this]; simp; omega), some_bind, app_ok (by have : Rep.bytes Int = 8 := rfl; rw [this]; simp; omega), some_bind, e1]
        rw [dec_l3_eq hf m n x2 u { d with at_ := d.at_ ++ [k], vals := d.vals ++ [sixV a b c e f g] } (by omega) (by omega) (by simp; omega) (by simp; omega) h4, pAts]
        cases hp : pAts m u with
        | none => rfl
        | some p => simp [List.append_assoc]
theorem dec_l2_eq (hf : 300 ≤ fu) : ∀ (m n : Nat) (x : GReader) (l : List Int) (d : GFrame), m < n → m < 256 → d.deps.length + m ≤ 300 → d.at_ = [] → d.vals = [] → Rd8 x l → (∀ c ∈ l, 0 ≤ c ∧ c < 256) →
    decode_l2 fu n x d m = some (finZ ((pDeps m l).bind fun q => pTail d.kind d.node d.id d.ops (d.deps ++ q.1) q.2))
  | m, 0, _, _, _, h, _, _, _, _, _, _ => absurd h (by omega)
  | 0, n + 1, x, l, d, _, _, _, ha, hv, hx, hr => by
    rw [decode_l2, bif_f (dec_f (by omega))]
    unfold decode_j4
    rw [bif_f rfl]
    cases l with
    | nil =>
      obtain ⟨x', h1, h2⟩ := rByte_end (fu := fu) hx
      obtain ⟨q, rfl⟩ : ∃ q, fu = q + 1 := ⟨fu - 1, by omega⟩
      rw [h1, some_bind]
      simp only
      rw [dec_l3_bad h2]
      rfl
    | cons k u =>
      obtain ⟨x', h1, h2⟩ := rByte_go (fu := fu) hx
      have hk := hr k List.mem_cons_self
      rw [h1, some_bind]
      simp only
      have e : k = ((k.toNat : Nat) : Int) := by omega
      have h3 := dec_l3_eq (fu := fu) (by omega) k.toNat fu x' u d (by omega) (by omega) (by rw [ha]; simp; omega) (by rw [hv]; simp; omega) h2
      rw [← e] at h3
      rw [h3, ha, hv]
      simp [pDeps, pTail]
  | m + 1, n + 1, x, l, d, hn, hm, hd, ha, hv, hx, hr => by
    have hy : (((m + 1 : Nat) : Int)) > 0 := by omega
    have e1 : IntKind.wrap .i64 (((m + 1 : Nat) : Int) - 1) = (m : Int) := by rw [wr64 (by omega) (by omega)]; omega
    rw [decode_l2, bif_t (dec_t hy)]
    unfold decode_j4 decode_j3
    rw [hx.ok, bif_t (c := !false) rfl]
    cases l with
    | nil =>
      obtain ⟨x', h1, h2⟩ := rByte_end (fu := fu) hx
      simp only [h1, some_bind]
      rw [app_ok (by have : Rep.bytes Int = 8 := rfl; rw [this]; simp; omega), some_bind, e1]
      obtain ⟨n, rfl⟩ : ∃ q, n = q + 1 := ⟨n - 1, by omega⟩
      rw [dec_l2_bad (by omega) h2]
      rfl
    | cons k t =>
      obtain ⟨x', h1, h2⟩ := rByte_go (fu := fu) hx
      simp only [h1, some_bind]
      rw [app_ok (by have : Rep.bytes Int = 8 := rfl; rw [this]; simp; omega), some_bind, e1]
      rw [dec_l2_eq hf m n x' t { d with deps := d.deps ++ [k] } (by omega) (by omega) (by simp; omega) ha hv h2 (fun c hc => hr c (List.mem_cons_of_mem _ hc))]
      unfold pDeps
      by_cases hle : m ≤ t.length
      · rw [if_pos hle, if_pos (show m + 1 ≤ (k :: t).length by simp; exact hle)]
        simp only [List.take_succ_cons, List.drop_succ_cons, List.append_assoc, List.cons_append, List.nil_append, Option.bind_some]
      · rw [if_neg hle, if_neg (show ¬ m + 1 ≤ (k :: t).length by simp; omega)]
        rfl
theorem pOps_short {m : Nat} {t : List Int} (h : t.length < 8) : pOps (m + 1) t = none := by
  match t, h with
  | [], _ => rfl
  | [_], _ => rfl
  | [_, _], _ => rfl
  | [_, _, _], _ => rfl
  | [_, _, _, _], _ => rfl
  | [_, _, _, _, _], _ => rfl
  | [_, _, _, _, _, _], _ => rfl
  | [_, _, _, _, _, _, _], _ => rfl
  | _ :: _ :: _ :: _ :: _ :: _ :: _ :: _ :: _, h => simp at h; omega
theorem eight_of {t : List Int} (h : ¬ t.length < 8) : ∃ k y a b c d e f u, t = k :: y :: a :: b :: c :: d :: e :: f :: u := by
  match t, h with
  | [], h => simp at h
  | [_], h => simp at h
  | [_, _], h => simp at h
  | [_, _, _], h => simp at h
  | [_, _, _, _], h => simp at h
  | [_, _, _, _, _], h => simp at h
  | [_, _, _, _, _, _], h => simp at h
  | [_, _, _, _, _, _, _], h => simp at h
  | k :: y :: a :: b :: c :: d :: e :: f :: u, _ => exact ⟨k, y, a, b, c, d, e, f, u, rfl⟩
theorem dec_l1_eq (hf : 300 ≤ fu) : ∀ (m n : Nat) (x : GReader) (l : List Int) (d : GFrame), m < n → m < 256 → d.ops.length + m ≤ 300 → d.deps = [] → d.at_ = [] → d.vals = [] → Rd8 x l → (∀ c ∈ l, 0 ≤ c ∧ c < 256) →
    decode_l1 fu n x d m = some (finZ ((pOps m l).bind fun p => pRest d.kind d.node d.id (d.ops ++ p.1) p.2))
  | m, 0, _, _, _, h, _, _, _, _, _, _, _ => absurd h (by omega)
  | 0, n + 1, x, l, d, _, _, _, hdd, ha, hv, hx, hr => by
    rw [decode_l1, bif_f (dec_f (by omega))]
    unfold decode_j2
    rw [bif_f rfl, pOps]
    simp only [Option.bind_some, List.append_nil]
    cases l with
    | nil =>
      obtain ⟨x', h1, h2⟩ := rByte_end (fu := fu) hx
      obtain ⟨q, rfl⟩ : ∃ q, fu = q + 1 := ⟨fu - 1, by omega⟩
      rw [h1, some_bind]
      simp only
      rw [dec_l2_bad (by omega) h2]
      rfl
    | cons k u =>
      obtain ⟨x', h1, h2⟩ := rByte_go (fu := fu) hx
      have hk := hr k List.mem_cons_self
      rw [h1, some_bind]
      simp only
      have e : k = ((k.toNat : Nat) : Int) := by omega
      have h3 := dec_l2_eq (fu := fu) hf k.toNat fu x' u d (by omega) (by omega) (by rw [hdd]; simp; omega) ha hv h2 (fun c hc => hr c (List.mem_cons_of_mem _ hc))
      rw [← e] at h3
      rw [h3, hdd]
      simp [pRest]
  | m + 1, n + 1, x, l, d, hn, hm, ho, hdd, ha, hv, hx, hr => by
    have hy : (((m + 1 : Nat) : Int)) > 0 := by omega
    have e1 : IntKind.wrap .i64 (((m + 1 : Nat) : Int) - 1) = (m : Int) := by rw [wr64 (by omega) (by omega)]; omega
    rw [decode_l1, bif_t (dec_t hy)]
    unfold decode_j2 decode_j1
    rw [hx.ok, bif_t (c := !false) rfl]
    by_cases h8 : l.length < 8
    · rw [pOps_short h8]
      -- the reader turns bad somewhere
      have hbad : ∃ v1 x1 v2 x2 v3 x3, rByteD fu x = some (v1, x1) ∧ rByteD fu x1 = some (v2, x2) ∧ rNumberD fu x2 = some (v3, x3) ∧ Bad8 x3 := by
        cases l with
        | nil =>
          obtain ⟨x1, h1, r1⟩ := rByte_end (fu := fu) hx
          obtain ⟨v2, x2, h2, r2⟩ := rByte_bad (fu := fu) r1
          obtain ⟨v3, x3, h3, r3⟩ := rNumberD_bad (fu := fu) (by omega) r2
          exact ⟨_, x1, v2, x2, v3, x3, h1, h2, h3, r3⟩
        | cons c t =>
          obtain ⟨x1, h1, r1⟩ := rByte_go (fu := fu) hx
          cases t with
          | nil =>
            obtain ⟨x2, h2, r2⟩ := rByte_end (fu := fu) r1
            obtain ⟨v3, x3, h3, r3⟩ := rNumberD_bad (fu := fu) (by omega) r2
            exact ⟨_, x1, _, x2, v3, x3, h1, h2, h3, r3⟩
          | cons c2 u =>
            obtain ⟨x2, h2, r2⟩ := rByte_go (fu := fu) r1
            obtain ⟨v3, x3, h3, r3⟩ := rNumberD_short (fu := fu) (by omega) r2 (by simp at h8; omega)
            exact ⟨_, x1, _, x2, v3, x3, h1, h2, h3, r3⟩
      obtain ⟨v1, x1, v2, x2, v3, x3, h1, h2, h3, r3⟩ := hbad
      simp only [h1, h2, h3, some_bind]
      rw [app_ok (by have : Rep.bytes GOp = 24 := rfl; rw [this]; simp; omega), some_bind, e1]
      obtain ⟨n, rfl⟩ : ∃ q, n = q + 1 := ⟨n - 1, by omega⟩
      rw [dec_l1_bad (by omega) r3]
      rfl
    · obtain ⟨k, y, a, b, c, dd, e, f, u, rfl⟩ := eight_of h8
      obtain ⟨x1, h1, r1⟩ := rByte_go (fu := fu) hx
      obtain ⟨x2, h2, r2⟩ := rByte_go (fu := fu) r1
      obtain ⟨x3, h3, r3⟩ := rNumberD_go (fu := fu) (by omega) r2
      simp only [h1, h2, h3, some_bind]
      rw [app_ok (by have : Rep.bytes GOp = 24 := rfl; rw [this]; simp; omega), some_bind, e1]
      rw [dec_l1_eq hf m n x3 u { d with ops := d.ops ++ [⟨k, y, sixV a b c dd e f⟩] } (by omega) (by omega) (by simp; omega) hdd ha hv r3 (fun z hz => hr z (by simp [hz])), pOps]
      cases hp : pOps m u with
      | none => rfl
      | some p => simp [List.append_assoc]
theorem decodeD_eq (hf : 300 ≤ fu) {s : ByteArray} (hs : s.size ≤ 140737488351232) : decodeD fu s = some (decZ (byL s)) := by
  have hr : ∀ c ∈ byL s, 0 ≤ c ∧ c < 256 := fun c hc => byL_range hc
  have hx : Rd8 { s := s, bad := Zr.zd } (byL s) := ⟨rfl, rfl, hs⟩
  unfold decodeD
  rw [chkS_ok hs, some_bind, some_bind]
  generalize byL s = l at hr hx
  have hbad : ∀ {x : GReader} {d : GFrame} {y : Int}, Bad8 x → decode_l1 fu fu x d y = some (noF, 1) := fun {x d y} h => by
    obtain ⟨q, hq⟩ : ∃ q, fu = q + 1 := ⟨fu - 1, by omega⟩
    have := dec_l1_bad (fu := fu) (n := q) (by omega) (d := d) (y := y) h
    rw [← hq] at this
    exact this
  have b1 : ∀ {x : GReader}, Bad8 x → ∃ v x', rByteD fu x = some (v, x') ∧ Bad8 x' := fun h => rByte_bad h
  match l, hx, hr with
  | [], hx, _ =>
    obtain ⟨x1, h1, r1⟩ := rByte_end (fu := fu) hx
    obtain ⟨v2, x2, h2, r2⟩ := b1 r1
    obtain ⟨v3, x3, h3, r3⟩ := b1 r2
    obtain ⟨v4, x4, h4, r4⟩ := b1 r3
    simp only [h1, h2, h3, h4, some_bind]
    rw [hbad r4]; rfl
  | [a], hx, _ =>
    obtain ⟨x1, h1, r1⟩ := rByte_go (fu := fu) hx
    obtain ⟨x2, h2, r2⟩ := rByte_end (fu := fu) r1
    obtain ⟨v3, x3, h3, r3⟩ := b1 r2
    obtain ⟨v4, x4, h4, r4⟩ := b1 r3
    simp only [h1, h2, h3, h4, some_bind]
    rw [hbad r4]; rfl
  | [a, b], hx, _ =>
    obtain ⟨x1, h1, r1⟩ := rByte_go (fu := fu) hx
    obtain ⟨x2, h2, r2⟩ := rByte_go (fu := fu) r1
    obtain ⟨x3, h3, r3⟩ := rByte_end (fu := fu) r2
    obtain ⟨v4, x4, h4, r4⟩ := b1 r3
    simp only [h1, h2, h3, h4, some_bind]
    rw [hbad r4]; rfl
  | [a, b, c], hx, _ =>
    obtain ⟨x1, h1, r1⟩ := rByte_go (fu := fu) hx
    obtain ⟨x2, h2, r2⟩ := rByte_go (fu := fu) r1
    obtain ⟨x3, h3, r3⟩ := rByte_go (fu := fu) r2
    obtain ⟨x4, h4, r4⟩ := rByte_end (fu := fu) r3
    simp only [h1, h2, h3, h4, some_bind]
    rw [hbad r4]; rfl
  | a :: b :: c :: no :: t, hx, hr =>
    obtain ⟨x1, h1, r1⟩ := rByte_go (fu := fu) hx
    obtain ⟨x2, h2, r2⟩ := rByte_go (fu := fu) r1
    obtain ⟨x3, h3, r3⟩ := rByte_go (fu := fu) r2
    obtain ⟨x4, h4, r4⟩ := rByte_go (fu := fu) r3
    simp only [h1, h2, h3, h4, some_bind]
    have hno := hr no (by simp)
    have e : no = ((no.toNat : Nat) : Int) := by omega
    have h5 := dec_l1_eq (fu := fu) hf no.toNat fu x4 t { kind := a, node := b, id := c, ops := Zr.zd, deps := Zr.zd, at_ := Zr.zd, vals := Zr.zd } (by omega) (by omega) (by show ([] : List GOp).length + _ ≤ _; simp; omega) rfl rfl rfl r4 (fun z hz => hr z (by simp [hz]))
    rw [← e] at h5
    rw [h5]
    rfl
end
end Go.Proofs.Ytnfdgjdnlikepab
