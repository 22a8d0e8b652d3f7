/- What is read of bytes by the reference; the law of reading. -/
import Derived.Test.YtnfdgjdnlikepabEc
import Derived.Test.YtnfdgjdnlikepabPx
import Derived.Test.YtnfdgjdnlikepabPd
namespace Go.Proofs.Ytnfdgjdnlikepab
open Go.RowKit
open Rep (rep)
set_option linter.unusedVariables false

theorem fromSix_step {s : ByteArray} {n k : Nat} {y c : Int} (hk : k < 6) (h0 : 0 ≤ y) (h1 : y < 1099511627776) (hc : (byL s)[k]? = some c) (h2 : 0 ≤ c) (h3 : c < 256) : fromSix_l1 s (n + 1) y k = fromSix_l1 s n (y * 256 + c) ((k + 1 : Nat) : Int) := by
  rw [fromSix_l1, bif_t (dec_t (by omega)), byL_idx, hc, some_bind, wr64 (x := 256 * y) (by omega) (by omega), wr64 (x := c) (by omega) (by omega), wr64 (x := 256 * y + c) (by omega) (by omega), wr64 (x := (k : Int) + 1) (by omega) (by omega), Int.mul_comm 256 y]
  rfl
theorem fromSixD_eq {s : ByteArray} {fu : Nat} (hf : 8 ≤ fu) {a b c d e f : Int} {t : List Int} (h : byL s = a :: b :: c :: d :: e :: f :: t) : fromSixD fu s = some (sixV a b c d e f) := by
  have hr : ∀ z ∈ [a, b, c, d, e, f], 0 ≤ z ∧ z < 256 := fun z hz => byL_range (s := s) (by rw [h]; simp at hz ⊢; rcases hz with rfl | rfl | rfl | rfl | rfl | rfl <;> simp)
  have ha := hr a (by simp)
  have hb := hr b (by simp)
  have hc := hr c (by simp)
  have hd := hr d (by simp)
  have he := hr e (by simp)
  have hff := hr f (by simp)
  obtain ⟨n, rfl⟩ : ∃ n, fu = n + 7 := ⟨fu - 7, by omega⟩
  have e0 : fromSix_l1 s (n + 7) 0 0 = _ := fromSix_step (s := s) (n := n + 6) (k := 0) (y := 0) (c := a) (by omega) (by omega) (by omega) (by rw [h]; rfl) ha.1 ha.2
  have e1 := fromSix_step (s := s) (n := n + 5) (k := 1) (y := 0 * 256 + a) (c := b) (by omega) (by omega) (by omega) (by rw [h]; rfl) hb.1 hb.2
  have e2 := fromSix_step (s := s) (n := n + 4) (k := 2) (y := (0 * 256 + a) * 256 + b) (c := c) (by omega) (by omega) (by omega) (by rw [h]; rfl) hc.1 hc.2
  have e3 := fromSix_step (s := s) (n := n + 3) (k := 3) (y := ((0 * 256 + a) * 256 + b) * 256 + c) (c := d) (by omega) (by omega) (by omega) (by rw [h]; rfl) hd.1 hd.2
  have e4 := fromSix_step (s := s) (n := n + 2) (k := 4) (y := (((0 * 256 + a) * 256 + b) * 256 + c) * 256 + d) (c := e) (by omega) (by omega) (by omega) (by rw [h]; rfl) he.1 he.2
  have e5 := fromSix_step (s := s) (n := n + 1) (k := 5) (y := ((((0 * 256 + a) * 256 + b) * 256 + c) * 256 + d) * 256 + e) (c := f) (by omega) (by omega) (by omega) (by rw [h]; rfl) hff.1 hff.2
  unfold fromSixD
  rw [e0]
  have e1 : fromSix_l1 s (n + 6) (0 * 256 + a) ((0 + 1 : Nat) : Int) = _ := e1
  rw [e1]
  have e2 : fromSix_l1 s (n + 5) _ ((1 + 1 : Nat) : Int) = _ := e2
  rw [e2]
  have e3 : fromSix_l1 s (n + 4) _ ((2 + 1 : Nat) : Int) = _ := e3
  rw [e3]
  have e4 : fromSix_l1 s (n + 3) _ ((3 + 1 : Nat) : Int) = _ := e4
  rw [e4]
  have e5 : fromSix_l1 s (n + 2) _ ((4 + 1 : Nat) : Int) = _ := e5
  rw [e5, fromSix_l1, bif_f (by rfl), wr64 (by omega) (by omega)]
  unfold sixV
  rw [Int.zero_mul, Int.zero_add]

theorem decodeNoD_eq {fu : Nat} : decodeNoD fu = some (noF, 1) := rfl
theorem pAts_len : ∀ (n : Nat) (u : List Int) (z : List Int × List Int × List Int), pAts n u = some z → u.length = 7 * n + z.2.2.length
  | 0, u, z, h => by simp [pAts] at h; rw [← h]; simp
  | n + 1, u, z, h => by
    by_cases h7 : u.length < 7
    · match u, h7 with
      | [], _ => simp [pAts] at h
      | [_], _ => simp [pAts] at h
      | [_, _], _ => simp [pAts] at h
      | [_, _, _], _ => simp [pAts] at h
      | [_, _, _, _], _ => simp [pAts] at h
      | [_, _, _, _, _], _ => simp [pAts] at h
      | [_, _, _, _, _, _], _ => simp [pAts] at h
      | _ :: _ :: _ :: _ :: _ :: _ :: _ :: _, h => simp at h; omega
    · match u, h7 with
      | [], h => simp at h
      | [_], h => simp at h
      | [_, _], h => simp at h
      | [_, _, _], h => simp at h
      | [_, _, _, _], h => simp at h
      | [_, _, _, _, _], h => simp at h
      | [_, _, _, _, _, _], h => simp at h
      | k :: a :: b :: c :: d :: e :: f :: t, _ =>
        rw [pAts] at h
        cases hp : pAts n t with
        | none => rw [hp] at h; cases h
        | some p =>
          rw [hp] at h
          simp only [Option.map_some, Option.some.injEq] at h
          have := pAts_len n t p hp
          rw [← h]
          simp only [List.length_cons]
          omega
theorem pAts_some : ∀ (n : Nat) (u : List Int), 7 * n ≤ u.length → ∃ z, pAts n u = some z
  | 0, u, _ => ⟨_, rfl⟩
  | n + 1, u, h => by
    match u, h with
    | [], h => simp at h
    | [_], h => simp at h; omega
    | [_, _], h => simp at h; omega
    | [_, _, _], h => simp at h; omega
    | [_, _, _, _], h => simp at h; omega
    | [_, _, _, _, _], h => simp at h; omega
    | [_, _, _, _, _, _], h => simp at h; omega
    | k :: a :: b :: c :: d :: e :: f :: t, h =>
      obtain ⟨z, hz⟩ := pAts_some n t (by simp at h; omega)
      exact ⟨_, by rw [pAts, hz]; rfl⟩

section
variable {fu : Nat} {s : ByteArray}
theorem at_idx {p j : Nat} {u : List Int} (hu : (byL s).drop p = u) {c : Int} (hc : u[j]? = some c) : idxS s ((p + j : Nat) : Int) = some c := by
  rw [byL_idx, ← hc, ← hu, List.getElem?_drop]
theorem byte_of {c : Int} {k : Nat} (h : (byL s)[k]? = some c) : 0 ≤ c ∧ c < 256 := byL_range (List.mem_of_getElem? h)

theorem decF_l3_eq (hf : 20 ≤ fu) {p nd na : Nat} {u : List Int} (hp : p ≤ 5000) (hnd : nd < 256) (hna : na < 256) (hu : (byL s).drop (p + (1 + nd) + 1) = u) (hul : u.length = 7 * na) : ∀ (q m j : Nat) (d : GFrame), j + m = na → m < q → d.at_.length = j → d.vals.length = j →
    ∀ ats vs, pAts m (u.drop (7 * j)) = some (ats, vs, []) → decodeFrame_l3 fu s p nd na q d j = some (bif frameZ { d with at_ := d.at_ ++ ats, vals := d.vals ++ vs } == 0 then ({ d with at_ := d.at_ ++ ats, vals := d.vals ++ vs }, 0) else (noF, 1))
  | 0, m, j, d, _, h, _, _, _, _, _ => absurd h (by omega)
  | q + 1, 0, j, d, hj, _, _, _, ats, vs, hz => by
    rw [pAts] at hz
    simp only [Option.some.injEq, Prod.mk.injEq] at hz
    obtain ⟨rfl, rfl, _⟩ := hz
    rw [decodeFrame_l3, wr64 (x := (na : Int)) (by omega) (by omega), bif_f (dec_f (by omega)), some_bind]
    have e : ({ d with at_ := d.at_ ++ [], vals := d.vals ++ [] } : GFrame) = d := by simp
    rw [e]
    by_cases h : frameZ d = 0
    · rw [h]; rfl
    · have e1 : (frameZ d != 0) = true := by simp [h]
      have e2 : (frameZ d == 0) = false := by simp [h]
      rw [e1, e2]; rfl
  | q + 1, m + 1, j, d, hj, hq, hda, hdv, ats, vs, hz => by
    have hlen : (u.drop (7 * j)).length = 7 * (m + 1) := by rw [List.length_drop]; omega
    obtain ⟨k, a, b, c, e, f, g, t, ht⟩ : ∃ k a b c e f g t, u.drop (7 * j) = k :: a :: b :: c :: e :: f :: g :: t := by
      match u.drop (7 * j), hlen with
      | [], h => simp at h
      | [_], h => simp at h; omega
      | [_, _], h => simp at h; omega
      | [_, _, _], h => simp at h; omega
      | [_, _, _, _], h => simp at h; omega
      | [_, _, _, _, _], h => simp at h; omega
      | [_, _, _, _, _, _], h => simp at h; omega
      | k :: a :: b :: c :: e :: f :: g :: t, _ => exact ⟨k, a, b, c, e, f, g, t, rfl⟩
    have hd2 : u.drop (7 * (j + 1)) = t := by
      have := congrArg (List.drop 7) ht
      rw [List.drop_drop] at this
      rw [show 7 * (j + 1) = 7 * j + 7 from by omega, this]
      rfl
    rw [ht, pAts] at hz
    cases hp2 : pAts m t with
    | none => rw [hp2] at hz; cases hz
    | some z =>
      rw [hp2] at hz
      simp only [Option.map_some, Option.some.injEq, Prod.mk.injEq] at hz
      obtain ⟨rfl, rfl, hz3⟩ := hz
      have hdrop : (byL s).drop (p + (1 + nd) + 1 + 7 * j) = k :: a :: b :: c :: e :: f :: g :: t := by rw [← ht, ← hu, List.drop_drop]
      have w0 : IntKind.wrap .i64 (nd : Int) = (nd : Int) := wr64 (by omega) (by omega)
      have w1 : IntKind.wrap .i64 (1 + (nd : Int)) = ((1 + nd : Nat) : Int) := by rw [wr64 (by omega) (by omega)]; omega
      have w2 : IntKind.wrap .i64 ((p : Int) + ((1 + nd : Nat) : Int)) = ((p + (1 + nd) : Nat) : Int) := by rw [wr64 (by omega) (by omega)]; omega
      have w3 : IntKind.wrap .i64 (((p + (1 + nd) : Nat) : Int) + 1) = ((p + (1 + nd) + 1 : Nat) : Int) := by rw [wr64 (by omega) (by omega)]; omega
      have w4 : IntKind.wrap .i64 (7 * (j : Int)) = ((7 * j : Nat) : Int) := by rw [wr64 (by omega) (by omega)]; omega
      have w5 : IntKind.wrap .i64 (((p + (1 + nd) + 1 : Nat) : Int) + ((7 * j : Nat) : Int)) = ((p + (1 + nd) + 1 + 7 * j : Nat) : Int) := by rw [wr64 (by omega) (by omega)]; omega
      have w6 : IntKind.wrap .i64 (((p + (1 + nd) : Nat) : Int) + 2) = ((p + (1 + nd) + 2 : Nat) : Int) := by rw [wr64 (by omega) (by omega)]; omega
      have w7 : IntKind.wrap .i64 (((p + (1 + nd) + 2 : Nat) : Int) + ((7 * j : Nat) : Int)) = ((p + (1 + nd) + 2 + 7 * j : Nat) : Int) := by rw [wr64 (by omega) (by omega)]; omega
      have w8 : IntKind.wrap .i64 ((j : Int) + 1) = ((j + 1 : Nat) : Int) := by rw [wr64 (by omega) (by omega)]; omega
      have hk : idxS s ((p + (1 + nd) + 1 + 7 * j : Nat) : Int) = some k := at_idx (p := p + (1 + nd) + 1 + 7 * j) (j := 0) hdrop rfl
      have hkr : 0 ≤ k ∧ k < 256 := byL_range (s := s) (List.mem_of_mem_drop (by rw [hdrop]; exact List.mem_cons_self))
      have hbl := byL_len s
      have hsz : p + (1 + nd) + 2 + 7 * j ≤ s.size := by
        have := congrArg List.length hdrop
        rw [List.length_drop, hbl] at this
        simp at this
        omega
      obtain ⟨s', hs1, hs2⟩ := byL_cut hsz
      have hs3 : byL s' = a :: b :: c :: e :: f :: g :: t := by
        rw [hs2, show p + (1 + nd) + 2 + 7 * j = p + (1 + nd) + 1 + 7 * j + 1 from by omega, ← List.drop_drop, hdrop]
        rfl
      rw [decodeFrame_l3, wr64 (x := (na : Int)) (by omega) (by omega), bif_t (dec_t (by omega)), w0, w1, w2, w3, w4, w5, w6, w7, w8, hk, some_bind, wr64 (x := k) (by omega) (by omega),
        app_ok (by have : Rep.bytes Int = 8 := rfl; rw [this]; simp; omega), some_bind, some_bind, hs1, some_bind, fromSixD_eq (by omega) hs3, some_bind, app_ok (by have : Rep.bytes Int = 8 := rfl; rw [this]; simp; omega), some_bind, some_bind]
      have ih := decF_l3_eq hf hp hnd hna hu hul q m (j + 1) { d with at_ := d.at_ ++ [k], vals := d.vals ++ [sixV a b c e f g] } (by omega) (by omega) (by simp; omega) (by simp; omega) z.1 z.2.1 (by rw [hd2, hp2, ← hz3])
      rw [ih]
      simp [List.append_assoc]

theorem decF_l2_eq (hf : 300 ≤ fu) {p nd : Nat} {r : List Int} (hp : p ≤ 4000) (hnd : nd < 256) (hsz : s.size ≤ 140737488351232) (hr : (byL s).drop p = (nd : Int) :: r) (hrl : nd < r.length) : ∀ (q m j : Nat) (d : GFrame), j + m = nd → m < q → d.deps = r.take j → d.at_ = [] → d.vals = [] →
    decodeFrame_l2 fu s p nd q d j = some (finZ (pTail d.kind d.node d.id d.ops (r.take nd) (r.drop nd)))
  | 0, m, j, d, _, h, _, _, _ => absurd h (by omega)
  | q + 1, 0, j, d, hj, _, hdd, ha, hv => by
    have hj : j = nd := by omega
    subst hj
    have hbl := byL_len s
    have hlen := congrArg List.length hr
    rw [List.length_drop, hbl, List.length_cons] at hlen
    obtain ⟨na, u, hu⟩ : ∃ na u, r.drop j = na :: u := by
      rw [List.drop_eq_getElem_cons hrl]
      exact ⟨_, _, rfl⟩
    have hul := congrArg List.length hu
    rw [List.length_drop, List.length_cons] at hul
    have hpos : idxS s (p : Int) = some (j : Int) := by
      have := at_idx (s := s) (p := p) (j := 0) hr rfl
      rwa [Nat.add_zero] at this
    have hdr : (byL s).drop (p + (1 + j)) = na :: u := by
      rw [← hu, ← List.drop_drop, hr, show 1 + j = j + 1 from by omega, List.drop_succ_cons]
    have hna : idxS s ((p + (1 + j) : Nat) : Int) = some na := by
      have := at_idx (s := s) (p := p + (1 + j)) (j := 0) hdr rfl
      rwa [Nat.add_zero] at this
    have hnar : 0 ≤ na ∧ na < 256 := byL_range (s := s) (List.mem_of_mem_drop (by rw [hdr]; exact List.mem_cons_self))
    have hdr2 : (byL s).drop (p + (1 + j) + 1) = u := by rw [← List.drop_drop, hdr]; rfl
    have w0 : IntKind.wrap .i64 (j : Int) = (j : Int) := wr64 (by omega) (by omega)
    have w1 : IntKind.wrap .i64 (1 + (j : Int)) = ((1 + j : Nat) : Int) := by rw [wr64 (by omega) (by omega)]; omega
    have w2 : IntKind.wrap .i64 ((p : Int) + ((1 + j : Nat) : Int)) = ((p + (1 + j) : Nat) : Int) := by rw [wr64 (by omega) (by omega)]; omega
    have w3 : IntKind.wrap .i64 (((p + (1 + j) : Nat) : Int) + 1) = ((p + (1 + j) + 1 : Nat) : Int) := by rw [wr64 (by omega) (by omega)]; omega
    have hnn : na = ((na.toNat : Nat) : Int) := by omega
    generalize na.toNat = nb at hnn
    subst hnn
    have w4 : IntKind.wrap .i64 (nb : Int) = (nb : Int) := wr64 (by omega) (by omega)
    have w5 : IntKind.wrap .i64 (7 * (nb : Int)) = ((7 * nb : Nat) : Int) := by rw [wr64 (by omega) (by omega)]; omega
    have w6 : IntKind.wrap .i64 (((p + (1 + j) + 1 : Nat) : Int) + ((7 * nb : Nat) : Int)) = ((p + (1 + j) + 1 + 7 * nb : Nat) : Int) := by rw [wr64 (by omega) (by omega)]; omega
    rw [decodeFrame_l2, w0, bif_f (dec_f (by omega)), hpos, some_bind, w0, w1, w2, hna, some_bind, w3, w4, w5, w6, some_bind, hu]
    have htn : ((nb : Int)).toNat = nb := rfl
    by_cases h7 : u.length = 7 * nb
    · rw [bif_f (by simp; omega)]
      obtain ⟨z, hz⟩ := pAts_some nb u (by omega)
      have hzl := pAts_len nb u z hz
      obtain ⟨z1, z2, z3⟩ := z
      have hz3 : z3 = [] := List.length_eq_zero_iff.1 (by simp at hzl; omega)
      subst hz3
      have h3 := decF_l3_eq (fu := fu) (s := s) (by omega) (p := p) (nd := j) (na := nb) (u := u) (by omega) (by omega) (by omega) hdr2 h7 fu nb 0 d (by omega) (by omega) (by rw [ha]; rfl) (by rw [hv]; rfl) z1 z2 (by simpa using hz)
      have h3 : decodeFrame_l3 fu s p j nb fu d 0 = _ := h3
      rw [h3, pTail, htn, hz, ha, hv, List.nil_append, List.nil_append, ← hdd]
      rfl
    · rw [bif_t (by simp; omega)]
      rw [decodeNoD_eq, some_bind, some_bind, pTail, htn]
      cases hz : pAts nb u with
      | none => rfl
      | some z =>
        have hzl := pAts_len nb u z hz
        obtain ⟨z1, z2, z3⟩ := z
        cases z3 with
        | nil => simp at hzl; omega
        | cons _ _ => rfl
  | q + 1, m + 1, j, d, hj, hq, hdd, ha, hv => by
    have hlt : j < r.length := by omega
    have hc : idxS s ((p + 1 + j : Nat) : Int) = some r[j] := by
      have := at_idx (s := s) (p := p) (j := j + 1) hr (c := r[j]) (by simp)
      rwa [show p + (j + 1) = p + 1 + j from by omega] at this
    have hcr : 0 ≤ r[j] ∧ r[j] < 256 := byL_range (s := s) (List.mem_of_mem_drop (by rw [hr]; exact List.mem_cons_of_mem _ (List.getElem_mem _)))
    have w0 : IntKind.wrap .i64 (nd : Int) = (nd : Int) := wr64 (by omega) (by omega)
    have w1 : IntKind.wrap .i64 ((p : Int) + 1) = ((p + 1 : Nat) : Int) := by rw [wr64 (by omega) (by omega)]; omega
    have w2 : IntKind.wrap .i64 (((p + 1 : Nat) : Int) + (j : Int)) = ((p + 1 + j : Nat) : Int) := by rw [wr64 (by omega) (by omega)]; omega
    have w3 : IntKind.wrap .i64 ((j : Int) + 1) = ((j + 1 : Nat) : Int) := by rw [wr64 (by omega) (by omega)]; omega
    have hdl : d.deps.length ≤ 300 := by rw [hdd, List.length_take]; omega
    rw [decodeFrame_l2, w0, bif_t (dec_t (by omega)), w1, w2, hc, some_bind, wr64 (x := r[j]) (by omega) (by omega), app_ok (by have : Rep.bytes Int = 8 := rfl; rw [this]; simp; omega), some_bind, some_bind, w3]
    exact decF_l2_eq hf hp hnd hsz hr hrl q m (j + 1) { d with deps := d.deps ++ [r[j]] } (by omega) (by omega) (by rw [hdd]; exact (List.take_succ_eq_append_getElem hlt).symm) ha hv

theorem decF_l1_eq (hf : 300 ≤ fu) (hsz : s.size ≤ 140737488351232) {no : Nat} (hno : no < 256) {d57 : GFrame} : ∀ (q m i : Nat) (d : GFrame), i + m = no → m < q → 4 + 8 * i ≤ s.size → d.ops.length = i → d.deps = [] → d.at_ = [] → d.vals = [] →
    decodeFrame_l1 fu s no q d d57 ((4 + 8 * i : Nat) : Int) i = some (finZ ((pOps m ((byL s).drop (4 + 8 * i))).bind fun p => pRest d.kind d.node d.id (d.ops ++ p.1) p.2))
  | 0, m, i, d, _, h, _, _, _, _, _ => absurd h (by omega)
  | q + 1, 0, i, d, hi, _, hs, ho, hdd, ha, hv => by
    have hbl := byL_len s
    have w0 : IntKind.wrap .i64 (no : Int) = (no : Int) := wr64 (by omega) (by omega)
    rw [decodeFrame_l1, w0, bif_f (dec_f (by omega)), pOps]
    simp only [Option.bind_some, List.append_nil]
    unfold decodeFrame_j2 decodeFrame_j1
    generalize hp : 4 + 8 * i = p at hs ⊢
    have hlen : ((byL s).drop p).length = s.size - p := by rw [List.length_drop, hbl]
    cases hr : (byL s).drop p with
    | nil =>
      rw [hr] at hlen
      simp at hlen
      rw [bif_t (dec_t (by omega)), bif_t rfl, decodeNoD_eq, some_bind, some_bind]
      rfl
    | cons nd r =>
      rw [hr, List.length_cons] at hlen
      have hndr : 0 ≤ nd ∧ nd < 256 := byL_range (s := s) (List.mem_of_mem_drop (by rw [hr]; exact List.mem_cons_self))
      have hnn : nd = ((nd.toNat : Nat) : Int) := by omega
      generalize nd.toNat = nb at hnn
      subst hnn
      have hidx : idxS s (p : Int) = some (nb : Int) := by
        have := at_idx (s := s) (p := p) (j := 0) hr rfl
        rwa [Nat.add_zero] at this
      have w1 : IntKind.wrap .i64 ((p : Int) + 1) = ((p + 1 : Nat) : Int) := by rw [wr64 (by omega) (by omega)]; omega
      have w2 : IntKind.wrap .i64 (((p + 1 : Nat) : Int) + IntKind.wrap .i64 (nb : Int)) = ((p + 1 + nb : Nat) : Int) := by rw [wr64 (x := (nb : Int)) (by omega) (by omega), wr64 (by omega) (by omega)]; omega
      have htn : ((nb : Int)).toNat = nb := rfl
      rw [bif_f (dec_f (by omega)), hidx, some_bind, w1, w2, pRest, htn]
      unfold pDeps
      by_cases hle : nb < r.length
      · rw [bif_f (dec_f (by omega)), some_bind, if_pos (by omega)]
        have h2 := decF_l2_eq (fu := fu) (s := s) hf (p := p) (nd := nb) (r := r) (by omega) (by omega) hsz hr hle fu nb 0 d (by omega) (by omega) (by rw [hdd]; rfl) ha hv
        have h2 : decodeFrame_l2 fu s p nb fu d 0 = _ := h2
        rw [h2]
        rfl
      · rw [bif_t (dec_t (by omega)), decodeNoD_eq, some_bind, some_bind]
        by_cases he : nb ≤ r.length
        · rw [if_pos he]
          have : r.drop nb = [] := List.drop_of_length_le (by omega)
          simp only [Option.bind_some]
          rw [this]
          rfl
        · rw [if_neg he]
          rfl
  | q + 1, m + 1, i, d, hi, hq, hs, ho, hdd, ha, hv => by
    have hbl := byL_len s
    have w0 : IntKind.wrap .i64 (no : Int) = (no : Int) := wr64 (by omega) (by omega)
    have w8 : IntKind.wrap .i64 (((4 + 8 * i : Nat) : Int) + 8) = ((4 + 8 * (i + 1) : Nat) : Int) := by rw [wr64 (by omega) (by omega)]; omega
    have wi : IntKind.wrap .i64 ((i : Int) + 1) = ((i + 1 : Nat) : Int) := by rw [wr64 (by omega) (by omega)]; omega
    rw [decodeFrame_l1, w0, bif_t (dec_t (by omega)), w8]
    have hlen : ((byL s).drop (4 + 8 * i)).length = s.size - (4 + 8 * i) := by rw [List.length_drop, hbl]
    by_cases h8 : s.size < 4 + 8 * (i + 1)
    · rw [bif_t (dec_t (by omega)), decodeNoD_eq, some_bind, some_bind, pOps_short (by omega)]
      rfl
    · rw [bif_f (dec_f (by omega))]
      obtain ⟨k, y, a, b, c, dd, e, f, u, hu⟩ := eight_of (t := (byL s).drop (4 + 8 * i)) (by omega)
      have w1 : IntKind.wrap .i64 (((4 + 8 * i : Nat) : Int) + 1) = ((4 + 8 * i + 1 : Nat) : Int) := by rw [wr64 (by omega) (by omega)]; omega
      have w2 : IntKind.wrap .i64 (((4 + 8 * i : Nat) : Int) + 2) = ((4 + 8 * i + 2 : Nat) : Int) := by rw [wr64 (by omega) (by omega)]; omega
      have hk : idxS s ((4 + 8 * i : Nat) : Int) = some k := by
        have := at_idx (s := s) (p := 4 + 8 * i) (j := 0) hu rfl
        rwa [Nat.add_zero] at this
      have hy : idxS s ((4 + 8 * i + 1 : Nat) : Int) = some y := at_idx (s := s) (p := 4 + 8 * i) (j := 1) hu rfl
      have hkr : 0 ≤ k ∧ k < 256 := byL_range (s := s) (c := k) (List.mem_of_mem_drop (i := 4 + 8 * i) (by rw [hu]; exact List.mem_cons_self))
      have hyr : 0 ≤ y ∧ y < 256 := byL_range (s := s) (c := y) (List.mem_of_mem_drop (i := 4 + 8 * i) (by rw [hu]; exact List.mem_cons_of_mem _ List.mem_cons_self))
      obtain ⟨s', hs1, hs2⟩ := byL_cut (s := s) (k := 4 + 8 * i + 2) (by omega)
      have hs3 : byL s' = a :: b :: c :: dd :: e :: f :: u := by
        rw [hs2, ← List.drop_drop, hu]
        rfl
      have hnext : (byL s).drop (4 + 8 * (i + 1)) = u := by
        rw [show 4 + 8 * (i + 1) = 4 + 8 * i + 8 from by omega, ← List.drop_drop, hu]
        rfl
      rw [hk, some_bind, w1, hy, some_bind, w2, hs1, some_bind, fromSixD_eq (by omega) hs3, some_bind, wr64 (x := k) (by omega) (by omega), wr64 (x := y) (by omega) (by omega), some_bind, app_ok (by have : Rep.bytes GOp = 24 := rfl; rw [this]; simp; omega), some_bind, some_bind, wi, hu, pOps]
      rw [decF_l1_eq hf hsz hno q m (i + 1) { d with ops := d.ops ++ [⟨k, y, sixV a b c dd e f⟩] } (by omega) (by omega) (by omega) (by simp; omega) hdd ha hv, hnext]
      cases hp : pOps m u with
      | none => rfl
      | some z => simp [List.append_assoc]
theorem decodeFrameD_eq (hf : 300 ≤ fu) (hs : s.size ≤ 140737488351232) : decodeFrameD fu s = some (decZ (byL s)) := by
  have hbl := byL_len s
  unfold decodeFrameD
  by_cases h6 : s.size < 6
  · rw [bif_t (dec_t (by omega)), decodeNoD_eq, some_bind, some_bind]
    congr 1
    unfold decZ
    have hnone : ∀ l : List Int, l.length < 6 → finZ (parseR l) = (noF, 1) := by
      intro l hl
      match l, hl with
      | [], _ => rfl
      | [_], _ => rfl
      | [_, _], _ => rfl
      | [_, _, _], _ => rfl
      | kd :: nd :: id :: no :: t, hl =>
        rw [parseR]
        cases hn : no.toNat with
        | zero =>
          rw [pOps]
          simp only [Option.bind_some]
          match t, hl with
          | [], _ => rfl
          | [m], _ =>
            rw [pRest]
            unfold pDeps
            by_cases hm : m.toNat ≤ ([] : List Int).length
            · rw [if_pos hm]
              simp [pTail, finZ]
            · rw [if_neg hm]; rfl
          | _ :: _ :: _, hl => simp at hl; omega
        | succ n =>
          rw [pOps_short (by simp at hl; omega)]
          rfl
    exact (hnone (byL s) (by omega)).symm
  · rw [bif_f (dec_f (by omega))]
    match hl : byL s with
    | [] => rw [hl] at hbl; simp at hbl; omega
    | [_] => rw [hl] at hbl; simp at hbl; omega
    | [_, _] => rw [hl] at hbl; simp at hbl; omega
    | [_, _, _] => rw [hl] at hbl; simp at hbl; omega
    | a :: b :: c :: no :: t =>
      have i0 : idxS s 0 = some a := by have := byL_idx s 0; rw [hl] at this; exact this
      have i1 : idxS s 1 = some b := by have := byL_idx s 1; rw [hl] at this; exact this
      have i2 : idxS s 2 = some c := by have := byL_idx s 2; rw [hl] at this; exact this
      have i3 : idxS s 3 = some no := by have := byL_idx s 3; rw [hl] at this; exact this
      have hr : ∀ z ∈ byL s, 0 ≤ z ∧ z < 256 := fun z hz => byL_range hz
      rw [hl] at hr
      have ha := hr a (by simp)
      have hb := hr b (by simp)
      have hc := hr c (by simp)
      have hno := hr no (by simp)
      have hnn : no = ((no.toNat : Nat) : Int) := by omega
      rw [i0, some_bind, i1, some_bind, i2, some_bind, wr64 (x := a) (by omega) (by omega), wr64 (x := b) (by omega) (by omega), wr64 (x := c) (by omega) (by omega), some_bind, some_bind, i3, some_bind]
      have h1 := decF_l1_eq (fu := fu) (s := s) hf hs (no := no.toNat) (by omega) (d57 := (Zr.zd : GFrame)) fu no.toNat 0 { kind := a, node := b, id := c, ops := Zr.zd, deps := Zr.zd, at_ := Zr.zd, vals := Zr.zd } (by omega) (by omega) (by omega) rfl rfl rfl rfl
      rw [← hnn] at h1
      have h1 : decodeFrame_l1 fu s no fu _ (Zr.zd : GFrame) 4 0 = _ := h1
      rw [h1, show 4 + 8 * 0 = 4 from rfl, hl]
      rfl
end

theorem decZ_small (l : List Int) : (decZ l).1.ops.length ≤ 4 := by
  unfold decZ finZ
  match parseR l with
  | none => exact Nat.zero_le _
  | some (f, []) =>
    show (bif frameZ f == 0 then (f, 0) else (noF, (1 : Int))).1.ops.length ≤ 4
    cases h : (frameZ f == 0) with
    | false => exact Nat.zero_le _
    | true =>
      obtain ⟨h1, _⟩ := FOk_of (f := f) (by simpa using h)
      exact h1
  | some (f, _ :: _) => exact Nat.zero_le _
theorem wireReadsD_eq {s : ByteArray} (hs : s.size ≤ 140737488351232) : wireReadsD 300 s = some true := by
  unfold wireReadsD wireReads_j1
  rw [decodeD_eq (by omega) hs, some_bind, some_bind, decodeFrameD_eq (by omega) hs, some_bind, some_bind, sameFrameD_refl (decZ_small _) (by omega), some_bind, bif_t rfl, bif_t (by simp), lawFramesD_eq (by omega), some_bind]
end Go.Proofs.Ytnfdgjdnlikepab
