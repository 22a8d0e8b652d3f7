/- What is written is read, and only that: the plain laws of the wire. -/
import Derived.Test.YtnfdgjdnlikepabEw
import Derived.Test.YtnfdgjdnlikepabPx
namespace Go.Proofs.Ytnfdgjdnlikepab
open Go.RowKit
open Rep (rep)
set_option linter.unusedVariables false

/-! There and back. -/
def Bytes (l : List Int) : Prop := ∀ c ∈ l, 0 ≤ c ∧ c < 256
theorem sixV_sixZ {n : Int} (h1 : -1099511627776 ≤ n) (h2 : n ≤ 1099511627776) : sixV ((n + 140737488355328) / 1099511627776 % 256) ((n + 140737488355328) / 4294967296 % 256) ((n + 140737488355328) / 16777216 % 256) ((n + 140737488355328) / 65536 % 256) ((n + 140737488355328) / 256 % 256) ((n + 140737488355328) % 256) = n := by
  unfold sixV
  omega
theorem sixZ_sixV {a b c d e f : Int} (ha : 0 ≤ a ∧ a < 256) (hb : 0 ≤ b ∧ b < 256) (hc : 0 ≤ c ∧ c < 256) (hd : 0 ≤ d ∧ d < 256) (he : 0 ≤ e ∧ e < 256) (hf : 0 ≤ f ∧ f < 256) : sixZ (sixV a b c d e f) = [a, b, c, d, e, f] := by
  unfold sixZ sixV
  simp only [List.cons.injEq, and_true]
  refine ⟨?_, ?_, ?_, ?_, ?_, ?_⟩ <;> omega
theorem pOps_enc {r : List Int} : ∀ (os : List GOp), (∀ o ∈ os, -1099511627776 ≤ o.n ∧ o.n ≤ 1099511627776) → pOps os.length (os.flatMap opBytes ++ r) = some (os, r)
  | [], _ => rfl
  | o :: t, h => by
    have h0 := h o List.mem_cons_self
    have ih := pOps_enc (r := r) t fun x hx => h x (List.mem_cons_of_mem _ hx)
    have e : (o :: t).flatMap opBytes ++ r = o.kind :: o.key :: (o.n + 140737488355328) / 1099511627776 % 256 :: (o.n + 140737488355328) / 4294967296 % 256 :: (o.n + 140737488355328) / 16777216 % 256 :: (o.n + 140737488355328) / 65536 % 256 :: (o.n + 140737488355328) / 256 % 256 :: (o.n + 140737488355328) % 256 :: (t.flatMap opBytes ++ r) := rfl
    rw [e, List.length_cons, pOps, ih, sixV_sixZ h0.1 h0.2]
    rfl
theorem pAts_enc {r : List Int} : ∀ (ats vs : List Int), vs.length = ats.length → (∀ v ∈ vs, -1099511627776 ≤ v ∧ v ≤ 1099511627776) → pAts ats.length ((ats.zip vs).flatMap valBytes ++ r) = some (ats, vs, r)
  | [], [], _, _ => rfl
  | [], _ :: _, h, _ => by simp at h
  | _ :: _, [], h, _ => by simp at h
  | a :: ats, v :: vs, hl, h => by
    have h0 := h v List.mem_cons_self
    have ih := pAts_enc (r := r) ats vs (by simpa using hl) fun x hx => h x (List.mem_cons_of_mem _ hx)
    have e : ((a :: ats).zip (v :: vs)).flatMap valBytes ++ r = a :: (v + 140737488355328) / 1099511627776 % 256 :: (v + 140737488355328) / 4294967296 % 256 :: (v + 140737488355328) / 16777216 % 256 :: (v + 140737488355328) / 65536 % 256 :: (v + 140737488355328) / 256 % 256 :: (v + 140737488355328) % 256 :: ((ats.zip vs).flatMap valBytes ++ r) := rfl
    rw [e, List.length_cons, pAts, ih, sixV_sixZ h0.1 h0.2]
    rfl
theorem parse_enc {f : GFrame} (hf : FOk f) (r : List Int) : parseR (encZ f ++ r) = some (f, r) := by
  have e : encZ f ++ r = f.kind :: f.node :: f.id :: (f.ops.length : Int) :: (f.ops.flatMap opBytes ++ ((f.deps.length : Int) :: (f.deps ++ ((f.at_.length : Int) :: ((f.at_.zip f.vals).flatMap valBytes ++ r))))) := by
    unfold encZ
    simp [List.append_assoc]
  have h1 := pOps_enc (r := (f.deps.length : Int) :: (f.deps ++ ((f.at_.length : Int) :: ((f.at_.zip f.vals).flatMap valBytes ++ r)))) f.ops fun o ho => by have := hf.op o ho; omega
  have h2 := pAts_enc (r := r) f.at_ f.vals hf.vals hf.val
  have t1 : ((f.ops.length : Int)).toNat = f.ops.length := rfl
  have t2 : ((f.deps.length : Int)).toNat = f.deps.length := rfl
  have t3 : ((f.at_.length : Int)).toNat = f.at_.length := rfl
  rw [e, parseR, t1, h1]
  simp only [Option.bind_some]
  rw [pRest, t2, pDeps, if_pos (by simp)]
  simp only [Option.bind_some]
  rw [List.take_left' rfl, List.drop_left' rfl, pTail, t3, h2]
  rfl
theorem pOps_more : ∀ (n : Nat) (l : List Int) (os : List GOp) (r t : List Int), pOps n l = some (os, r) → pOps n (l ++ t) = some (os, r ++ t)
  | 0, l, os, r, t, h => by simp [pOps] at h ⊢; exact ⟨h.1, by rw [h.2]⟩
  | n + 1, l, os, r, t, h => by
    by_cases h8 : l.length < 8
    · rw [pOps_short h8] at h; cases h
    · obtain ⟨k, y, a, b, c, d, e, f, u, rfl⟩ := eight_of h8
      rw [pOps] at h
      simp only [List.cons_append]
      rw [pOps]
      cases hp : pOps n u with
      | none => rw [hp] at h; cases h
      | some p =>
        rw [hp] at h
        simp only [Option.map_some, Option.some.injEq, Prod.mk.injEq] at h
        rw [pOps_more n u p.1 p.2 t (by rw [hp])]
        simp only [Option.map_some, h.1, h.2]
theorem pAts_more : ∀ (n : Nat) (l : List Int) (z : List Int × List Int × List Int) (t : List Int), pAts n l = some z → pAts n (l ++ t) = some (z.1, z.2.1, z.2.2 ++ t)
  | 0, l, z, t, h => by simp [pAts] at h ⊢; rw [← h]; exact ⟨rfl, rfl, rfl⟩
  | n + 1, l, z, t, h => by
    by_cases h7 : ∃ k a b c d e f u, l = k :: a :: b :: c :: d :: e :: f :: u
    · obtain ⟨k, a, b, c, d, e, f, u, rfl⟩ := h7
      rw [pAts] at h
      simp only [List.cons_append]
      rw [pAts]
      cases hp : pAts n u with
      | none => rw [hp] at h; cases h
      | some p =>
        rw [hp] at h
        simp only [Option.map_some, Option.some.injEq] at h
        rw [pAts_more n u p t hp]
        simp only [Option.map_some, ← h]
    · exfalso
      match l, h, h7 with
      | [], h, _ => simp [pAts] at h
      | [_], h, _ => simp [pAts] at h
      | [_, _], h, _ => simp [pAts] at h
      | [_, _, _], h, _ => simp [pAts] at h
      | [_, _, _, _], h, _ => simp [pAts] at h
      | [_, _, _, _, _], h, _ => simp [pAts] at h
      | [_, _, _, _, _, _], h, _ => simp [pAts] at h
      | k :: a :: b :: c :: d :: e :: f :: u, _, h7 => exact h7 ⟨k, a, b, c, d, e, f, u, rfl⟩
theorem parse_more {l r t : List Int} {f : GFrame} (h : parseR l = some (f, r)) : parseR (l ++ t) = some (f, r ++ t) := by
  match l, h with
  | [], h => cases h
  | [_], h => cases h
  | [_, _], h => cases h
  | [_, _, _], h => cases h
  | kd :: nd :: id :: no :: u, h =>
    rw [parseR] at h
    simp only [List.cons_append]
    rw [parseR]
    cases hp : pOps no.toNat u with
    | none => rw [hp] at h; cases h
    | some p =>
      obtain ⟨os, r1⟩ := p
      rw [hp] at h
      rw [pOps_more _ _ _ _ t hp]
      simp only [Option.bind_some] at h ⊢
      cases r1 with
      | nil => cases h
      | cons m r2 =>
        rw [pRest] at h
        rw [List.cons_append, pRest]
        unfold pDeps at h ⊢
        by_cases hm : m.toNat ≤ r2.length
        · rw [if_pos hm] at h
          rw [if_pos (by simp; omega)]
          simp only [Option.bind_some] at h ⊢
          rw [List.take_append_of_le_length hm, List.drop_append_of_le_length hm]
          cases hr : r2.drop m.toNat with
          | nil => rw [hr] at h; cases h
          | cons k r4 =>
            rw [hr] at h
            rw [pTail] at h
            rw [List.cons_append, pTail]
            cases hz : pAts k.toNat r4 with
            | none => rw [hz] at h; cases h
            | some z =>
              rw [hz] at h
              rw [pAts_more _ _ _ t hz]
              simp only [Option.map_some, Option.some.injEq, Prod.mk.injEq] at h ⊢
              exact ⟨h.1, by rw [h.2]⟩
        · rw [if_neg hm] at h; cases h

/-! Only what was written is read. -/
theorem pOps_back : ∀ (n : Nat) (l : List Int) (os : List GOp) (r : List Int), Bytes l → pOps n l = some (os, r) → os.length = n ∧ os.flatMap opBytes ++ r = l ∧ Bytes r
  | 0, l, os, r, hb, h => by
    simp [pOps] at h
    obtain ⟨rfl, rfl⟩ := h
    exact ⟨rfl, rfl, hb⟩
  | n + 1, l, os, r, hb, h => by
    by_cases h8 : l.length < 8
    · rw [pOps_short h8] at h; cases h
    · obtain ⟨k, y, a, b, c, d, e, f, u, rfl⟩ := eight_of h8
      rw [pOps] at h
      cases hp : pOps n u with
      | none => rw [hp] at h; cases h
      | some p =>
        rw [hp] at h
        simp only [Option.map_some, Option.some.injEq, Prod.mk.injEq] at h
        obtain ⟨rfl, rfl⟩ := h
        obtain ⟨h1, h2, h3⟩ := pOps_back n u p.1 p.2 (fun z hz => hb z (by simp [hz])) (by rw [hp])
        refine ⟨by simp [h1], ?_, h3⟩
        have hs := sixZ_sixV (hb a (by simp)) (hb b (by simp)) (hb c (by simp)) (hb d (by simp)) (hb e (by simp)) (hb f (by simp))
        rw [List.flatMap_cons]
        have e0 : opBytes ⟨k, y, sixV a b c d e f⟩ = [k, y] ++ sixZ (sixV a b c d e f) := rfl
        rw [e0, hs, List.append_assoc, h2]
        rfl
theorem pAts_back : ∀ (n : Nat) (l ats vs r : List Int), Bytes l → pAts n l = some (ats, vs, r) → ats.length = n ∧ vs.length = n ∧ (ats.zip vs).flatMap valBytes ++ r = l
  | 0, l, ats, vs, r, hb, h => by
    simp [pAts] at h
    obtain ⟨rfl, rfl, rfl⟩ := h
    exact ⟨rfl, rfl, rfl⟩
  | n + 1, l, ats, vs, r, hb, h => by
    by_cases h7 : ∃ k a b c d e f u, l = k :: a :: b :: c :: d :: e :: f :: u
    · obtain ⟨k, a, b, c, d, e, f, u, rfl⟩ := h7
      rw [pAts] at h
      cases hp : pAts n u with
      | none => rw [hp] at h; cases h
      | some p =>
        obtain ⟨p1, p2, p3⟩ := p
        rw [hp] at h
        simp only [Option.map_some, Option.some.injEq, Prod.mk.injEq] at h
        obtain ⟨rfl, rfl, rfl⟩ := h
        obtain ⟨h1, h2, h3⟩ := pAts_back n u p1 p2 p3 (fun z hz => hb z (by simp [hz])) hp
        refine ⟨by simp [h1], by simp [h2], ?_⟩
        have hs := sixZ_sixV (hb a (by simp)) (hb b (by simp)) (hb c (by simp)) (hb d (by simp)) (hb e (by simp)) (hb f (by simp))
        have e0 : ((k :: p1).zip (sixV a b c d e f :: p2)).flatMap valBytes = (k :: sixZ (sixV a b c d e f)) ++ (p1.zip p2).flatMap valBytes := rfl
        rw [e0, hs, List.append_assoc, h3]
        rfl
    · exfalso
      match l, h, h7 with
      | [], h, _ => simp [pAts] at h
      | [_], h, _ => simp [pAts] at h
      | [_, _], h, _ => simp [pAts] at h
      | [_, _, _], h, _ => simp [pAts] at h
      | [_, _, _, _], h, _ => simp [pAts] at h
      | [_, _, _, _, _], h, _ => simp [pAts] at h
      | [_, _, _, _, _, _], h, _ => simp [pAts] at h
      | k :: a :: b :: c :: d :: e :: f :: u, _, h7 => exact h7 ⟨k, a, b, c, d, e, f, u, rfl⟩
theorem enc_parse {l r : List Int} {f : GFrame} (hb : Bytes l) (h : parseR l = some (f, r)) : encZ f ++ r = l := by
  match l, h, hb with
  | [], h, _ => cases h
  | [_], h, _ => cases h
  | [_, _], h, _ => cases h
  | [_, _, _], h, _ => cases h
  | kd :: nd :: id :: no :: u, h, hb =>
    rw [parseR] at h
    have hno := hb no (by simp)
    cases hp : pOps no.toNat u with
    | none => rw [hp] at h; cases h
    | some p =>
      obtain ⟨os, r1⟩ := p
      rw [hp] at h
      simp only [Option.bind_some] at h
      obtain ⟨o1, o2, o3⟩ := pOps_back no.toNat u os r1 (fun z hz => hb z (by simp [hz])) hp
      cases r1 with
      | nil => cases h
      | cons m r2 =>
        have hm0 := o3 m (by simp)
        rw [pRest] at h
        unfold pDeps at h
        by_cases hm : m.toNat ≤ r2.length
        · rw [if_pos hm] at h
          simp only [Option.bind_some] at h
          cases hr : r2.drop m.toNat with
          | nil => rw [hr] at h; cases h
          | cons k r4 =>
            have hk0 : 0 ≤ k ∧ k < 256 := o3 k (List.mem_cons_of_mem _ (List.mem_of_mem_drop (by rw [hr]; exact List.mem_cons_self)))
            rw [hr, pTail] at h
            cases hz : pAts k.toNat r4 with
            | none => rw [hz] at h; cases h
            | some z =>
              obtain ⟨z1, z2, z3⟩ := z
              rw [hz] at h
              simp only [Option.map_some, Option.some.injEq, Prod.mk.injEq] at h
              obtain ⟨rfl, rfl⟩ := h
              have hb4 : Bytes r4 := fun c hc => o3 c (List.mem_cons_of_mem _ (List.mem_of_mem_drop (by rw [hr]; exact List.mem_cons_of_mem _ hc)))
              obtain ⟨a1, a2, a3⟩ := pAts_back k.toNat r4 z1 z2 z3 hb4 hz
              unfold encZ
              simp only [List.append_assoc, List.cons_append, List.nil_append]
              have l1 : (os.length : Int) = no := by rw [o1]; omega
              have l2 : ((r2.take m.toNat).length : Int) = m := by rw [List.length_take]; omega
              have l3 : (z1.length : Int) = k := by rw [a1]; omega
              rw [l1, l2, l3, a3, ← hr, List.take_append_drop, o2]
        · rw [if_neg hm] at h; cases h

/-! Texts. -/
theorem byL_str {l : List Int} (h : Bytes l) : byL (strOfNums l) = l := by
  unfold byL
  rw [strOfNums_data, List.map_map]
  have : ∀ x ∈ l, ((fun b : UInt8 => (b.toNat : Int)) ∘ fun n : Int => UInt8.ofNat n.toNat) x = x := by
    intro x hx
    have := h x hx
    show (((UInt8.ofNat x.toNat).toNat : Nat) : Int) = x
    rw [UInt8.toNat_ofNat_of_lt' (by show x.toNat < 256; omega)]
    omega
  rw [List.map_congr_left this]
  simp
theorem str_byL (s : ByteArray) : strOfNums (byL s) = s := by
  apply str_ext
  rw [strOfNums_data]
  unfold byL
  rw [List.map_map]
  have : ∀ b ∈ s.data.toList, ((fun n : Int => UInt8.ofNat n.toNat) ∘ fun b : UInt8 => (b.toNat : Int)) b = b := by
    intro b _
    show UInt8.ofNat ((b.toNat : Int)).toNat = b
    simp
  rw [List.map_congr_left this]
  simp
theorem enc_bytes {f : GFrame} (hf : FOk f) : Bytes (encZ f) ∧ (encZ f).length ≤ 100 := by
  have six : ∀ (n c : Int), c ∈ sixZ n → 0 ≤ c ∧ c < 256 := by
    intro n c hc
    unfold sixZ at hc
    simp only [List.mem_cons, List.not_mem_nil, or_false] at hc
    omega
  have hlen6 : ∀ n, (sixZ n).length = 6 := fun n => rfl
  have h1 : ∀ (os : List GOp), (os.flatMap opBytes).length = 8 * os.length := by
    intro os
    induction os with
    | nil => rfl
    | cons o t ih =>
      have e0 : opBytes o = [o.kind, o.key] ++ sixZ o.n := rfl
      rw [List.flatMap_cons, List.length_append, ih, e0]
      simp [hlen6]
      omega
  have h2 : ∀ (zs : List (Int × Int)), (zs.flatMap valBytes).length = 7 * zs.length := by
    intro zs
    induction zs with
    | nil => rfl
    | cons z t ih =>
      have e0 : valBytes z = z.1 :: sixZ z.2 := rfl
      rw [List.flatMap_cons, List.length_append, ih, e0]
      simp [hlen6]
      omega
  have hh := hf.head
  have ho := hf.ops
  have hd := hf.deps
  have ha := hf.at_
  refine ⟨fun c hc => ?_, ?_⟩
  · unfold encZ at hc
    simp only [List.mem_append, List.mem_cons, List.not_mem_nil, or_false, List.mem_flatMap] at hc
    rcases hc with (h | h | h | h) | ⟨o, h, hx⟩ | h | h | h | ⟨z, h, hx⟩
    · omega
    · omega
    · omega
    · omega
    · have := hf.op o h
      have e0 : opBytes o = [o.kind, o.key] ++ sixZ o.n := rfl
      rw [e0] at hx
      simp only [List.mem_append, List.mem_cons, List.not_mem_nil, or_false] at hx
      rcases hx with (h | h) | h
      · omega
      · omega
      · exact six _ _ h
    · omega
    · have := hf.dep c h; omega
    · omega
    · have e0 : valBytes z = z.1 :: sixZ z.2 := rfl
      rw [e0] at hx
      rcases List.mem_cons.1 hx with h3 | h3
      · have := hf.ats z.1 (List.of_mem_zip h).1
        omega
      · exact six _ _ h3
  · unfold encZ
    simp only [List.length_append, List.length_cons, List.length_nil, h1, h2, List.length_zip]
    omega

/-! Laws. -/
theorem keepSameOps_l1_eq {a : List GOp} (ha : a.length ≤ 9000000000000000) : ∀ (n m k : Nat), a.length = k + m → m < n → keepSameOps_l1 a a n k = some true
  | 0, m, k, _, h => absurd h (by omega)
  | n + 1, 0, k, hk, _ => by rw [keepSameOps_l1, bif_f (dec_f (by omega))]
  | n + 1, m + 1, k, hk, hn => by
    obtain ⟨x, hx⟩ : ∃ x, a[k]? = some x := ⟨a[k], by simp⟩
    have := keepSameOps_l1_eq ha n m (k + 1) (by omega) (by omega)
    rw [keepSameOps_l1, bif_t (dec_t (by omega)), idx_nat, hx, some_bind, some_bind, bif_f (by simp), wr64 (by omega) (by omega)]
    simpa using this
theorem keepSameOpsD_refl {a : List GOp} {fu : Nat} (ha : a.length ≤ 9000000000000000) (hf : a.length < fu) : keepSameOpsD fu a a = some true := by
  rw [keepSameOpsD, bif_f (by simp)]
  exact keepSameOps_l1_eq ha fu a.length 0 (by omega) hf
theorem keepSameNumbersW_l1_eq {a : List Int} (ha : a.length ≤ 9000000000000000) : ∀ (n m k : Nat), a.length = k + m → m < n → keepSameNumbers_l1 a a n k = some true
  | 0, m, k, _, h => absurd h (by omega)
  | n + 1, 0, k, hk, _ => by rw [keepSameNumbers_l1, bif_f (dec_f (by omega))]
  | n + 1, m + 1, k, hk, hn => by
    obtain ⟨x, hx⟩ : ∃ x, a[k]? = some x := ⟨a[k], by simp⟩
    have := keepSameNumbersW_l1_eq ha n m (k + 1) (by omega) (by omega)
    rw [keepSameNumbers_l1, bif_t (dec_t (by omega)), idx_nat, hx, some_bind, some_bind, bif_f (by simp), wr64 (by omega) (by omega)]
    simpa using this
theorem keepSameNumbersW_refl {a : List Int} {fu : Nat} (ha : a.length ≤ 9000000000000000) (hf : a.length < fu) : keepSameNumbersD fu a a = some true := by
  rw [keepSameNumbersD, bif_f (by simp)]
  exact keepSameNumbersW_l1_eq ha fu a.length 0 (by omega) hf
theorem keepSameFrameD_refl {f : GFrame} {fu : Nat} (h1 : f.ops.length ≤ 100) (h2 : f.deps.length ≤ 100) (h3 : f.at_.length ≤ 100) (h4 : f.vals.length ≤ 100) (hf : 101 ≤ fu) : keepSameFrameD fu f f = some true := by
  unfold keepSameFrameD keepSameFrame_j1
  rw [bif_t (by simp), bif_t (by simp), bif_t (by simp), keepSameOpsD_refl (by omega) (by omega), some_bind, bif_t rfl, keepSameNumbersW_refl (by omega) (by omega), some_bind, bif_t rfl, keepSameNumbersW_refl (by omega) (by omega), some_bind, bif_t rfl, keepSameNumbersW_refl (by omega) (by omega), some_bind]
theorem keepFramesD_eq {fu : Nat} (hfu : 40 ≤ fu) : keepFramesD fu = some true := by
  unfold keepFramesD
  rw [some_bind, encodeD_eq _ hfu, some_bind]
  decide +kernel

theorem decZ_cases (l : List Int) : (∃ f, parseR l = some (f, []) ∧ frameZ f = 0 ∧ decZ l = (f, 0)) ∨ decZ l = (noF, 1) := by
  unfold decZ
  match h : parseR l with
  | none => exact .inr rfl
  | some (f, []) =>
    by_cases hz : frameZ f = 0
    · left
      refine ⟨f, rfl, hz, ?_⟩
      show (bif frameZ f == 0 then (f, 0) else (noF, (1 : Int))) = _
      rw [hz]; rfl
    · right
      have e2 : (frameZ f == 0) = false := by simp [hz]
      show (bif frameZ f == 0 then (f, 0) else (noF, (1 : Int))) = _
      rw [e2]; rfl
  | some (f, _ :: _) => exact .inr rfl
theorem wireOnlyD_eq {s : ByteArray} (hs : s.size ≤ 140737488351232) : wireOnlyD 300 s = some true := by
  unfold wireOnlyD wireOnly_j3 wireOnly_j1 wireOnly_j2 wireOnly_j4
  rw [decodeD_eq (by omega) hs, some_bind, some_bind, keepFramesD_eq (by omega)]
  rcases decZ_cases (byL s) with ⟨f, h1, h2, h3⟩ | h3
  · rw [h3]
    have e := enc_parse (fun c hc => byL_range hc) h1
    rw [List.append_nil] at e
    rw [bif_f (by rfl), some_bind, bif_f (c := !true) rfl, encodeD_eq f (by omega), some_bind]
    unfold encP
    rw [if_pos h2, e, str_byL]
    simp
  · rw [h3]
    have := keepSameFrameD_refl (f := noF) (fu := 300) (by simp [noF]) (by simp [noF]) (by simp [noF]) (by simp [noF]) (by omega)
    rw [bif_t (by rfl), bif_t rfl, some_bind]
    have this : keepSameFrameD 300 noF { kind := Zr.zd, node := Zr.zd, id := Zr.zd, ops := Zr.zd, deps := Zr.zd, at_ := Zr.zd, vals := Zr.zd } = some true := this
    rw [this, some_bind, bif_t rfl, some_bind]

theorem byL_take {s : ByteArray} {k : Nat} (hk : k ≤ s.size) : ∃ s', cutB s none (some (k : Int)) = some s' ∧ byL s' = (byL s).take k := by
  unfold cutB cutOk
  simp only [Option.getD_some, Option.getD_none]
  rw [if_pos (by omega)]
  refine ⟨_, rfl, ?_⟩
  unfold byL
  rw [Go.Lib.extract_data, ← List.map_take]
  rfl
theorem pick_range {x n : Int} (hn : 0 < n) (hn2 : n ≤ 1000) {fu : Nat} : ∃ k : Nat, keepPickD fu x n = some (k : Int) ∧ (k : Int) < n := by
  have hnz : nonz n = some () := if_pos (by omega)
  unfold keepPickD keepPick_j1
  rw [hnz, some_bind]
  have h1 := Int.tmod_lt_of_pos x hn
  have h2 : -n < Int.tmod x n := by
    have := Int.lt_tmod_of_pos x hn
    exact this
  by_cases h : Int.tmod x n < 0
  · refine ⟨(Int.tmod x n + n).toNat, ?_, by omega⟩
    rw [bif_t (dec_t h), wr64 (by omega) (by omega), Int.toNat_of_nonneg (by omega)]
  · refine ⟨(Int.tmod x n).toNat, ?_, by omega⟩
    rw [bif_f (dec_f h), Int.toNat_of_nonneg (by omega)]
theorem wireBackD_eq (f : GFrame) (x : Int) : wireBackD 300 f x = some true := by
  unfold wireBackD wireBack_j3 wireBack_j1 wireBack_j2 wireBack_j4
  rw [encodeD_eq f (by omega), some_bind, keepFramesD_eq (by omega)]
  unfold encP
  by_cases hz : frameZ f = 0
  · have hf := FOk_of hz
    obtain ⟨hb, hl⟩ := enc_bytes hf
    have hby := byL_str hb
    have hsz := byL_len (strOfNums (encZ f))
    rw [hby] at hsz
    have hpar := parse_enc hf []
    rw [List.append_nil] at hpar
    have hpos : 4 ≤ (encZ f).length := by unfold encZ; simp
    rw [if_pos hz]
    dsimp only
    rw [bif_f (by rfl), some_bind, bif_f (c := !true) rfl, byL_empty, hby]
    have hne : (encZ f).isEmpty = false := by
      cases he : encZ f with
      | nil => rw [he] at hpos; simp at hpos
      | cons _ _ => rfl
    rw [hne, bif_f rfl, decodeD_eq (by omega) (by omega), some_bind, some_bind, hby]
    have hdec : decZ (encZ f) = (f, 0) := by
      unfold decZ
      rw [hpar]
      show (bif frameZ f == 0 then (f, 0) else (noF, (1 : Int))) = _
      rw [hz]; rfl
    obtain ⟨k, hk1, hk2⟩ := pick_range (x := x) (n := ((strOfNums (encZ f)).size : Int)) (by omega) (by omega) (fu := 300)
    rw [hdec, hk1, some_bind]
    -- cut off
    have hcut := byL_take (s := strOfNums (encZ f)) (k := k) (by omega)
    rw [hby] at hcut
    obtain ⟨s1, hs1, hs2⟩ := hcut
    have hs1l := byL_len s1
    rw [hs2, List.length_take] at hs1l
    have hd1 : decZ ((encZ f).take k) = (noF, 1) := by
      rcases decZ_cases ((encZ f).take k) with ⟨g, h1, _, _⟩ | h
      · exfalso
        have h2 := parse_more (t := (encZ f).drop k) h1
        rw [List.take_append_drop, hpar] at h2
        simp only [Option.some.injEq, Prod.mk.injEq, List.nil_append] at h2
        have := congrArg List.length h2.2
        rw [List.length_drop] at this
        simp at this
        omega
      · exact h
    rw [hs1, some_bind, decodeD_eq (by omega) (by omega), some_bind, some_bind, hs2, hd1]
    -- with more behind
    have hx1 : (⟨#[120]⟩ : ByteArray) = strOfNums [120] := by decide
    have hcat : cat (strOfNums (encZ f)) (⟨#[120]⟩ : ByteArray) = some (strOfNums (encZ f ++ [120])) := by
      rw [hx1]
      exact cat_str (by simp; omega)
    have hb2 : Bytes (encZ f ++ [120]) := fun c hc => by
      rcases List.mem_append.1 hc with h | h
      · exact hb c h
      · simp at h; omega
    have hsz2 := byL_len (strOfNums (encZ f ++ [120]))
    rw [byL_str hb2] at hsz2
    have hd2 : decZ (encZ f ++ [120]) = (noF, 1) := by
      unfold decZ
      rw [parse_enc hf [120]]
      rfl
    rw [hcat, some_bind, decodeD_eq (by omega) (by rw [← hsz2]; simp; omega), some_bind, some_bind, byL_str hb2, hd2]
    have ha := hf.at_
    have hv := hf.vals
    rw [bif_t (by rfl), keepSameFrameD_refl (by have := hf.ops; omega) (by have := hf.deps; omega) (by omega) (by omega) (by omega), some_bind, bif_t rfl, bif_t (by rfl), bif_t (by rfl), dec_t (by omega)]
  · rw [if_neg hz]
    have e2 : (frameZ f != 0) = true := by simp [hz]
    simp only [e2]
    rw [bif_t rfl, bif_t rfl, byL_empty]
    have : byL (strOfNums []) = [] := rfl
    rw [this]
    simp
end Go.Proofs.Ytnfdgjdnlikepab
