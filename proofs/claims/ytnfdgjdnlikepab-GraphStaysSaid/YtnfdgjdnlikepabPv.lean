/- The search for rings: what visit computes. -/
import Derived.Test.YtnfdgjdnlikepabPg
namespace Go.Proofs.Ytnfdgjdnlikepab
open Go.RowKit
open Rep (rep)

def iat (v : Vector Int 32) (k : Nat) : Int := v[k]?.getD 0
theorem idxI {v : Vector Int 32} {k : Nat} (hk : k < 32) : idxV v (k : Int) = some (iat v k) := by rw [idxV_ok hk]; simp [iat, hk]
theorem iat_set {v : Vector Int 32} {k j : Nat} {x : Int} (hk : k < 32) : iat (v.set k x) j = if k = j then x else iat v j := by
  unfold iat
  by_cases hj : j < 32
  · simp only [Vector.getElem?_set]
    by_cases e : k = j
    · subst e; simp
    · simp [e]
  · have hkj : k ≠ j := by omega
    simp [hj, hkj]
theorem iat_zero (k : Nat) : iat (Zr.zd : Vector Int 32) k = 0 := by
  show iat (Vector.replicate 32 0) k = 0
  unfold iat
  by_cases hk : k < 32 <;> simp [hk]

/-- The next one, known or not. -/
def DE (g : GGraph) (a b : Nat) : Prop := a < 32 ∧ (b : Int) ∈ depsAt g a ∧ b < 32

/-- What the search holds. -/
structure Abs (x : GSearch) (l : List Int) (t : Srch) : Prop where
  mark : ∀ k, k < 32 → iat x.mark_ k = (t.mark k : Int)
  low : ∀ k, k < 32 → iat x.low k = (t.low k : Int)
  ring : ∀ k, k < 32 → iat x.ring k = (t.ring k : Int)
  on : ∀ k, k < 32 → bat x.on_ k = decide (k ∈ t.stack)
  stack : l = t.stack.map fun k => ((k : Nat) : Int)
  next : x.next = (t.next : Int)

theorem LI.sub {E : Nat → Nat → Prop} {s t : Srch} {G : List Nat} {n : Nat} {ds ds' : Nat → Prop} (h : LI E s G n t ds) (hs : ∀ d, ds' d → ds d) : LI E s G n t ds' :=
  ⟨h.was, h.white, h.inv, h.ext, h.nmark, h.low_le, h.low_or, h.stack, fun d hd => h.proc d (hs d hd)⟩

/-- What a visit promises, with this much fuel. -/
def VOk (g : GGraph) (fu n : Nat) : Prop := ∀ (x : GSearch) (l : List Int) (t : Srch) (G : List Nat) (m : Nat), x.g = g → Abs x l t → Inv (DE g) t G → t.mark m = 0 → m < 32 → (∀ a ∈ G, Path (DE g) a m) → wh t.mark ≤ n →
  ∃ x' l' t', visit_r fu n x l m = some (x', l') ∧ x'.g = g ∧ Abs x' l' t' ∧ Post (DE g) t t' m G

theorem stack_len {E : Nat → Nat → Prop} {s : Srch} {G : List Nat} (h : Inv E s G) : s.stack.length ≤ 32 := by
  refine nodup_len 32 s.stack ?_ fun x hx => h.lt x (h.pos x hx)
  rw [List.nodup_iff_pairwise_ne]
  refine h.sorted.imp fun {a b} hab => ?_
  rintro rfl
  omega

/-! The ring at the top of the stack. -/
theorem cast_inj {a b : Nat} (h : (a : Int) = b) : a = b := by omega
theorem visit_l4_eq {l : List Int} {y174 : Int} {r : Nat} (C : List Nat) (hC : ∀ c ∈ C, c < 32) (hlen : C.length ≤ 32) : ∀ (n m k : Nat) (x : GSearch), C.length = k + m → m < n →
    ∃ x' : GSearch, visit_l4 l y174 r (C.map fun c => ((c : Nat) : Int)) n x k = ((cutL l none (some y174)).bind fun l2 => some ({ x' with stack := Hole.mk }, l2)) ∧ x'.g = x.g ∧ x'.mark_ = x.mark_ ∧ x'.low = x.low ∧ x'.next = x.next ∧
      (∀ j, iat x'.ring j = if j ∈ C.drop k then (r : Int) else iat x.ring j) ∧ (∀ j, bat x'.on_ j = if j ∈ C.drop k then false else bat x.on_ j)
  | 0, m, k, x, _, h => absurd h (by omega)
  | n + 1, 0, k, x, hk, _ => by
    refine ⟨x, ?_, rfl, rfl, rfl, rfl, fun j => ?_, fun j => ?_⟩
    · rw [visit_l4, bif_f (dec_f (by simp; omega))]
      rfl
    · rw [List.drop_of_length_le (by omega)]; simp
    · rw [List.drop_of_length_le (by omega)]; simp
  | n + 1, m + 1, k, x, hk, hn => by
    have hlt : k < C.length := by omega
    have hc := hC C[k] (List.getElem_mem _)
    obtain ⟨x', h1, h2, h3, h4, h5, h6, h7⟩ := visit_l4_eq (l := l) (y174 := y174) (r := r) C hC hlen n m (k + 1) { x with ring := x.ring.set C[k] (r : Int), on_ := x.on_.set C[k] false } (by omega) (by omega)
    refine ⟨x', ?_, h2, h3, h4, h5, fun j => ?_, fun j => ?_⟩
    · rw [visit_l4, bif_t (dec_t (by simp; omega)), idx_nat, List.getElem?_map, List.getElem?_eq_getElem hlt]
      simp only [Option.map_some, some_bind, inR_ok (show (0 : Int) ≤ ((C[k] : Nat) : Int) by omega) (show ((C[k] : Nat) : Int) < 32 by omega), idxI hc, idxB hc, setV_ok hc, wrs k (show k ≤ 17592186043904 by omega)]
      exact h1
    · rw [h6 j, List.drop_eq_getElem_cons hlt]
      show (if j ∈ C.drop (k + 1) then (r : Int) else iat (x.ring.set C[k] (r : Int)) j) = _
      rw [iat_set hc]
      simp only [List.mem_cons]
      by_cases e : C[k] = j
      · rw [if_pos e, if_pos (show j = C[k] ∨ j ∈ C.drop (k + 1) from .inl e.symm)]; split <;> rfl
      · have e2 : ¬ j = C[k] := fun h => e h.symm
        rw [if_neg e]
        simp only [e2, false_or]
    · rw [h7 j, List.drop_eq_getElem_cons hlt]
      show (if j ∈ C.drop (k + 1) then false else bat (x.on_.set C[k] false) j) = _
      rw [bat_set hc]
      simp only [List.mem_cons]
      by_cases e : C[k] = j
      · rw [if_pos e, if_pos (show j = C[k] ∨ j ∈ C.drop (k + 1) from .inl e.symm)]; split <;> rfl
      · have e2 : ¬ j = C[k] := fun h => e h.symm
        rw [if_neg e]
        simp only [e2, false_or]

theorem visit_l3_eq {fu : Nat} {x : GSearch} {l l2 : List Int} {y174 : Int} (hcut : cutL l (some y174) none = some l2) (C : List Nat) (hlen : C.length ≤ 32) : ∀ (n m k r : Nat), C.length = k + m → m < n → r ∈ C → (∀ i v, i < k → C[i]? = some v → r ≤ v) →
    ∃ r' : Nat, visit_l3 fu x l y174 (C.map fun c => ((c : Nat) : Int)) n r k = visit_l4 l y174 (r' : Int) l2 fu x 0 ∧ r' ∈ C ∧ ∀ v ∈ C, r' ≤ v
  | 0, m, k, r, _, h, _, _ => absurd h (by omega)
  | n + 1, 0, k, r, hk, _, hr, hmin => by
    refine ⟨r, ?_, hr, fun v hv => ?_⟩
    · rw [visit_l3, bif_f (dec_f (by simp; omega)), hcut, some_bind]
    · obtain ⟨i, hi, rfl⟩ := List.getElem_of_mem hv
      exact hmin i _ (by omega) (List.getElem?_eq_getElem hi)
  | n + 1, m + 1, k, r, hk, hn, hr, hmin => by
    have hlt : k < C.length := by omega
    have hmn : min (r : Int) (C[k] : Int) = ((min r C[k] : Nat) : Int) := by
      by_cases h : r ≤ C[k]
      · rw [Nat.min_eq_left h, Int.min_eq_left (by omega)]
      · rw [Nat.min_eq_right (by omega), Int.min_eq_right (by omega)]
    obtain ⟨r', h1, h2, h3⟩ := visit_l3_eq (fu := fu) (x := x) hcut C hlen n m (k + 1) (min r C[k]) (by omega) (by omega) (by
        by_cases h : r ≤ C[k]
        · rw [Nat.min_eq_left h]; exact hr
        · rw [Nat.min_eq_right (by omega)]; exact List.getElem_mem _) (fun i v hi hv => by
        by_cases e : i = k
        · subst e
          rw [List.getElem?_eq_getElem hlt] at hv
          cases hv
          exact Nat.min_le_right _ _
        · exact Nat.le_trans (Nat.min_le_left _ _) (hmin i v (by omega) hv))
    refine ⟨r', ?_, h2, h3⟩
    rw [visit_l3, bif_t (dec_t (by simp; omega)), idx_nat, List.getElem?_map, List.getElem?_eq_getElem hlt]
    simp only [Option.map_some, some_bind]
    rw [hmn, wrs k (by omega)]
    exact h1

theorem visit_l2_eq {fu : Nat} {x : GSearch} {S : List Nat} {m p : Nat} (hlen : S.length ≤ 32) (hp : S[p]? = some m) (hno : ∀ i, p < i → S[i]? ≠ some m) : ∀ (n d : Nat), d < n → p + d < S.length →
    visit_l2 fu m x (S.map fun c => ((c : Nat) : Int)) n ((p + d : Nat) : Int) = (cutL (S.map fun c => ((c : Nat) : Int)) (some (p : Int)) none).bind fun l2 => visit_l3 fu x (S.map fun c => ((c : Nat) : Int)) p l2 fu m 0
  | 0, d, h, _ => absurd h (by omega)
  | n + 1, 0, _, hd => by
    rw [visit_l2, idx_nat, List.getElem?_map, Nat.add_zero, hp]
    simp only [Option.map_some, some_bind]
    rw [bif_f (by simp)]
  | n + 1, d + 1, hn, hd => by
    have ih := visit_l2_eq (fu := fu) (x := x) hlen hp hno n d (by omega) (by omega)
    have hlt : p + (d + 1) < S.length := hd
    have hne := hno (p + (d + 1)) (by omega)
    rw [List.getElem?_eq_getElem hlt] at hne
    rw [visit_l2, idx_nat, List.getElem?_map, List.getElem?_eq_getElem hlt]
    simp only [Option.map_some, some_bind]
    rw [bif_t (by simp only [bne_iff_ne, ne_eq]; exact fun h => hne (by rw [cast_inj h])), wr64 (by omega) (by omega), show (((p + (d + 1) : Nat) : Int) - 1) = ((p + d : Nat) : Int) from by omega]
    exact ih

theorem cutL_drop {α : Type} {l : List α} {p : Nat} (hp : p ≤ l.length) : cutL l (some (p : Int)) none = some (l.drop p) := by
  unfold cutL cutOk
  simp only [Option.getD_some, Option.getD_none]
  rw [if_pos (by omega)]
  simp
theorem cutL_take {α : Type} {l : List α} {p : Nat} (hp : p ≤ l.length) : cutL l none (some (p : Int)) = some (l.take p) := by
  unfold cutL cutOk
  simp only [Option.getD_some, Option.getD_none]
  rw [if_pos (by omega)]
  simp

/-- Behind the loop of a visit. -/
theorem visit_end {fu n : Nat} (hfu : 40 ≤ fu) {g : GGraph} {x : GSearch} {l : List Int} {s t : Srch} {G : List Nat} {m : Nat} {ds : Nat → Prop} (hm : m < 32) (hg : x.g = g) (hA : Abs x l t) (h : LI (DE g) s G m t ds) (hall : ∀ d, DE g m d → ds d) {rec0 : GSearch → List Int → Int → Option (GSearch × List Int)} {xs : List Int} {k : Int} (hk : ¬ k < (xs.length : Int)) :
    ∃ x' l' t', visit_l1 fu m rec0 xs (n + 1) x l k = some (x', l') ∧ x'.g = g ∧ Abs x' l' t' ∧ Post (DE g) s t' m G := by
  rw [visit_l1, bif_f (dec_f hk), inR_ok (by omega) (by omega), some_bind, idxI hm, some_bind, some_bind, idxI hm, some_bind, hA.low m hm, hA.mark m hm]
  by_cases hlow : t.low m = t.mark m
  · rw [bif_f (by simp [hlow])]
    obtain ⟨new, hst, hnew⟩ := h.stack
    have hlen := stack_len h.inv
    have hsl : t.stack.length = s.stack.length + (new.length + 1) := by rw [hst]; simp
    have hp : t.stack[s.stack.length]? = some m := by rw [hst]; simp
    have hno : ∀ i, s.stack.length < i → t.stack[i]? ≠ some m := fun i hi he => by
      obtain ⟨h1, h2⟩ := List.getElem?_eq_some_iff.1 he
      obtain ⟨h3, h4⟩ := List.getElem?_eq_some_iff.1 hp
      have := List.pairwise_iff_getElem.1 h.inv.sorted s.stack.length i h3 h1 hi
      rw [h2, h4] at this
      omega
    have hlm : l = t.stack.map fun c => ((c : Nat) : Int) := hA.stack
    subst hlm
    have e1 := visit_l2_eq (fu := fu) (x := x) (S := t.stack) (m := m) (p := s.stack.length) hlen hp hno fu new.length (by omega) (by omega)
    have e0 : IntKind.wrap .i64 (((t.stack.map fun c => ((c : Nat) : Int)).length : Int) - 1) = ((s.stack.length + new.length : Nat) : Int) := by
      rw [List.length_map, wr64 (by omega) (by omega)]; omega
    have hcut : cutL (t.stack.map fun c => ((c : Nat) : Int)) (some (s.stack.length : Int)) none = some ((m :: new).map fun c => ((c : Nat) : Int)) := by
      rw [cutL_drop (by rw [List.length_map]; omega), hst, ← List.map_drop, List.drop_left]
    have hC : ∀ c ∈ m :: new, c < 32 := fun c hc => h.inv.lt c (h.inv.pos c (by rw [hst]; exact List.mem_append_right _ hc))
    have hCl : (m :: new).length ≤ 32 := by rw [List.length_cons]; omega
    rw [e0, e1, hcut, some_bind]
    obtain ⟨r, h3, h4, h5⟩ := visit_l3_eq (fu := fu) (x := x) hcut (m :: new) hCl fu (m :: new).length 0 m (by omega) (by omega) List.mem_cons_self (fun i v hi => by omega)
    have h3 : visit_l3 fu x (t.stack.map fun c => ((c : Nat) : Int)) (s.stack.length : Int) ((m :: new).map fun c => ((c : Nat) : Int)) fu m 0 = _ := h3
    rw [h3]
    obtain ⟨x', k1, k2, k3, k4, k5, k6, k7⟩ := visit_l4_eq (l := t.stack.map fun c => ((c : Nat) : Int)) (y174 := (s.stack.length : Int)) (r := r) (m :: new) hC hCl fu (m :: new).length 0 x (by omega) (by omega)
    have k1 : visit_l4 (t.stack.map fun c => ((c : Nat) : Int)) (s.stack.length : Int) r ((m :: new).map fun c => ((c : Nat) : Int)) fu x 0 = _ := k1
    rw [k1, cutL_take (by rw [List.length_map]; omega), some_bind]
    rw [List.drop_zero] at k6 k7
    refine ⟨_, _, { t with ring := fun v => if v ∈ m :: new then r else t.ring v, stack := s.stack }, rfl, k2.trans hg, ⟨fun j hj => ?_, fun j hj => ?_, fun j hj => ?_, fun j hj => ?_, ?_, ?_⟩, ?_⟩
    · show iat x'.mark_ j = _
      rw [k3]; exact hA.mark j hj
    · show iat x'.low j = _
      rw [k4]; exact hA.low j hj
    · show iat x'.ring j = ((if j ∈ m :: new then r else t.ring j : Nat) : Int)
      rw [k6 j, hA.ring j hj]
      split <;> rfl
    · show bat x'.on_ j = decide (j ∈ s.stack)
      rw [k7 j, hA.on j hj, hst]
      by_cases hj2 : j ∈ m :: new
      · rw [if_pos hj2]
        symm
        rw [decide_eq_false_iff_not]
        intro hs
        have := h.new hst hj2
        have := h.old hs
        omega
      · rw [if_neg hj2]
        congr 1
        rw [List.mem_append]
        simp [hj2]
    · show (t.stack.map fun c => ((c : Nat) : Int)).take s.stack.length = _
      rw [hst, List.map_append, List.take_left' (by simp)]
    · show x'.next = _
      rw [k5]; exact hA.next
    · exact h.pop hall hlow hst (fun v hv => if_pos hv) (fun v hv => if_neg hv) h4 h5
  · rw [bif_t (by simp only [bne_iff_ne, ne_eq]; exact fun e => hlow (cast_inj e))]
    exact ⟨x, l, t, rfl, hg, hA, h.keep hall hlow⟩

theorem visit_l1_eq {fu n N : Nat} {g : GGraph} (hN : Small g N) (hfu : N + 40 ≤ fu) (hV : VOk g fu n) {s : Srch} {G : List Nat} {m : Nat} (hm : m < 32) (hwh : wh s.mark ≤ n + 1) : ∀ (q r k : Nat) (x : GSearch) (l : List Int) (t : Srch), (depsAt g m).length = k + r → r < q → x.g = g → Abs x l t →
    LI (DE g) s G m t (fun d => d < 32 ∧ (d : Int) ∈ (depsAt g m).take k) → ∃ x' l' t', visit_l1 fu m (visit_r fu n) (depsAt g m) q x l k = some (x', l') ∧ x'.g = g ∧ Abs x' l' t' ∧ Post (DE g) s t' m G
  | 0, r, k, x, l, t, _, h, _, _, _ => absurd h (by omega)
  | q + 1, 0, k, x, l, t, hk, _, hg, hA, hL => visit_end (by omega) hm hg hA hL (fun d hd => ⟨hd.2.2, by rw [List.take_of_length_le (by omega)]; exact hd.2.1⟩) (by omega)
  | q + 1, r + 1, k, x, l, t, hk, hq, hg, hA, hL => by
    have hlt : k < (depsAt g m).length := by omega
    have hlen := (hN m).2
    have ih := fun x l t h1 h2 h3 => visit_l1_eq (s := s) (G := G) hN hfu hV hm hwh q r (k + 1) x l t (by omega) (by omega) h1 h2 h3
    have htake : (depsAt g m).take (k + 1) = (depsAt g m).take k ++ [(depsAt g m)[k]] := List.take_succ_eq_append_getElem hlt
    have hmem : (depsAt g m)[k] ∈ depsAt g m := List.getElem_mem _
    rw [visit_l1, bif_t (dec_t (by omega)), idx_nat, List.getElem?_eq_getElem hlt, some_bind]
    simp only [visit_j2, visit_j1, wrs k (by omega)]
    rw [htake] at ih
    generalize (depsAt g m)[k] = y at ih hmem ⊢
    rcases int_cases y with ⟨d, hd, rfl⟩ | hy
    · have hset : ∀ v : Nat, (v < 32 ∧ (v : Int) ∈ (depsAt g m).take k ++ [(d : Int)]) → ((v < 32 ∧ (v : Int) ∈ (depsAt g m).take k) ∨ v = d) := fun v ⟨h1, h2⟩ => by
        rcases List.mem_append.1 h2 with h3 | h3
        · exact .inl ⟨h1, h3⟩
        · exact .inr (cast_inj (by simpa using h3))
      have hE : DE g m d := ⟨hm, hmem, hd⟩
      rw [bif_f (dec_f (by omega)), bif_f (dec_f (by omega)), inR_ok (by omega) (by omega), some_bind, idxI hd, some_bind, hA.mark d hd]
      by_cases h0 : t.mark d = 0
      · rw [bif_t (by simp [h0])]
        have hmm : m ∈ t.stack := by obtain ⟨new, hst, _⟩ := hL.stack; rw [hst]; simp
        have hw2 : wh t.mark ≤ n := by
          have h1 := wh_updN (x := 1) hm hL.white (by omega)
          have h2 : wh t.mark ≤ wh (updN s.mark m 1) := wh_mono fun v hv => by
            by_cases e : v = m
            · subst e; rw [hL.nmark]; omega
            · rw [updN_other _ _ e] at hv
              rw [hL.ext.mark_old v hv]; exact hv
          omega
        obtain ⟨x', l', t', h1, h2, h3, h4⟩ := hV x l t (m :: G) d hg hA hL.inv h0 hd (fun a ha => by
          rcases List.mem_cons.1 ha with rfl | ha
          · exact Path.one hE
          · have h5 := hL.old (hL.was.gray a ha)
            exact (hL.inv.reach a (List.mem_cons_of_mem _ ha) m hmm (by omega)).tail hE) hw2
        rw [h1, some_bind]
        simp only
        simp only [inR_ok (show (0 : Int) ≤ (m : Int) by omega) (show (m : Int) < 32 by omega), idxI hm, idxI hd, setV_ok hm, some_bind]
        have hL2 := (hL.visit h0 hE h4).sub hset
        refine ih _ _ { t' with low := updN t'.low m (min (t'.low m) (t'.low d)) } h2 ⟨h3.mark, fun j hj => ?_, h3.ring, h3.on, h3.stack, h3.next⟩ hL2
        show iat (x'.low.set m _) j = ((updN t'.low m (min (t'.low m) (t'.low d)) j : Nat) : Int)
        rw [iat_set hm, h3.low m hm, h3.low d hd]
        by_cases e : m = j
        · subst e
          rw [if_pos rfl, updN_same]
          by_cases h : t'.low m ≤ t'.low d
          · rw [Nat.min_eq_left h, Int.min_eq_left (by omega)]
          · rw [Nat.min_eq_right (by omega), Int.min_eq_right (by omega)]
        · rw [if_neg e, updN_other _ _ (fun h => e h.symm)]
          exact h3.low j hj
      · rw [bif_f (by simp; omega), some_bind, idxB hd, some_bind, hA.on d hd]
        by_cases hs : d ∈ t.stack
        · rw [bif_t (dec_t hs)]
          simp only [inR_ok (show (0 : Int) ≤ (m : Int) by omega) (show (m : Int) < 32 by omega), idxI hm, setV_ok hm, some_bind]
          have hL2 := (hL.on hs hE).sub hset
          refine ih _ _ { t with low := updN t.low m (min (t.low m) (t.mark d)) } hg ⟨hA.mark, fun j hj => ?_, hA.ring, hA.on, hA.stack, hA.next⟩ hL2
          show iat (x.low.set m _) j = ((updN t.low m (min (t.low m) (t.mark d)) j : Nat) : Int)
          rw [iat_set hm, hA.low m hm]
          by_cases e : m = j
          · subst e
            rw [if_pos rfl, updN_same]
            by_cases h : t.low m ≤ t.mark d
            · rw [Nat.min_eq_left h, Int.min_eq_left (by omega)]
            · rw [Nat.min_eq_right (by omega), Int.min_eq_right (by omega)]
          · rw [if_neg e, updN_other _ _ (fun h => e h.symm)]
            exact hA.low j hj
        · rw [bif_f (dec_f hs)]
          exact ih _ _ _ hg hA ((hL.skip (by omega) hs).sub hset)
    · have hset : ∀ v : Nat, (v < 32 ∧ (v : Int) ∈ (depsAt g m).take k ++ [y]) → (v < 32 ∧ (v : Int) ∈ (depsAt g m).take k) := fun v ⟨h1, h2⟩ => by
        rcases List.mem_append.1 h2 with h3 | h3
        · exact ⟨h1, h3⟩
        · have : (v : Int) = y := by simpa using h3
          exact absurd (show 0 ≤ y ∧ y < 32 by omega) hy
      have := ih x l t hg hA (hL.sub hset)
      by_cases h0 : y < 0
      · rw [bif_t (dec_t h0)]; exact this
      · rw [bif_f (dec_f h0), bif_t (dec_t (by omega))]; exact this

theorem visit_ok_all {fu N : Nat} {g : GGraph} (hN : Small g N) (hfu : N + 40 ≤ fu) : ∀ n, VOk g fu n
  | 0 => fun x l t G m _ _ _ h0 hm _ hw => by
    have := wh_updN (x := 1) hm h0 (by omega)
    omega
  | n + 1 => fun x l t G m hg hA hI h0 hm hG hw => by
    have hc := hI.cnt
    have hw1 := wh_updN (x := 1) hm h0 (by omega)
    have hn : IntKind.wrap .i64 (x.next + 1) = ((t.next + 1 : Nat) : Int) := by rw [hA.next, wr64 (by omega) (by omega)]; omega
    have hsl := stack_len hI
    have hll : l.length = t.stack.length := by rw [hA.stack]; simp
    have hin : inR (m : Int) 32 = some () := inR_ok (by omega) (by omega)
    have happ : app l [(m : Int)] = some (l ++ [(m : Int)]) := app_ok (a := l) (b := [(m : Int)]) (len_bytes (show l.length ≤ 100 by omega))
    rw [visit_r]
    simp only [some_bind, hin, idxI hm, hn, setV_ok hm, happ, idxB hm]
    rw [hg, idxD hm, some_bind]
    have hL := LI.start hI hm h0 hG
    refine visit_l1_eq hN hfu (visit_ok_all hN hfu n) hm hw fu (depsAt g m).length 0 _ _ (startT t m) (by omega) (by have := (hN m).1; omega) rfl ⟨fun j hj => ?_, fun j hj => ?_, hA.ring, fun j hj => ?_, ?_, rfl⟩ (hL.sub fun d hd => by simp at hd)
    · show iat (x.mark_.set m _) j = ((updN t.mark m (t.next + 1) j : Nat) : Int)
      rw [iat_set hm]
      by_cases e : m = j
      · subst e; rw [if_pos rfl, updN_same]
      · rw [if_neg e, updN_other _ _ (fun h => e h.symm)]; exact hA.mark j hj
    · show iat (x.low.set m _) j = ((updN t.low m (t.next + 1) j : Nat) : Int)
      rw [iat_set hm]
      by_cases e : m = j
      · subst e; rw [if_pos rfl, updN_same]
      · rw [if_neg e, updN_other _ _ (fun h => e h.symm)]; exact hA.low j hj
    · show bat (x.on_.set m true) j = decide (j ∈ t.stack ++ [m])
      rw [bat_set hm, hA.on j hj]
      by_cases e : m = j
      · subst e; simp
      · have e2 : ¬ j = m := fun h => e h.symm
        simp [e, e2]
    · show l ++ [(m : Int)] = (t.stack ++ [m]).map _
      rw [hA.stack]; simp

/-- A visit of a search that has just begun. -/
theorem visitD_eq {fu N : Nat} {g : GGraph} (hN : Small g N) (hfu : N + 40 ≤ fu) {m : Nat} (hm : m < 32) : ∃ x' l', visitD fu { g := g, mark_ := Zr.zd, low := Zr.zd, on_ := Zr.zd, stack := Zr.zd, ring := Zr.zd, next := Zr.zd } [] m = some (x', l') ∧ x'.g = g ∧
    (∀ k, k < 32 → (0 < iat x'.mark_ k ↔ Path (DE g) m k)) ∧ (∀ k, k < 32 → 0 ≤ iat x'.mark_ k) ∧ ∀ k, k < 32 → Path (DE g) m k → ∃ r : Nat, iat x'.ring k = r ∧ Least (DE g) k r := by
  let t0 : Srch := ⟨fun _ => 0, fun _ => 0, fun _ => 0, [], 0⟩
  have hI : Inv (DE g) t0 [] := Inv.empty (fun _ => rfl) rfl rfl
  have hw : wh t0.mark ≤ fu := by have := hI.cnt; omega
  obtain ⟨x', l', t', h1, h2, h3, h4⟩ := visit_ok_all hN hfu fu { g := g, mark_ := Zr.zd, low := Zr.zd, on_ := Zr.zd, stack := Zr.zd, ring := Zr.zd, next := Zr.zd } [] t0 [] m rfl
    ⟨fun k _ => iat_zero k, fun k _ => iat_zero k, fun k _ => iat_zero k, fun k _ => by rw [bat_zero]; rfl, rfl, rfl⟩ hI rfl hm (by simp) hw
  obtain ⟨h5, h6⟩ := h4.final fun _ => rfl
  refine ⟨x', l', h1, h2, fun k hk => ?_, fun k hk => ?_, fun k hk hp => ⟨t'.ring k, h3.ring k hk, h6 k hp⟩⟩
  · rw [h3.mark k hk, ← h5 k]; omega
  · rw [h3.mark k hk]; omega
end Go.Proofs.Ytnfdgjdnlikepab
