/- What the proof of NodeSorted rests on, part 4: rules of walks, what functions compute, and plain laws of it. -/
import Derived.Test.YtopgdemmdcipcaaNodeSortedB3
import Derived.ProofKit
import Derived.OpenShut
import Derived.ShutString
import Derived.ChangeOld
import Derived.SizedLaws
import Derived.Deep.Slices
namespace Go.Proofs.Ytopgdemmdcipcaa
open Go.RowKit
open Rep (rep)
def iat (v : Vector Int 32) (k : Nat) : Int := v[k]?.getD 0
theorem idxI {v : Vector Int 32} {k : Nat} (hk : k < 32) : idxV v (k : Int) = some (iat v k) := by rw [idxV_ok hk]; simp [iat, hk]
theorem iat_set {v : Vector Int 32} {k j : Nat} {x : Int} (hk : k < 32) : iat (v.set k x) j = if k = j then x else iat v j := by
  unfold iat
  by_cases hj : j < 32
  · simp only [Vector.getElem?_set]
    by_cases e : k = j
    · subst e; simp
    · simp [e]
  · have hkj : k ≠ j := by omega
    simp [hj, hkj]
theorem iat_zero (k : Nat) : iat (Zr.zd : Vector Int 32) k = 0 := by
  show iat (Vector.replicate 32 0) k = 0
  unfold iat
  by_cases hk : k < 32 <;> simp [hk]
def DE (g : GGraph) (a b : Nat) : Prop := a < 32 ∧ (b : Int) ∈ depsAt g a ∧ b < 32
structure Abs (x : GSearch) (l : List Int) (t : Srch) : Prop where
  mark : ∀ k, k < 32 → iat x.mark_ k = (t.mark k : Int)
  low : ∀ k, k < 32 → iat x.low k = (t.low k : Int)
  ring : ∀ k, k < 32 → iat x.ring k = (t.ring k : Int)
  on : ∀ k, k < 32 → bat x.on_ k = decide (k ∈ t.stack)
  stack : l = t.stack.map fun k => ((k : Nat) : Int)
  next : x.next = (t.next : Int)
theorem LI.sub {E : Nat → Nat → Prop} {s t : Srch} {G : List Nat} {n : Nat} {ds ds' : Nat → Prop} (h : LI E s G n t ds) (hs : ∀ d, ds' d → ds d) : LI E s G n t ds' :=
  ⟨h.was, h.white, h.inv, h.ext, h.nmark, h.low_le, h.low_or, h.stack, fun d hd => h.proc d (hs d hd)⟩
def VOk (g : GGraph) (fu n : Nat) : Prop := ∀ (x : GSearch) (l : List Int) (t : Srch) (G : List Nat) (m : Nat), x.g = g → Abs x l t → Inv (DE g) t G → t.mark m = 0 → m < 32 → (∀ a ∈ G, Path (DE g) a m) → wh t.mark ≤ n →
  ∃ x' l' t', visit_r fu n x l m = some (x', l') ∧ x'.g = g ∧ Abs x' l' t' ∧ Post (DE g) t t' m G
theorem stack_len {E : Nat → Nat → Prop} {s : Srch} {G : List Nat} (h : Inv E s G) : s.stack.length ≤ 32 := by
  refine nodup_len 32 s.stack ?_ fun x hx => h.lt x (h.pos x hx)
  rw [List.nodup_iff_pairwise_ne]
  refine h.sorted.imp fun {a b} hab => ?_
  rintro rfl
  omega
theorem cast_inj {a b : Nat} (h : (a : Int) = b) : a = b := by omega
theorem visit_l4_eq {l : List Int} {y174 : Int} {r : Nat} (C : List Nat) (hC : ∀ c ∈ C, c < 32) (hlen : C.length ≤ 32) : ∀ (n m k : Nat) (x : GSearch), C.length = k + m → m < n →
    ∃ x' : GSearch, visit_l4 l y174 r (C.map fun c => ((c : Nat) : Int)) n x k = ((cutL l none (some y174)).bind fun l2 => some ({ x' with stack := Hole.mk }, l2)) ∧ x'.g = x.g ∧ x'.mark_ = x.mark_ ∧ x'.low = x.low ∧ x'.next = x.next ∧
      (∀ j, iat x'.ring j = if j ∈ C.drop k then (r : Int) else iat x.ring j) ∧ (∀ j, bat x'.on_ j = if j ∈ C.drop k then false else bat x.on_ j)
  | 0, m, k, x, _, h => absurd h (by omega)
  | n + 1, 0, k, x, hk, _ => by
    refine ⟨x, ?_, rfl, rfl, rfl, rfl, fun j => ?_, fun j => ?_⟩
    · rw [visit_l4, bif_f (dec_f (by simp; omega))]
      rfl
    · rw [List.drop_of_length_le (by omega)]; simp
    · rw [List.drop_of_length_le (by omega)]; simp
  | n + 1, m + 1, k, x, hk, hn => by
    have hlt : k < C.length := by omega
    have hc := hC C[k] (List.getElem_mem _)
    obtain ⟨x', h1, h2, h3, h4, h5, h6, h7⟩ := visit_l4_eq (l := l) (y174 := y174) (r := r) C hC hlen n m (k + 1) { x with ring := x.ring.set C[k] (r : Int), on_ := x.on_.set C[k] false } (by omega) (by omega)
    refine ⟨x', ?_, h2, h3, h4, h5, fun j => ?_, fun j => ?_⟩
    · rw [visit_l4, bif_t (dec_t (by simp; omega)), idx_nat, List.getElem?_map, List.getElem?_eq_getElem hlt]
      simp only [Option.map_some, some_bind, inR_ok (show (0 : Int) ≤ ((C[k] : Nat) : Int) by omega) (show ((C[k] : Nat) : Int) < 32 by omega), idxI hc, idxB hc, setV_ok hc, wrs k (show k ≤ 17592186043904 by omega)]
      exact h1
    · rw [h6 j, List.drop_eq_getElem_cons hlt]
      show (if j ∈ C.drop (k + 1) then (r : Int) else iat (x.ring.set C[k] (r : Int)) j) = _
      rw [iat_set hc]
      simp only [List.mem_cons]
      by_cases e : C[k] = j
      · rw [if_pos e, if_pos (show j = C[k] ∨ j ∈ C.drop (k + 1) from .inl e.symm)]; split <;> rfl
      · have e2 : ¬ j = C[k] := fun h => e h.symm
        rw [if_neg e]
        simp only [e2, false_or]
    · rw [h7 j, List.drop_eq_getElem_cons hlt]
      show (if j ∈ C.drop (k + 1) then false else bat (x.on_.set C[k] false) j) = _
      rw [bat_set hc]
      simp only [List.mem_cons]
      by_cases e : C[k] = j
      · rw [if_pos e, if_pos (show j = C[k] ∨ j ∈ C.drop (k + 1) from .inl e.symm)]; split <;> rfl
      · have e2 : ¬ j = C[k] := fun h => e h.symm
        rw [if_neg e]
        simp only [e2, false_or]
theorem visit_l3_eq {fu : Nat} {x : GSearch} {l l2 : List Int} {y174 : Int} (hcut : cutL l (some y174) none = some l2) (C : List Nat) (hlen : C.length ≤ 32) : ∀ (n m k r : Nat), C.length = k + m → m < n → r ∈ C → (∀ i v, i < k → C[i]? = some v → r ≤ v) →
    ∃ r' : Nat, visit_l3 fu x l y174 (C.map fun c => ((c : Nat) : Int)) n r k = visit_l4 l y174 (r' : Int) l2 fu x 0 ∧ r' ∈ C ∧ ∀ v ∈ C, r' ≤ v
  | 0, m, k, r, _, h, _, _ => absurd h (by omega)
  | n + 1, 0, k, r, hk, _, hr, hmin => by
    refine ⟨r, ?_, hr, fun v hv => ?_⟩
    · rw [visit_l3, bif_f (dec_f (by simp; omega)), hcut, some_bind]
    · obtain ⟨i, hi, rfl⟩ := List.getElem_of_mem hv
      exact hmin i _ (by omega) (List.getElem?_eq_getElem hi)
  | n + 1, m + 1, k, r, hk, hn, hr, hmin => by
    have hlt : k < C.length := by omega
    have hmn : min (r : Int) (C[k] : Int) = ((min r C[k] : Nat) : Int) := by
      by_cases h : r ≤ C[k]
      · rw [Nat.min_eq_left h, Int.min_eq_left (by omega)]
      · rw [Nat.min_eq_right (by omega), Int.min_eq_right (by omega)]
    obtain ⟨r', h1, h2, h3⟩ := visit_l3_eq (fu := fu) (x := x) hcut C hlen n m (k + 1) (min r C[k]) (by omega) (by omega) (by
        by_cases h : r ≤ C[k]
        · rw [Nat.min_eq_left h]; exact hr
        · rw [Nat.min_eq_right (by omega)]; exact List.getElem_mem _) (fun i v hi hv => by
        by_cases e : i = k
        · subst e
          rw [List.getElem?_eq_getElem hlt] at hv
          cases hv
          exact Nat.min_le_right _ _
        · exact Nat.le_trans (Nat.min_le_left _ _) (hmin i v (by omega) hv))
    refine ⟨r', ?_, h2, h3⟩
    rw [visit_l3, bif_t (dec_t (by simp; omega)), idx_nat, List.getElem?_map, List.getElem?_eq_getElem hlt]
    simp only [Option.map_some, some_bind]
    rw [hmn, wrs k (by omega)]
    exact h1
theorem visit_l2_eq {fu : Nat} {x : GSearch} {S : List Nat} {m p : Nat} (hlen : S.length ≤ 32) (hp : S[p]? = some m) (hno : ∀ i, p < i → S[i]? ≠ some m) : ∀ (n d : Nat), d < n → p + d < S.length →
    visit_l2 fu m x (S.map fun c => ((c : Nat) : Int)) n ((p + d : Nat) : Int) = (cutL (S.map fun c => ((c : Nat) : Int)) (some (p : Int)) none).bind fun l2 => visit_l3 fu x (S.map fun c => ((c : Nat) : Int)) p l2 fu m 0
  | 0, d, h, _ => absurd h (by omega)
  | n + 1, 0, _, hd => by
    rw [visit_l2, idx_nat, List.getElem?_map, Nat.add_zero, hp]
    simp only [Option.map_some, some_bind]
    rw [bif_f (by simp)]
  | n + 1, d + 1, hn, hd => by
    have ih := visit_l2_eq (fu := fu) (x := x) hlen hp hno n d (by omega) (by omega)
    have hlt : p + (d + 1) < S.length := hd
    have hne := hno (p + (d + 1)) (by omega)
    rw [List.getElem?_eq_getElem hlt] at hne
    rw [visit_l2, idx_nat, List.getElem?_map, List.getElem?_eq_getElem hlt]
    simp only [Option.map_some, some_bind]
    rw [bif_t (by simp only [bne_iff_ne, ne_eq]; exact fun h => hne (by rw [cast_inj h])), wr64 (by omega) (by omega), show (((p + (d + 1) : Nat) : Int) - 1) = ((p + d : Nat) : Int) from by omega]
    exact ih
theorem cutL_drop {α : Type} {l : List α} {p : Nat} (hp : p ≤ l.length) : cutL l (some (p : Int)) none = some (l.drop p) := by
  unfold cutL cutOk
  simp only [Option.getD_some, Option.getD_none]
  rw [if_pos (by omega)]
  simp
theorem cutL_take {α : Type} {l : List α} {p : Nat} (hp : p ≤ l.length) : cutL l none (some (p : Int)) = some (l.take p) := by
  unfold cutL cutOk
  simp only [Option.getD_some, Option.getD_none]
  rw [if_pos (by omega)]
  simp
theorem visit_end {fu n : Nat} (hfu : 40 ≤ fu) {g : GGraph} {x : GSearch} {l : List Int} {s t : Srch} {G : List Nat} {m : Nat} {ds : Nat → Prop} (hm : m < 32) (hg : x.g = g) (hA : Abs x l t) (h : LI (DE g) s G m t ds) (hall : ∀ d, DE g m d → ds d) {rec0 : GSearch → List Int → Int → Option (GSearch × List Int)} {xs : List Int} {k : Int} (hk : ¬ k < (xs.length : Int)) :
    ∃ x' l' t', visit_l1 fu m rec0 xs (n + 1) x l k = some (x', l') ∧ x'.g = g ∧ Abs x' l' t' ∧ Post (DE g) s t' m G := by
  rw [visit_l1, bif_f (dec_f hk), inR_ok (by omega) (by omega), some_bind, idxI hm, some_bind, some_bind, idxI hm, some_bind, hA.low m hm, hA.mark m hm]
  by_cases hlow : t.low m = t.mark m
  · rw [bif_f (by simp [hlow])]
    obtain ⟨new, hst, hnew⟩ := h.stack
    have hlen := stack_len h.inv
    have hsl : t.stack.length = s.stack.length + (new.length + 1) := by rw [hst]; simp
    have hp : t.stack[s.stack.length]? = some m := by rw [hst]; simp
    have hno : ∀ i, s.stack.length < i → t.stack[i]? ≠ some m := fun i hi he => by
      obtain ⟨h1, h2⟩ := List.getElem?_eq_some_iff.1 he
      obtain ⟨h3, h4⟩ := List.getElem?_eq_some_iff.1 hp
      have := List.pairwise_iff_getElem.1 h.inv.sorted s.stack.length i h3 h1 hi
      rw [h2, h4] at this
      omega
    have hlm : l = t.stack.map fun c => ((c : Nat) : Int) := hA.stack
    subst hlm
    have e1 := visit_l2_eq (fu := fu) (x := x) (S := t.stack) (m := m) (p := s.stack.length) hlen hp hno fu new.length (by omega) (by omega)
    have e0 : IntKind.wrap .i64 (((t.stack.map fun c => ((c : Nat) : Int)).length : Int) - 1) = ((s.stack.length + new.length : Nat) : Int) := by
      rw [List.length_map, wr64 (by omega) (by omega)]; omega
    have hcut : cutL (t.stack.map fun c => ((c : Nat) : Int)) (some (s.stack.length : Int)) none = some ((m :: new).map fun c => ((c : Nat) : Int)) := by
      rw [cutL_drop (by rw [List.length_map]; omega), hst, ← List.map_drop, List.drop_left]
    have hC : ∀ c ∈ m :: new, c < 32 := fun c hc => h.inv.lt c (h.inv.pos c (by rw [hst]; exact List.mem_append_right _ hc))
    have hCl : (m :: new).length ≤ 32 := by rw [List.length_cons]; omega
    rw [e0, e1, hcut, some_bind]
    obtain ⟨r, h3, h4, h5⟩ := visit_l3_eq (fu := fu) (x := x) hcut (m :: new) hCl fu (m :: new).length 0 m (by omega) (by omega) List.mem_cons_self (fun i v hi => by omega)
    have h3 : visit_l3 fu x (t.stack.map fun c => ((c : Nat) : Int)) (s.stack.length : Int) ((m :: new).map fun c => ((c : Nat) : Int)) fu m 0 = _ := h3
    rw [h3]
    obtain ⟨x', k1, k2, k3, k4, k5, k6, k7⟩ := visit_l4_eq (l := t.stack.map fun c => ((c : Nat) : Int)) (y174 := (s.stack.length : Int)) (r := r) (m :: new) hC hCl fu (m :: new).length 0 x (by omega) (by omega)
    have k1 : visit_l4 (t.stack.map fun c => ((c : Nat) : Int)) (s.stack.length : Int) r ((m :: new).map fun c => ((c : Nat) : Int)) fu x 0 = _ := k1
    rw [k1, cutL_take (by rw [List.length_map]; omega), some_bind]
    rw [List.drop_zero] at k6 k7
    refine ⟨_, _, { t with ring := fun v => if v ∈ m :: new then r else t.ring v, stack := s.stack }, rfl, k2.trans hg, ⟨fun j hj => ?_, fun j hj => ?_, fun j hj => ?_, fun j hj => ?_, ?_, ?_⟩, ?_⟩
    · show iat x'.mark_ j = _
      rw [k3]; exact hA.mark j hj
    · show iat x'.low j = _
      rw [k4]; exact hA.low j hj
    · show iat x'.ring j = ((if j ∈ m :: new then r else t.ring j : Nat) : Int)
      rw [k6 j, hA.ring j hj]
      split <;> rfl
    · show bat x'.on_ j = decide (j ∈ s.stack)
      rw [k7 j, hA.on j hj, hst]
      by_cases hj2 : j ∈ m :: new
      · rw [if_pos hj2]
        symm
        rw [decide_eq_false_iff_not]
        intro hs
        have := h.new hst hj2
        have := h.old hs
        omega
      · rw [if_neg hj2]
        congr 1
        rw [List.mem_append]
        simp [hj2]
    · show (t.stack.map fun c => ((c : Nat) : Int)).take s.stack.length = _
      rw [hst, List.map_append, List.take_left' (by simp)]
    · show x'.next = _
      rw [k5]; exact hA.next
    · exact h.pop hall hlow hst (fun v hv => if_pos hv) (fun v hv => if_neg hv) h4 h5
  · rw [bif_t (by simp only [bne_iff_ne, ne_eq]; exact fun e => hlow (cast_inj e))]
    exact ⟨x, l, t, rfl, hg, hA, h.keep hall hlow⟩
theorem visit_l1_eq {fu n N : Nat} {g : GGraph} (hN : Small g N) (hfu : N + 40 ≤ fu) (hV : VOk g fu n) {s : Srch} {G : List Nat} {m : Nat} (hm : m < 32) (hwh : wh s.mark ≤ n + 1) : ∀ (q r k : Nat) (x : GSearch) (l : List Int) (t : Srch), (depsAt g m).length = k + r → r < q → x.g = g → Abs x l t →
    LI (DE g) s G m t (fun d => d < 32 ∧ (d : Int) ∈ (depsAt g m).take k) → ∃ x' l' t', visit_l1 fu m (visit_r fu n) (depsAt g m) q x l k = some (x', l') ∧ x'.g = g ∧ Abs x' l' t' ∧ Post (DE g) s t' m G
  | 0, r, k, x, l, t, _, h, _, _, _ => absurd h (by omega)
  | q + 1, 0, k, x, l, t, hk, _, hg, hA, hL => visit_end (by omega) hm hg hA hL (fun d hd => ⟨hd.2.2, by rw [List.take_of_length_le (by omega)]; exact hd.2.1⟩) (by omega)
  | q + 1, r + 1, k, x, l, t, hk, hq, hg, hA, hL => by
    have hlt : k < (depsAt g m).length := by omega
    have hlen := (hN m).2
    have ih := fun x l t h1 h2 h3 => visit_l1_eq (s := s) (G := G) hN hfu hV hm hwh q r (k + 1) x l t (by omega) (by omega) h1 h2 h3
    have htake : (depsAt g m).take (k + 1) = (depsAt g m).take k ++ [(depsAt g m)[k]] := List.take_succ_eq_append_getElem hlt
    have hmem : (depsAt g m)[k] ∈ depsAt g m := List.getElem_mem _
    rw [visit_l1, bif_t (dec_t (by omega)), idx_nat, List.getElem?_eq_getElem hlt, some_bind]
    simp only [visit_j2, visit_j1, wrs k (by omega)]
    rw [htake] at ih
    generalize (depsAt g m)[k] = y at ih hmem ⊢
    rcases int_cases y with ⟨d, hd, rfl⟩ | hy
    · have hset : ∀ v : Nat, (v < 32 ∧ (v : Int) ∈ (depsAt g m).take k ++ [(d : Int)]) → ((v < 32 ∧ (v : Int) ∈ (depsAt g m).take k) ∨ v = d) := fun v ⟨h1, h2⟩ => by
        rcases List.mem_append.1 h2 with h3 | h3
        · exact .inl ⟨h1, h3⟩
        · exact .inr (cast_inj (by simpa using h3))
      have hE : DE g m d := ⟨hm, hmem, hd⟩
      rw [bif_f (dec_f (by omega)), bif_f (dec_f (by omega)), inR_ok (by omega) (by omega), some_bind, idxI hd, some_bind, hA.mark d hd]
      by_cases h0 : t.mark d = 0
      · rw [bif_t (by simp [h0])]
        have hmm : m ∈ t.stack := by obtain ⟨new, hst, _⟩ := hL.stack; rw [hst]; simp
        have hw2 : wh t.mark ≤ n := by
          have h1 := wh_updN (x := 1) hm hL.white (by omega)
          have h2 : wh t.mark ≤ wh (updN s.mark m 1) := wh_mono fun v hv => by
            by_cases e : v = m
            · subst e; rw [hL.nmark]; omega
            · rw [updN_other _ _ e] at hv
              rw [hL.ext.mark_old v hv]; exact hv
          omega
        obtain ⟨x', l', t', h1, h2, h3, h4⟩ := hV x l t (m :: G) d hg hA hL.inv h0 hd (fun a ha => by
          rcases List.mem_cons.1 ha with rfl | ha
          · exact Path.one hE
          · have h5 := hL.old (hL.was.gray a ha)
            exact (hL.inv.reach a (List.mem_cons_of_mem _ ha) m hmm (by omega)).tail hE) hw2
        rw [h1, some_bind]
        simp only
        simp only [inR_ok (show (0 : Int) ≤ (m : Int) by omega) (show (m : Int) < 32 by omega), idxI hm, idxI hd, setV_ok hm, some_bind]
        have hL2 := (hL.visit h0 hE h4).sub hset
        refine ih _ _ { t' with low := updN t'.low m (min (t'.low m) (t'.low d)) } h2 ⟨h3.mark, fun j hj => ?_, h3.ring, h3.on, h3.stack, h3.next⟩ hL2
        show iat (x'.low.set m _) j = ((updN t'.low m (min (t'.low m) (t'.low d)) j : Nat) : Int)
        rw [iat_set hm, h3.low m hm, h3.low d hd]
        by_cases e : m = j
        · subst e
          rw [if_pos rfl, updN_same]
          by_cases h : t'.low m ≤ t'.low d
          · rw [Nat.min_eq_left h, Int.min_eq_left (by omega)]
          · rw [Nat.min_eq_right (by omega), Int.min_eq_right (by omega)]
        · rw [if_neg e, updN_other _ _ (fun h => e h.symm)]
          exact h3.low j hj
      · rw [bif_f (by simp; omega), some_bind, idxB hd, some_bind, hA.on d hd]
        by_cases hs : d ∈ t.stack
        · rw [bif_t (dec_t hs)]
          simp only [inR_ok (show (0 : Int) ≤ (m : Int) by omega) (show (m : Int) < 32 by omega), idxI hm, setV_ok hm, some_bind]
          have hL2 := (hL.on hs hE).sub hset
          refine ih _ _ { t with low := updN t.low m (min (t.low m) (t.mark d)) } hg ⟨hA.mark, fun j hj => ?_, hA.ring, hA.on, hA.stack, hA.next⟩ hL2
          show iat (x.low.set m _) j = ((updN t.low m (min (t.low m) (t.mark d)) j : Nat) : Int)
          rw [iat_set hm, hA.low m hm]
          by_cases e : m = j
          · subst e
            rw [if_pos rfl, updN_same]
            by_cases h : t.low m ≤ t.mark d
            · rw [Nat.min_eq_left h, Int.min_eq_left (by omega)]
            · rw [Nat.min_eq_right (by omega), Int.min_eq_right (by omega)]
          · rw [if_neg e, updN_other _ _ (fun h => e h.symm)]
            exact hA.low j hj
        · rw [bif_f (dec_f hs)]
          exact ih _ _ _ hg hA ((hL.skip (by omega) hs).sub hset)
    · have hset : ∀ v : Nat, (v < 32 ∧ (v : Int) ∈ (depsAt g m).take k ++ [y]) → (v < 32 ∧ (v : Int) ∈ (depsAt g m).take k) := fun v ⟨h1, h2⟩ => by
        rcases List.mem_append.1 h2 with h3 | h3
        · exact ⟨h1, h3⟩
        · have : (v : Int) = y := by simpa using h3
          exact absurd (show 0 ≤ y ∧ y < 32 by omega) hy
      have := ih x l t hg hA (hL.sub hset)
      by_cases h0 : y < 0
      · rw [bif_t (dec_t h0)]; exact this
      · rw [bif_f (dec_f h0), bif_t (dec_t (by omega))]; exact this
theorem visit_ok_all {fu N : Nat} {g : GGraph} (hN : Small g N) (hfu : N + 40 ≤ fu) : ∀ n, VOk g fu n
  | 0 => fun x l t G m _ _ _ h0 hm _ hw => by
    have := wh_updN (x := 1) hm h0 (by omega)
    omega
  | n + 1 => fun x l t G m hg hA hI h0 hm hG hw => by
    have hc := hI.cnt
    have hw1 := wh_updN (x := 1) hm h0 (by omega)
    have hn : IntKind.wrap .i64 (x.next + 1) = ((t.next + 1 : Nat) : Int) := by rw [hA.next, wr64 (by omega) (by omega)]; omega
    have hsl := stack_len hI
    have hll : l.length = t.stack.length := by rw [hA.stack]; simp
    have hin : inR (m : Int) 32 = some () := inR_ok (by omega) (by omega)
    have happ : app l [(m : Int)] = some (l ++ [(m : Int)]) := app_ok (a := l) (b := [(m : Int)]) (len_bytes (show l.length ≤ 100 by omega))
    rw [visit_r]
    simp only [some_bind, hin, idxI hm, hn, setV_ok hm, happ, idxB hm]
    rw [hg, idxD hm, some_bind]
    have hL := LI.start hI hm h0 hG
    refine visit_l1_eq hN hfu (visit_ok_all hN hfu n) hm hw fu (depsAt g m).length 0 _ _ (startT t m) (by omega) (by have := (hN m).1; omega) rfl ⟨fun j hj => ?_, fun j hj => ?_, hA.ring, fun j hj => ?_, ?_, rfl⟩ (hL.sub fun d hd => by simp at hd)
    · show iat (x.mark_.set m _) j = ((updN t.mark m (t.next + 1) j : Nat) : Int)
      rw [iat_set hm]
      by_cases e : m = j
      · subst e; rw [if_pos rfl, updN_same]
      · rw [if_neg e, updN_other _ _ (fun h => e h.symm)]; exact hA.mark j hj
    · show iat (x.low.set m _) j = ((updN t.low m (t.next + 1) j : Nat) : Int)
      rw [iat_set hm]
      by_cases e : m = j
      · subst e; rw [if_pos rfl, updN_same]
      · rw [if_neg e, updN_other _ _ (fun h => e h.symm)]; exact hA.low j hj
    · show bat (x.on_.set m true) j = decide (j ∈ t.stack ++ [m])
      rw [bat_set hm, hA.on j hj]
      by_cases e : m = j
      · subst e; simp
      · have e2 : ¬ j = m := fun h => e h.symm
        simp [e, e2]
    · show l ++ [(m : Int)] = (t.stack ++ [m]).map _
      rw [hA.stack]; simp
theorem visitD_eq {fu N : Nat} {g : GGraph} (hN : Small g N) (hfu : N + 40 ≤ fu) {m : Nat} (hm : m < 32) : ∃ x' l', visitD fu { g := g, mark_ := Zr.zd, low := Zr.zd, on_ := Zr.zd, stack := Zr.zd, ring := Zr.zd, next := Zr.zd } [] m = some (x', l') ∧ x'.g = g ∧
    (∀ k, k < 32 → (0 < iat x'.mark_ k ↔ Path (DE g) m k)) ∧ (∀ k, k < 32 → 0 ≤ iat x'.mark_ k) ∧ ∀ k, k < 32 → Path (DE g) m k → ∃ r : Nat, iat x'.ring k = r ∧ Least (DE g) k r := by
  let t0 : Srch := ⟨fun _ => 0, fun _ => 0, fun _ => 0, [], 0⟩
  have hI : Inv (DE g) t0 [] := Inv.empty (fun _ => rfl) rfl rfl
  have hw : wh t0.mark ≤ fu := by have := hI.cnt; omega
  obtain ⟨x', l', t', h1, h2, h3, h4⟩ := visit_ok_all hN hfu fu { g := g, mark_ := Zr.zd, low := Zr.zd, on_ := Zr.zd, stack := Zr.zd, ring := Zr.zd, next := Zr.zd } [] t0 [] m rfl
    ⟨fun k _ => iat_zero k, fun k _ => iat_zero k, fun k _ => iat_zero k, fun k _ => by rw [bat_zero]; rfl, rfl, rfl⟩ hI rfl hm (by simp) hw
  obtain ⟨h5, h6⟩ := h4.final fun _ => rfl
  refine ⟨x', l', h1, h2, fun k hk => ?_, fun k hk => ?_, fun k hk hp => ⟨t'.ring k, h3.ring k hk, h6 k hp⟩⟩
  · rw [h3.mark k hk, ← h5 k]; omega
  · rw [h3.mark k hk]; omega
end Go.Proofs.Ytopgdemmdcipcaa
namespace Go.Proofs.Ytopgdemmdcipcaa
open Go.RowKit
open Rep (rep)
open Classical in
noncomputable def pathB (g : GGraph) (a b : Nat) : Bool := decide (Path (Edge g) a b)
theorem pathB_iff {g : GGraph} {a b : Nat} : pathB g a b = true ↔ Path (Edge g) a b := by simp [pathB]
theorem pathB_pre (g : GGraph) : Pre (pathB g) :=
  ⟨fun a _ => pathB_iff.2 (.refl a), fun a b c h1 h2 => pathB_iff.2 ((pathB_iff.1 h1).trans (pathB_iff.1 h2)), fun a b ha h => path_lt (pathB_iff.1 h) ha⟩
noncomputable def orderZ (g : GGraph) (x : Int) : List Int := if readyZ g x = true then (orderS (pathB g) x.toNat).map (fun k => ((k : Nat) : Int)) else []
def castL (l : List Nat) : List Int := l.map fun k => ((k : Nat) : Int)
theorem castL_len (l : List Nat) : (castL l).length = l.length := by simp [castL]
theorem castL_snoc (l : List Nat) (k : Nat) : castL l ++ [(k : Int)] = castL (l ++ [k]) := by simp [castL]
theorem mem_castL {l : List Nat} {k : Nat} : (k : Int) ∈ castL l ↔ k ∈ l := by
  unfold castL
  rw [List.mem_map]
  constructor
  · rintro ⟨a, ha, e⟩
    have : a = k := cast_inj e
    subst this; exact ha
  · exact fun h => ⟨k, h, rfl⟩
theorem hasZ_castL {l : List Nat} {k : Nat} : hasZ (castL l) (k : Int) = decide (k ∈ l) := by
  rw [Bool.eq_iff_iff, decide_eq_true_eq, ← mem_castL]
  unfold hasZ
  simp
structure Rings (g : GGraph) (n : Nat) (x : GSearch) : Prop where
  same : x.g = g
  known : ∀ k, pathB g n k = true → bat g.known k = true
  mark : ∀ k, k < 32 → (0 < iat x.mark_ k ↔ pathB g n k = true)
  nonneg : ∀ k, k < 32 → 0 ≤ iat x.mark_ k
  ring : ∀ k, k < 32 → pathB g n k = true → ∃ r : Nat, iat x.ring k = r ∧ Least (Edge g) k r
theorem path_same {g : GGraph} {n : Nat} (hk : ∀ k, pathB g n k = true → bat g.known k = true) {a b : Nat} (ha : pathB g n a = true) : Path (DE g) a b ↔ Path (Edge g) a b := by
  constructor
  · intro h
    induction h with
    | refl => exact .refl _
    | tail _ e ih => exact ih.tail ⟨e.1, hk _ (pathB_iff.2 ((pathB_iff.1 ha).trans ih)), e.2.1, e.2.2⟩
  · intro h
    induction h with
    | refl => exact .refl _
    | tail _ e ih => exact ih.tail ⟨e.1, e.2.2.1, e.2.2.2⟩
theorem least_uniq {E : Nat → Nat → Prop} {u v r q : Nat} (hr : Least E u r) (hq : Least E v q) (h1 : Path E u v) (h2 : Path E v u) : r = q := by
  have a := hr.2.2 q (h1.trans hq.1) (hq.2.1.trans h2)
  have b := hq.2.2 r (h2.trans hr.1) (hr.2.1.trans h1)
  omega
section
variable {g : GGraph} {n : Nat} {x : GSearch} {out : List Nat} {placed : Vector Bool 32}
theorem Rings.least (h : Rings g n x) (hn : n < 32) {k : Nat} (hk : pathB g n k = true) {r : Nat} (hr : iat x.ring k = r) : Least (Edge g) k r := by
  obtain ⟨q, h1, h2⟩ := h.ring k (path_lt (pathB_iff.1 hk) hn) hk
  rw [hr] at h1
  rw [cast_inj h1]; exact h2
def Free (g : GGraph) (x : GSearch) (y : Int) (placed : Vector Bool 32) (k : Nat) : Prop := ∀ m, k ≤ m → m < 32 → iat x.mark_ m ≠ 0 → iat x.ring m = y → ∀ d : Nat, d < 32 → (d : Int) ∈ depsAt g m → iat x.ring d ≠ y → bat placed d = true
theorem free_l2_eq {y9 : Int} {y : Int} {rec : Int → Option Bool} {ds : List Int} (hds : ds.length ≤ 17592186043904) : ∀ (q r k : Nat), ds.length = k + r → r < q →
    (free_l2 x y placed y9 rec ds q k = rec (IntKind.wrap .i64 (y9 + 1)) ∧ ∀ d : Nat, d < 32 → (d : Int) ∈ ds.drop k → iat x.ring d ≠ y → bat placed d = true) ∨
    (free_l2 x y placed y9 rec ds q k = some false ∧ ∃ d : Nat, d < 32 ∧ (d : Int) ∈ ds.drop k ∧ iat x.ring d ≠ y ∧ bat placed d = false)
  | 0, r, k, _, h => absurd h (by omega)
  | q + 1, 0, k, hk, _ => by
    left
    refine ⟨by rw [free_l2, bif_f (dec_f (by omega))]; rfl, fun d _ hm => ?_⟩
    rw [List.drop_of_length_le (by omega)] at hm; simp at hm
  | q + 1, r + 1, k, hk, hq => by
    have hlt : k < ds.length := by omega
    have ih := free_l2_eq (y9 := y9) (y := y) (rec := rec) hds q r (k + 1) (by omega) (by omega)
    rw [free_l2, bif_t (dec_t (by omega)), idx_nat, List.getElem?_eq_getElem hlt, some_bind, drop_mem hlt]
    simp only [free_j4, free_j3, wrs k (by omega)]
    generalize ds[k] = z
    have more : (∀ d : Nat, d < 32 → z = (d : Int) → iat x.ring d ≠ y → bat placed d = true) →
        (free_l2 x y placed y9 rec ds q ((k + 1 : Nat) : Int) = rec (IntKind.wrap .i64 (y9 + 1)) ∧ ∀ d : Nat, d < 32 → (d : Int) ∈ z :: ds.drop (k + 1) → iat x.ring d ≠ y → bat placed d = true) ∨
        (free_l2 x y placed y9 rec ds q ((k + 1 : Nat) : Int) = some false ∧ ∃ d : Nat, d < 32 ∧ (d : Int) ∈ z :: ds.drop (k + 1) ∧ iat x.ring d ≠ y ∧ bat placed d = false) := fun hz => by
      rcases ih with ⟨h1, h2⟩ | ⟨h1, d, h2, h3, h4, h5⟩
      · refine .inl ⟨h1, fun d hd hm hr => ?_⟩
        rcases List.mem_cons.1 hm with e | hm
        · exact hz d hd e.symm hr
        · exact h2 d hd hm hr
      · exact .inr ⟨h1, d, h2, List.mem_cons_of_mem _ h3, h4, h5⟩
    rcases int_cases z with ⟨d, hd, rfl⟩ | hz
    · rw [bif_t (dec_t (by omega)), bif_t (dec_t (by omega)), inR_ok (by omega) (by omega), some_bind, idxI hd, some_bind]
      by_cases hr : iat x.ring d = y
      · rw [bif_f (by simp [hr])]
        exact more fun c _ e hne => by
          have : d = c := cast_inj e
          subst this
          exact absurd hr hne
      · rw [bif_t (by simp [hr]), some_bind, idxB hd, some_bind]
        cases hp : bat placed d with
        | true =>
          exact more fun c _ e _ => by
            have : d = c := cast_inj e
            subst this
            exact hp
        | false => exact .inr ⟨rfl, d, hd, List.mem_cons_self, hr, hp⟩
    · have := more fun d hd e _ => absurd (show 0 ≤ z ∧ z < 32 by omega) hz
      by_cases h0 : z ≥ 0
      · rw [bif_t (dec_t h0), bif_f (dec_f (by omega))]; exact this
      · rw [bif_f (dec_f h0)]; exact this
theorem free_l1_eq {fu N : Nat} (hN : Small g N) (hfu : N ≤ fu) (hg : x.g = g) {y : Int} : ∀ (q r k : Nat), k + r = 32 → r < q → ∃ b, free_l1 fu x y placed q k = some b ∧ (b = true ↔ Free g x y placed k)
  | 0, r, k, _, h => absurd h (by omega)
  | q + 1, 0, k, hk, _ => ⟨true, by rw [free_l1, bif_f (dec_f (by omega))], by simp only [true_iff]; intro m h1 h2; omega⟩
  | q + 1, r + 1, k, hk, hq => by
    have hk32 : k < 32 := by omega
    obtain ⟨b, h1, h2⟩ := free_l1_eq hN hfu hg q r (k + 1) (by omega) (by omega)
    have step : (iat x.mark_ k ≠ 0 → iat x.ring k = y → ∀ d : Nat, d < 32 → (d : Int) ∈ depsAt g k → iat x.ring d ≠ y → bat placed d = true) → (b = true ↔ Free g x y placed k) := fun hs => by
      rw [h2]
      constructor
      · intro h m hm
        by_cases e : m = k
        · subst e; intro _; exact hs
        · exact h m (by omega)
      · intro h m hm
        exact h m (by omega)
    rw [free_l1, bif_t (dec_t (by omega)), inR_ok (by omega) (by omega), some_bind, idxI hk32, some_bind]
    simp only [free_j5, free_j1, wrs k (by omega)]
    by_cases h0 : iat x.mark_ k = 0
    · rw [bif_t (by simp [h0])]
      exact ⟨b, h1, step fun h => absurd h0 h⟩
    · rw [bif_f (by simp [h0]), some_bind, idxI hk32, some_bind]
      by_cases hr : iat x.ring k = y
      · rw [bif_f (by simp [hr]), free_j2, inR_ok (by omega) (by omega), some_bind, hg, idxD hk32, some_bind]
        have := free_l2_eq (x := x) (placed := placed) (y9 := (k : Int)) (y := y) (rec := free_l1 fu x y placed q) (hN k).2 fu (depsAt g k).length 0 (by omega) (by have := (hN k).1; omega)
        rw [List.drop_zero, wrs k (by omega)] at this
        rcases this with ⟨h3, h4⟩ | ⟨h3, d, hd, h4, h5, h6⟩
        · have h3 : free_l2 x y placed (k : Int) (free_l1 fu x y placed q) (depsAt g k) fu 0 = _ := h3
          exact ⟨b, by rw [h3]; exact h1, step fun _ _ => h4⟩
        · have h3 : free_l2 x y placed (k : Int) (free_l1 fu x y placed q) (depsAt g k) fu 0 = _ := h3
          refine ⟨false, h3, ?_⟩
          simp only [Bool.false_eq_true, false_iff]
          intro hf
          have := hf k (Nat.le_refl _) hk32 h0 hr d hd h4 h5
          rw [h6] at this; cases this
      · rw [bif_t (by simp [hr])]
        exact ⟨b, h1, step fun _ h => absurd h hr⟩
def Test (g : GGraph) (n : Nat) (x : GSearch) (out : List Nat) (placed : Vector Bool 32) (y : Nat) : Prop := pathB g n y = true ∧ y ∉ out ∧ iat x.ring y = (y : Int) ∧ Free g x y placed 0
theorem Test.cand (hR : Rings g n x) (hn : n < 32) (hO : OKO (pathB g) n out) (hP : ∀ k, k < 32 → bat placed k = decide (k ∈ out)) {y : Nat} (h : Test g n x out placed y) : candO (pathB g) n out y = true := by
  obtain ⟨h1, h2, h3, h4⟩ := h
  have hpre := pathB_pre g
  have hy32 := hpre.lt _ _ hn h1
  rw [candO_iff]
  refine ⟨h1, h2, fun d hd hyd => ?_⟩
  have hcl : ∀ a b, ((pathB g y a = true ∧ pathB g a y = true) ∨ a ∈ out) → Edge g a b → ((pathB g y b = true ∧ pathB g b y = true) ∨ b ∈ out) := by
    intro a b ha hab
    rcases ha with ⟨ha1, ha2⟩ | ha
    · have hyb := hpre.trans _ _ _ ha1 (pathB_iff.2 (Path.one hab))
      cases hby : pathB g b y with
      | true => exact .inl ⟨hyb, rfl⟩
      | false =>
        right
        have hna := hpre.trans _ _ _ h1 ha1
        have ha32 := hpre.lt _ _ hn hna
        obtain ⟨r, hr1, hr2⟩ := hR.ring a ha32 hna
        have hra : iat x.ring a = (y : Int) := by
          rw [hr1, least_uniq hr2 (hR.least hn h1 h3) (pathB_iff.1 ha2) (pathB_iff.1 ha1)]
        have hma : iat x.mark_ a ≠ 0 := by have := (hR.mark a ha32).2 hna; omega
        have hnb := hpre.trans _ _ _ h1 hyb
        have hrb : iat x.ring b ≠ (y : Int) := fun e => by
          have := (hR.least hn hnb e).1
          rw [pathB_iff.2 this] at hby; cases hby
        have := h4 a (Nat.zero_le _) ha32 hma hra b hab.2.2.2 hab.2.2.1 hrb
        rw [hP b hab.2.2.2] at this
        simpa using this
    · exact .inr (hO.dc a ha b (pathB_iff.2 (Path.one hab)))
  have := Path.closed (S := fun a => (pathB g y a = true ∧ pathB g a y = true) ∨ a ∈ out) hcl (pathB_iff.1 hyd) (.inl ⟨hpre.refl y hy32, hpre.refl y hy32⟩)
  rcases this with h5 | h5
  · exact .inl h5.2
  · exact .inr h5
theorem Test.of_next (hR : Rings g n x) (hn : n < 32) (hO : OKO (pathB g) n out) (hP : ∀ k, k < 32 → bat placed k = decide (k ∈ out)) {c : Nat} (h : nextO (pathB g) n out = some c) : Test g n x out placed c := by
  have hpre := pathB_pre g
  obtain ⟨hc32, hcand, hmin⟩ := nextO_some h
  have hcand' := candO_iff.1 hcand
  obtain ⟨h1, h2, h3⟩ := hcand'
  obtain ⟨r, hr1, hr2⟩ := hR.ring c hc32 h1
  have hcr : pathB g c r = true := pathB_iff.2 hr2.1
  have hrc : pathB g r c = true := pathB_iff.2 hr2.2.1
  have hrle : r ≤ c := hr2.2.2 c (.refl _) (.refl _)
  have hr : r = c := by
    rcases Nat.lt_or_ge r c with hlt | hge
    · have hno := hmin r hlt
      have hy : candO (pathB g) n out r = true := by
        rw [candO_iff]
        refine ⟨hpre.trans _ _ _ h1 hcr, fun hro => h2 (hO.dc r hro c hrc), fun d hd hrd => ?_⟩
        · rcases h3 d hd (hpre.trans _ _ _ hcr hrd) with h4 | h4
          · exact .inl (hpre.trans _ _ _ h4 hcr)
          · exact .inr h4
      rw [hy] at hno; cases hno
    · omega
  subst hr
  refine ⟨h1, h2, hr1, fun a _ ha32 hma hra d hd hmd hrd => ?_⟩
  have hna := (hR.mark a ha32).1 (by have := hR.nonneg a ha32; omega)
  have hl := hR.least hn hna hra
  have had : pathB g a d = true := pathB_iff.2 (Path.one ⟨ha32, hR.known a hna, hmd, hd⟩)
  have hcd := hpre.trans _ _ _ (pathB_iff.2 hl.2.1) had
  rw [hP d hd]
  rcases h3 d hd hcd with h4 | h4
  · exfalso
    have hnd := hpre.trans _ _ _ h1 hcd
    obtain ⟨q, hq1, hq2⟩ := hR.ring d hd hnd
    refine hrd ?_
    rw [hq1, least_uniq hq2 hr2 (pathB_iff.1 h4) (pathB_iff.1 hcd)]
  · exact dec_t h4
def optI : Option Nat → Int
  | some a => a
  | none => -1
def PlacedBy (placed : Vector Bool 32) (out : List Nat) : Prop := ∀ k, k < 32 → bat placed k = decide (k ∈ out)
theorem ring_mem (hR : Rings g n x) (hn : n < 32) {c : Nat} (hc : pathB g n c = true) (hrc : iat x.ring c = (c : Int)) {k : Nat} (hk : k < 32) : (0 < iat x.mark_ k ∧ iat x.ring k = (c : Int)) ↔ (pathB g c k = true ∧ pathB g k c = true) := by
  have hpre := pathB_pre g
  constructor
  · rintro ⟨h1, h2⟩
    have hl := hR.least hn ((hR.mark k hk).1 h1) h2
    exact ⟨pathB_iff.2 hl.2.1, pathB_iff.2 hl.1⟩
  · rintro ⟨h1, h2⟩
    have hnk := hpre.trans _ _ _ hc h1
    refine ⟨(hR.mark k hk).2 hnk, ?_⟩
    obtain ⟨r, hr1, hr2⟩ := hR.ring k hk hnk
    rw [hr1, least_uniq hr2 (hR.least hn hc hrc) (pathB_iff.1 h2) (pathB_iff.1 h1)]
theorem gorder_l2_eq {rec : Vector Bool 32 → GSearch → List Int → Option (List Int)} (hR : Rings g n x) (hn : n < 32) {c : Nat} (hc : pathB g n c = true) (hrc : iat x.ring c = (c : Int)) : ∀ (q r k : Nat) (placed : Vector Bool 32) (o : List Nat), k + r = 32 → r < q → o.length ≤ k + 32 →
    PlacedBy placed o → ∃ placed', gorder_l2 rec x (c : Int) q placed (castL o) k = rec placed' x (castL (o ++ ((List.range 32).drop k).filter fun m => pathB g c m && pathB g m c)) ∧ PlacedBy placed' (o ++ ((List.range 32).drop k).filter fun m => pathB g c m && pathB g m c)
  | 0, r, k, placed, o, _, h, _, _ => absurd h (by omega)
  | q + 1, 0, k, placed, o, hk, _, _, hP => ⟨placed, by
      rw [gorder_l2, bif_f (dec_f (by omega)), List.drop_of_length_le (by simp; omega), List.filter_nil, List.append_nil], by
      rw [List.drop_of_length_le (by simp; omega), List.filter_nil, List.append_nil]; exact hP⟩
  | q + 1, r + 1, k, placed, o, hk, hq, ho, hP => by
    have hk32 : k < 32 := by omega
    have ih := fun placed o h1 h2 => gorder_l2_eq (rec := rec) hR hn hc hrc q r (k + 1) placed o (by omega) (by omega) h1 h2
    have hmem := ring_mem hR hn hc hrc hk32
    have hdrop : (List.range 32).drop k = k :: (List.range 32).drop (k + 1) := by
      rw [List.drop_eq_getElem_cons (by simp; omega)]
      simp
    rw [gorder_l2, bif_t (dec_t (by omega)), hdrop, List.filter_cons]
    simp only [inR_ok (show (0 : Int) ≤ (k : Int) by omega) (show (k : Int) < 32 by omega), some_bind, idxI hk32, gorder_j3, gorder_j2, wrs k (by omega)]
    have hno : ¬ (0 < iat x.mark_ k ∧ iat x.ring k = (c : Int)) → (pathB g c k && pathB g k c) = false := fun h => by
      cases h1 : (pathB g c k && pathB g k c) with
      | false => rfl
      | true => exact absurd (hmem.2 (by simpa using h1)) h
    by_cases h1 : 0 < iat x.mark_ k
    · rw [bif_t (dec_t h1)]
      by_cases h2 : iat x.ring k = (c : Int)
      · have h3 := hmem.1 ⟨h1, h2⟩
        rw [bif_t (by simp [h2]), idxB hk32]
        simp only [some_bind, setV_ok hk32]
        rw [app_ok (a := castL o) (b := [(k : Int)]) (len_bytes (show (castL o).length ≤ 100 by rw [castL_len]; omega)), some_bind, castL_snoc, h3.1, h3.2]
        obtain ⟨p', e1, e2⟩ := ih (placed.set k true) (o ++ [k]) (by simp; omega) (fun j hj => by
          rw [bat_set hk32, hP j hj]
          by_cases e : k = j
          · subst e; simp
          · have e2 : ¬ j = k := fun h => e h.symm
            simp [e, e2])
        refine ⟨p', ?_, ?_⟩
        · rw [e1]; simp
        · simpa using e2
      · rw [bif_f (by simp [h2]), hno (fun h => h2 h.2)]
        exact ih placed o (by omega) hP
    · rw [bif_f (dec_f h1), bif_f rfl, hno (fun h => h1 h.1)]
      exact ih placed o (by omega) hP
theorem gorder_l3_eq {fu N : Nat} (hN : Small g N) (hfu : N + 40 ≤ fu) {rec : Vector Bool 32 → GSearch → List Int → Option (List Int)} (hR : Rings g n x) (hn : n < 32) (hO : OKO (pathB g) n out) (hP : PlacedBy placed out) : ∀ (q r k : Nat), k + r = 32 → r < q → (∀ j, j < k → candO (pathB g) n out j = true → nextO (pathB g) n out ≠ some j) →
    gorder_l3 fu placed (castL out) rec q x (-1) k = gorder_j1 fu placed (castL out) rec x (optI (nextO (pathB g) n out))
  | 0, r, k, _, h, _ => absurd h (by omega)
  | q + 1, 0, k, hk, _, hno => by
    rw [gorder_l3, bif_f (dec_f (by omega))]
    cases hc : nextO (pathB g) n out with
    | none => rfl
    | some c =>
      have := nextO_some hc
      exact absurd hc (hno c (by omega) this.2.1)
  | q + 1, r + 1, k, hk, hq, hno => by
    have hk32 : k < 32 := by omega
    have ih := fun h => gorder_l3_eq hN hfu (rec := rec) hR hn hO hP q r (k + 1) (by omega) (by omega) h
    have step : ¬ Test g n x out placed k → (∀ j, j < k + 1 → candO (pathB g) n out j = true → nextO (pathB g) n out ≠ some j) := fun ht j hj hcj he => by
      by_cases e : j = k
      · subst e
        exact ht (Test.of_next hR hn hO hP he)
      · exact hno j (by omega) hcj he
    rw [gorder_l3, bif_t (dec_t (by omega))]
    simp only [inR_ok (show (0 : Int) ≤ (k : Int) by omega) (show (k : Int) < 32 by omega), some_bind, idxI hk32, idxB hk32, gorder_j5, gorder_j4, wrs k (by omega)]
    by_cases h1 : 0 < iat x.mark_ k
    · have hnk := (hR.mark k hk32).1 h1
      rw [bif_t (dec_t h1), hP k hk32]
      by_cases h2 : k ∈ out
      · rw [dec_t h2, bif_f (c := !true) rfl]
        exact ih (step fun ht => ht.2.1 h2)
      · rw [dec_f h2, bif_t (c := !false) rfl]
        by_cases h3 : iat x.ring k = (k : Int)
        · rw [bif_t (by simp [h3])]
          obtain ⟨b, h4, h5⟩ := free_l1_eq (placed := placed) hN (show N ≤ fu by omega) hR.same (y := (k : Int)) fu 32 0 (by omega) (by omega)
          have h4 : freeD fu x (k : Int) placed = some b := h4
          rw [h4, some_bind]
          cases hb : b with
          | true =>
            rw [bif_t rfl]
            have ht : Test g n x out placed k := ⟨hnk, h2, h3, h5.1 hb⟩
            have hcand := ht.cand hR hn hO hP
            have hnext : nextO (pathB g) n out = some k := by
              cases hc : nextO (pathB g) n out with
              | none => rw [nextO_none.1 hc k hk32] at hcand; cases hcand
              | some c =>
                obtain ⟨c1, c2, c3⟩ := nextO_some hc
                rcases Nat.lt_trichotomy c k with h | h | h
                · exact absurd hc (hno c h c2)
                · rw [h]
                · rw [c3 k h] at hcand; cases hcand
            rw [hnext]; rfl
          | false =>
            rw [bif_f rfl]
            refine ih (step fun ht => ?_)
            rw [h5.2 ht.2.2.2] at hb
            cases hb
        · rw [bif_f (by simp [h3]), bif_f rfl]
          exact ih (step fun ht => h3 ht.2.2.1)
    · rw [bif_f (dec_f h1), bif_f rfl]
      exact ih (step fun ht => h1 ((hR.mark k hk32).2 ht.1))
theorem gorder_l1_eq {fu N : Nat} (hN : Small g N) (hfu : N + 40 ≤ fu) (hR : Rings g n x) (hn : n < 32) : ∀ (q k : Nat) (out : List Nat) (placed : Vector Bool 32), OKO (pathB g) n out → PlacedBy placed out → k < q → 32 ≤ k + out.length →
    gorder_l1 fu q placed x (castL out) = some (castL (orderF (pathB g) n k out))
  | 0, k, out, placed, _, _, h, _ => absurd h (by omega)
  | q + 1, k, out, placed, hO, hP, hq, hk => by
    have hpre := pathB_pre g
    have h3 := gorder_l3_eq hN hfu (rec := gorder_l1 fu q) hR hn hO hP fu 32 0 (by omega) (by omega) (fun j hj => absurd hj (by omega))
    have h3 : gorder_l3 fu placed (castL out) (gorder_l1 fu q) fu x (-1) 0 = _ := h3
    rw [gorder_l1, h3, gorder_j1]
    cases hc : nextO (pathB g) n out with
    | none =>
      rw [bif_t (by rfl)]
      cases k with
      | zero => rfl
      | succ k => simp [orderF, hc]
    | some c =>
      obtain ⟨hc32, hcand, _⟩ := nextO_some hc
      have ht := Test.of_next hR hn hO hP hc
      have hle := hO.len
      show (bif decide ((c : Int) < 0) then _ else _) = _
      rw [bif_f (dec_f (by omega))]
      obtain ⟨p', e1, e2⟩ := gorder_l2_eq (rec := gorder_l1 fu q) hR hn ht.1 ht.2.2.1 fu 32 0 placed out (by omega) (by omega) (by omega) hP
      have e1 : gorder_l2 (gorder_l1 fu q) x (c : Int) fu placed (castL out) 0 = _ := e1
      show gorder_l2 (gorder_l1 fu q) x (c : Int) fu placed (castL out) 0 = _
      rw [e1]
      rw [List.drop_zero] at e2 ⊢
      have hstep := hO.step hpre hn hc
      have hlen := List.length_pos_of_mem (ringO_self hpre hc32)
      cases k with
      | zero => rw [hO.full (by omega)] at hc; cases hc
      | succ k =>
        have := gorder_l1_eq hN hfu hR hn q k (out ++ ringO (pathB g) c) p' hstep e2 (by omega) (by rw [List.length_append]; omega)
        rw [orderF, hc]
        exact this
end
theorem readyZ_known {g : GGraph} {s : Nat} (hs : s < 32) (h : readyZ g (s : Int) = true) : ∀ k, pathB g s k = true → bat g.known k = true := by
  intro k hk
  have h1 := (readyZ_iff.1 h).2 k (Nat.zero_le _) (path_lt (pathB_iff.1 hk) hs)
  refine h1 ?_
  unfold reachZ
  rw [if_pos (by omega)]
  exact (bat_reachV (path_lt (pathB_iff.1 hk) hs)).2 (pathB_iff.1 hk)
theorem gorderD_eq {fu N : Nat} {g : GGraph} (hN : Small g N) (hfu : N + 80 ≤ fu) (x : Int) : gorderD fu g x = some (orderZ g x) := by
  unfold gorderD orderZ
  rw [readyD_eq hN (by omega), some_bind]
  cases hr : readyZ g x with
  | false => rw [bif_t (c := !false) rfl, if_neg (by simp)]
  | true =>
    rw [bif_f (c := !true) rfl, if_pos rfl, some_bind]
    obtain ⟨hx, _⟩ := readyZ_iff.1 hr
    obtain ⟨s, hs, rfl⟩ : ∃ s : Nat, s < 32 ∧ x = s := ⟨x.toNat, by omega, by omega⟩
    have hkn := readyZ_known hs hr
    obtain ⟨x', l', h1, h2, h3, h4, h5⟩ := visitD_eq hN (show N + 40 ≤ fu by omega) hs
    rw [h1, some_bind]
    have hself : pathB g s s = true := (pathB_pre g).refl s hs
    have hR : Rings g s x' := ⟨h2, hkn, fun k hk => by rw [h3 k hk, path_same hkn hself, pathB_iff], h4, fun k hk hp => by
      obtain ⟨r, e1, e2, e3, e4⟩ := h5 k hk ((path_same hkn hself).2 (pathB_iff.1 hp))
      have hnr : pathB g s r = true := pathB_iff.2 ((pathB_iff.1 hp).trans ((path_same hkn hp).1 e2))
      refine ⟨r, e1, (path_same hkn hp).1 e2, (path_same hkn hnr).1 e3, fun w hw1 hw2 => e4 w ((path_same hkn hp).2 hw1) ?_⟩
      exact (path_same hkn (pathB_iff.2 ((pathB_iff.1 hp).trans hw1))).2 hw2⟩
    exact gorder_l1_eq hN (by omega) hR hs fu 32 [] (Zr.zd : Vector Bool 32) OKO.nil (fun k _ => by rw [bat_zero]; simp) (by omega) (by simp)
end Go.Proofs.Ytopgdemmdcipcaa
namespace Go.Proofs.Ytopgdemmdcipcaa
open Go.RowKit
open Rep (rep)
theorem rising_ge {l : List Int} (h : risingZ l = true) : ∀ i, i < l.length → (i : Int) ≤ l.getD i 0 ∧ l.getD i 0 < 32 := by
  unfold risingZ at h
  rw [allTo_iff] at h
  intro i
  induction i with
  | zero =>
    intro hi
    have := h 0 hi
    unfold riseAt at this
    simp only [Bool.and_eq_true, decide_eq_true_eq] at this
    exact ⟨by have := this.1.1; simpa using this, this.1.2⟩
  | succ i ih =>
    intro hi
    have h1 := ih (by omega)
    have := h (i + 1) hi
    unfold riseAt at this
    simp only [Bool.and_eq_true, decide_eq_true_eq, Bool.or_eq_true, beq_iff_eq, Nat.add_sub_cancel] at this
    refine ⟨?_, this.1.2⟩
    rcases this.2 with h2 | h2
    · omega
    · push_cast
      omega
theorem rising_len {l : List Int} (h : risingZ l = true) : l.length ≤ 32 := by
  rcases Nat.lt_or_ge 32 l.length with h1 | h1
  · have := rising_ge h 32 h1
    omega
  · exact h1
theorem goodOps_len {l : List GOp} (h : goodOpsZ l = true) : 0 < l.length ∧ l.length ≤ 4 := by
  unfold goodOpsZ at h
  simp only [Bool.and_eq_true, decide_eq_true_eq] at h
  omega
theorem goodOps_mem {l : List GOp} (h : goodOpsZ l = true) : ∀ o ∈ l, 1 ≤ o.kind ∧ o.kind ≤ 3 ∧ 0 ≤ o.key ∧ o.key < 8 ∧ -1099511627776 ≤ o.n ∧ o.n ≤ 1099511627776 := by
  intro o ho
  unfold goodOpsZ at h
  simp only [Bool.and_eq_true] at h
  have h1 := (allTo_iff _ _).1 h.1
  obtain ⟨i, hi, rfl⟩ := List.getElem_of_mem ho
  have := h1 i hi
  unfold opAt at this
  rw [List.getD_eq_getElem?_getD, List.getElem?_eq_getElem hi] at this
  simp only [Option.getD_some, Bool.and_eq_true] at this
  have := this.1
  unfold goodOp at this
  simp only [decide_eq_true_eq] at this
  omega
end Go.Proofs.Ytopgdemmdcipcaa
namespace Go.Proofs.Ytopgdemmdcipcaa
open Go.RowKit
open Rep (rep)
def eat (v : Vector GEntry 32) (k : Nat) : GEntry := v[k]?.getD Zr.zd
theorem eat_lt {v : Vector GEntry 32} {k : Nat} (hk : k < 32) : v[k] = eat v k := by simp [eat, hk]
theorem idxE {v : Vector GEntry 32} {k : Nat} (hk : k < 32) : idxV v (k : Int) = some (eat v k) := by rw [idxV_ok hk, eat_lt hk]
theorem eat_ext {v u : Vector GEntry 32} (h : ∀ k, k < 32 → eat v k = eat u k) : v = u := by
  refine Vector.ext fun k hk => ?_
  rw [eat_lt hk, eat_lt hk]
  exact h k hk
theorem eat_out {v : Vector GEntry 32} {k : Nat} (hk : ¬ k < 32) : eat v k = Zr.zd := by simp [eat, hk]
def emptyE (e : GEntry) : Bool := ((e.ops.length : Int) == 0) && (((e.first.length : Int) == 0) && (((e.deps.length : Int) == 0) && (((e.at_.length : Int) == 0) && ((e.values.length : Int) == 0))))
def atUp (m : Int) : Int → List Int → Bool
  | _, [] => true
  | b, k :: t => decide (b < k ∧ k < m) && atUp m k t
def bodyOk (k : Int) (e : GEntry) : Bool := goodOpsZ e.ops && (risingZ e.first && (risingZ e.deps && (!hasZ e.first k && (!hasZ e.deps k && (!(e.state == 1 && decide ((e.deps.length : Int) > 0)) && (!(e.state != 3 && decide ((e.at_.length : Int) > 0)) && (!((e.at_.length : Int) != (e.values.length : Int)) && atUp e.ops.length (-1) e.at_)))))))
def restOk (k : Int) (e : GEntry) : Bool := bif e.state == 0 then emptyE e else bodyOk k e
def entryOk (k : Int) (e : GEntry) (there : Bool) : Bool := decide (0 ≤ e.state ∧ e.state ≤ 3) && (((e.state == 3) == there) && restOk k e)
structure GoodN (s : GNode) : Prop where
  nodup : s.order.Nodup
  inr : ∀ m ∈ s.order, 0 ≤ m ∧ m < 32
  ent : ∀ k : Nat, k < 32 → entryOk k (eat s.entries k) (decide ((k : Int) ∈ s.order)) = true
open Classical in
noncomputable def goodN (s : GNode) : Bool := decide (GoodN s)
theorem goodN_iff {s : GNode} : goodN s = true ↔ GoodN s := by simp [goodN]
structure ESz (e : GEntry) (N : Nat) : Prop where
  ops : e.ops.length < N ∧ e.ops.length * 24 ≤ 140737488351232
  first : e.first.length < N ∧ e.first.length ≤ 17592186043904
  deps : e.deps.length < N ∧ e.deps.length ≤ 17592186043904
  at_ : e.at_.length < N ∧ e.at_.length ≤ 17592186043904
  values : e.values.length < N ∧ e.values.length ≤ 17592186043904
structure NSz (s : GNode) (N : Nat) : Prop where
  order : s.order.length < N ∧ s.order.length ≤ 17592186043904
  ent : ∀ k, ESz (eat s.entries k) N
theorem nodeGood_l3_eq {y69 : Int} {rec70 : Int → Option Bool} {e : GEntry} (ha : e.at_.length ≤ 17592186043904) : ∀ (n m k : Nat) (b : Int), e.at_.length = k + m → m < n → -1 ≤ b → (k = 0 → b = -1) → (∀ j, k = j + 1 → e.at_[j]? = some b) →
    nodeGood_l3 y69 rec70 e n k = bif atUp e.ops.length b (e.at_.drop k) then nodeGood_j4 y69 rec70 else some false
  | 0, m, k, b, _, h, _, _, _ => absurd h (by omega)
  | n + 1, 0, k, b, hk, _, _, _, _ => by
    rw [nodeGood_l3, bif_f (dec_f (by omega)), List.drop_of_length_le (by omega)]
    rfl
  | n + 1, m + 1, k, b, hk, hn, hb, hb0, hbj => by
    have hlt : k < e.at_.length := by omega
    have hx : e.at_[k]? = some e.at_[k] := List.getElem?_eq_getElem hlt
    have ih := nodeGood_l3_eq (y69 := y69) (rec70 := rec70) ha n m (k + 1) e.at_[k] (by omega) (by omega)
    rw [nodeGood_l3, bif_t (dec_t (by omega)), idx_nat, hx, some_bind, List.drop_eq_getElem_cons hlt]
    simp only [nodeGood_j8, nodeGood_j7, wrs k (by omega), atUp]
    generalize hg : e.at_[k] = x at ih hx
    by_cases h1 : x < 0
    · rw [bif_t (dec_t h1), dec_f (show ¬ (b < x ∧ x < (e.ops.length : Int)) by omega)]
      rfl
    · rw [bif_f (dec_f h1)]
      have ih := ih (by omega) (by omega) (fun j hj => by rw [show j = k from by omega]; exact hx)
      by_cases h2 : x ≥ (e.ops.length : Int)
      · rw [bif_t (dec_t h2), dec_f (show ¬ (b < x ∧ x < (e.ops.length : Int)) by omega)]
        rfl
      · rw [bif_f (dec_f h2)]
        cases k with
        | zero =>
          rw [bif_f (dec_f (by omega)), dec_t (show b < x ∧ x < (e.ops.length : Int) by have := hb0 rfl; omega), Bool.true_and, ← ih]
          rfl
        | succ j =>
          rw [bif_t (dec_t (by omega)), show IntKind.wrap .i64 (((j + 1 : Nat) : Int) - 1) = (j : Int) by rw [wr64 (by omega) (by omega)]; omega, idx_nat, hbj j rfl, some_bind]
          by_cases h3 : b ≥ x
          · rw [dec_t h3, dec_f (show ¬ (b < x ∧ x < (e.ops.length : Int)) by omega)]
            rfl
          · rw [dec_f h3, dec_t (show b < x ∧ x < (e.ops.length : Int) by omega), Bool.true_and, ← ih]
            rfl
theorem empty_sum {e : GEntry} {N : Nat} (h : ESz e N) : decide ((IntKind.wrap .i64 ((IntKind.wrap .i64 ((IntKind.wrap .i64 ((IntKind.wrap .i64 ((e.ops.length : Int) + (e.first.length : Int))) + (e.deps.length : Int))) + (e.at_.length : Int))) + (e.values.length : Int))) > 0) = !emptyE e := by
  obtain ⟨⟨_, h1⟩, ⟨_, h2⟩, ⟨_, h3⟩, ⟨_, h4⟩, ⟨_, h5⟩⟩ := h
  unfold emptyE
  generalize e.ops.length = a1 at *
  generalize e.first.length = a2 at *
  generalize e.deps.length = a3 at *
  generalize e.at_.length = a4 at *
  generalize e.values.length = a5 at *
  rw [wr64 (x := (a1 : Int) + a2) (by omega) (by omega), wr64 (x := (a1 : Int) + a2 + a3) (by omega) (by omega), wr64 (x := (a1 : Int) + a2 + a3 + a4) (by omega) (by omega), wr64 (by omega) (by omega)]
  by_cases h : (a1 : Int) + a2 + a3 + a4 + a5 > 0
  · rw [dec_t h]
    symm
    rw [Bool.not_eq_true']
    apply Bool.eq_false_iff.2
    simp only [ne_eq, Bool.and_eq_true, beq_iff_eq]
    omega
  · rw [dec_f h]
    symm
    rw [Bool.not_eq_false']
    simp only [Bool.and_eq_true, beq_iff_eq]
    omega
theorem nodeGood_ent {fu N k : Nat} {e : GEntry} {there : Bool} (h : ESz e N) (hfu : N ≤ fu) {rec : Int → Option Bool} :
    (bif decide (e.state < 0) then nodeGood_j10 fu k rec e true else (bif decide (e.state > 3) then nodeGood_j10 fu k rec e true else nodeGood_j10 fu k rec e (!((e.state == 3) == there)))) = bif entryOk k e there then nodeGood_j4 k rec else some false := by
  unfold entryOk
  by_cases h1 : e.state < 0
  · rw [bif_t (dec_t h1), dec_f (show ¬ (0 ≤ e.state ∧ e.state ≤ 3) by omega)]; rfl
  · rw [bif_f (dec_f h1)]
    by_cases h2 : e.state > 3
    · rw [bif_t (dec_t h2), dec_f (show ¬ (0 ≤ e.state ∧ e.state ≤ 3) by omega)]; rfl
    · rw [bif_f (dec_f h2), dec_t (show 0 ≤ e.state ∧ e.state ≤ 3 by omega), Bool.true_and]
      unfold nodeGood_j10
      cases h3 : ((e.state == 3) == there)
      · rfl
      · rw [Bool.true_and, bif_f (c := !true) rfl]
        unfold nodeGood_j5 restOk
        cases h0 : (e.state == 0)
        · rw [cond_false, cond_false]
          have hl := nodeGood_l3_eq (y69 := k) (rec70 := rec) h.at_.2 fu e.at_.length 0 (-1) (by omega) (by have := h.at_.1; omega) (by omega) (by omega) (by omega)
          have hl : nodeGood_l3 k rec e fu 0 = bif atUp e.ops.length (-1) e.at_ then nodeGood_j4 k rec else some false := hl
          simp only [some_bind, nodeGood_j9, nodeGood_j6, hl]
          unfold bodyOk
          generalize goodOpsZ e.ops = b1
          generalize risingZ e.first = b2
          generalize risingZ e.deps = b3
          generalize hasZ e.first k = b4
          generalize hasZ e.deps k = b5
          generalize decide ((e.deps.length : Int) > 0) = b7
          generalize decide ((e.at_.length : Int) > 0) = b9
          generalize ((e.at_.length : Int) != (e.values.length : Int)) = b10
          cases b1
          · rfl
          cases b2
          · rfl
          cases b3
          · rfl
          cases b4
          case true => rfl
          cases b5
          case true => rfl
          generalize (e.state == 1) = b6
          generalize (e.state != 3) = b8
          cases b6 <;> cases b7 <;> cases b8 <;> cases b9 <;> cases b10 <;> rfl
        · rw [cond_true, cond_true, empty_sum h]
          cases emptyE e <;> rfl
theorem nodeGood_l2_eq {fu N : Nat} {s : GNode} {d : Vector Bool 32} (h : NSz s N) (hfu : N ≤ fu) : ∀ (n m k : Nat), k + m = 32 → m < n → ∃ b, nodeGood_l2 fu s d n k = some b ∧ (b = true ↔ ∀ j, k ≤ j → j < 32 → entryOk j (eat s.entries j) (bat d j) = true)
  | 0, m, k, _, h => absurd h (by omega)
  | n + 1, 0, k, hk, _ => ⟨true, by rw [nodeGood_l2, bif_f (dec_f (by omega))], by simp only [true_iff]; intro j h1 h2; omega⟩
  | n + 1, m + 1, k, hk, hn => by
    have hk32 : k < 32 := by omega
    obtain ⟨b, h1, h2⟩ := nodeGood_l2_eq (d := d) h hfu n m (k + 1) (by omega) (by omega)
    rw [nodeGood_l2, bif_t (dec_t (by omega)), idxE hk32, some_bind, some_bind, inR_ok (by omega) (by omega), some_bind, idxB hk32, some_bind, nodeGood_ent (h.ent k) hfu]
    cases he : entryOk k (eat s.entries k) (bat d k) with
    | false =>
      refine ⟨false, rfl, ?_⟩
      simp only [Bool.false_eq_true, false_iff]
      intro h
      rw [h k (Nat.le_refl _) hk32] at he; cases he
    | true =>
      refine ⟨b, ?_, ?_⟩
      · rw [cond_true, nodeGood_j4, wrs k (by omega)]; exact h1
      · rw [h2]
        constructor
        · intro h j hj
          by_cases e : j = k
          · subst e; intro _; exact he
          · exact h j (by omega)
        · intro h j hj
          exact h j (by omega)
theorem entry_three {k : Int} {e : GEntry} {t : Bool} (h : entryOk k e t = true) : (e.state = 3 ↔ t = true) := by
  unfold entryOk at h
  simp only [Bool.and_eq_true] at h
  have h1 := h.2.1
  cases t
  · simp at h1; simp [h1]
  · simp at h1; simp [h1]
theorem nodeGood_l1_eq {fu N : Nat} {s : GNode} (h : NSz s N) (hfu : N + 40 ≤ fu) : ∀ (n m k : Nat) (d : Vector Bool 32), s.order.length = k + m → m < n → (s.order.take k).Nodup → (∀ x ∈ s.order.take k, (0 ≤ x ∧ x < 32)) → (∀ j, j < 32 → bat d j = decide ((j : Int) ∈ s.order.take k)) →
    ∃ b, nodeGood_l1 fu s n d k = some b ∧ (b = true ↔ GoodN s)
  | 0, m, k, d, _, h, _, _, _ => absurd h (by omega)
  | n + 1, 0, k, d, hk, _, h1, h2, h3 => by
    have hlen := h.order.2
    rw [nodeGood_l1, bif_f (dec_f (by omega))]
    rw [List.take_of_length_le (by omega)] at h1 h2 h3
    obtain ⟨b, e1, e2⟩ := nodeGood_l2_eq (d := d) h (show N ≤ fu by omega) fu 32 0 (by omega) (by omega)
    refine ⟨b, e1, ?_⟩
    rw [e2]
    constructor
    · intro h
      exact ⟨h1, h2, fun k hk => by rw [← h3 k hk]; exact h k (Nat.zero_le _) hk⟩
    · intro h j _ hj
      rw [h3 j hj]
      exact h.ent j hj
  | n + 1, m + 1, k, d, hk, hn, h1, h2, h3 => by
    have hlt : k < s.order.length := by omega
    have hx : s.order[k]? = some s.order[k] := List.getElem?_eq_getElem hlt
    have hmem : s.order[k] ∈ s.order := List.getElem_mem hlt
    have htk : s.order.take (k + 1) = s.order.take k ++ [s.order[k]] := (List.take_append_getElem hlt).symm
    have hlen := h.order.2
    rw [nodeGood_l1, bif_t (dec_t (by omega)), idx_nat, hx, some_bind]
    have ih := nodeGood_l1_eq h hfu n m (k + 1)
    rw [htk] at ih
    generalize hg : s.order[k] = x at *
    rcases int_cases x with ⟨y, hy, rfl⟩ | hno
    · rw [bif_f (dec_f (by omega)), bif_f (dec_f (by omega)), inR_ok (by omega) (by omega), some_bind, idxB hy, some_bind]
      cases hb : bat d y with
      | true =>
        refine ⟨false, rfl, ?_⟩
        simp only [Bool.false_eq_true, false_iff]
        intro hG
        have hin : (y : Int) ∈ s.order.take k := by rw [h3 y hy] at hb; simpa using hb
        have hnd := hG.nodup
        rw [← List.take_append_drop (k + 1) s.order, htk] at hnd
        have := (List.nodup_append.1 (List.nodup_append.1 hnd).1).2.2 _ hin _ (List.mem_singleton.2 rfl)
        exact this rfl
      | false =>
        have hnin : (y : Int) ∉ s.order.take k := by rw [h3 y hy] at hb; simpa using hb
        rw [cond_false, some_bind, idxE hy, some_bind]
        cases h3s : ((eat s.entries y).state != 3) with
        | true =>
          refine ⟨false, rfl, ?_⟩
          simp only [Bool.false_eq_true, false_iff]
          intro hG
          have := (entry_three (hG.ent y hy)).2 (by simpa using hmem)
          rw [this] at h3s; cases h3s
        | false =>
          unfold nodeGood_j3 nodeGood_j2 nodeGood_j1
          rw [cond_false, inR_ok (by omega) (by omega), some_bind, idxB hy, some_bind, setV_ok hy, some_bind, some_bind, wrs k (by omega)]
          refine ih (d.set y true) (by omega) (by omega) ?_ ?_ ?_
          · refine List.nodup_append.2 ⟨h1, by simp, fun a ha b hb => ?_⟩
            rw [List.mem_singleton.1 hb]
            rintro rfl
            exact hnin ha
          · intro z hz
            rcases List.mem_append.1 hz with hz | hz
            · exact h2 z hz
            · rw [List.mem_singleton.1 hz]; omega
          · intro j hj
            rw [bat_set hy]
            by_cases e : y = j
            · subst e; simp
            · rw [if_neg e, h3 j hj]
              congr 1
              simp only [List.mem_append, List.mem_singleton, eq_iff_iff]
              constructor
              · exact .inl
              · rintro (h | h)
                · exact h
                · omega
    · have : nodeGood_j3 d k (nodeGood_l1 fu s n) x true = some false := rfl
      refine ⟨false, ?_, ?_⟩
      · by_cases h0 : x < 0
        · rw [bif_t (dec_t h0)]; rfl
        · rw [bif_f (dec_f h0), bif_t (dec_t (by omega))]; rfl
      · simp only [Bool.false_eq_true, false_iff]
        intro hG
        exact hno (hG.inr x hmem)
theorem nodeGoodD_eq {fu N : Nat} {s : GNode} (h : NSz s N) (hfu : N + 40 ≤ fu) : nodeGoodD fu s = some (goodN s) := by
  unfold nodeGoodD
  rw [some_bind]
  obtain ⟨b, h1, h2⟩ := nodeGood_l1_eq h hfu fu s.order.length 0 (Zr.zd : Vector Bool 32) (by omega) (by have := h.order.1; omega) (by simp) (by simp) (fun j _ => by rw [bat_zero]; simp)
  have h1 : nodeGood_l1 fu s fu (Zr.zd : Vector Bool 32) 0 = some b := h1
  rw [h1]
  congr 1
  rw [Bool.eq_iff_iff, h2, goodN_iff]
end Go.Proofs.Ytopgdemmdcipcaa
namespace Go.Proofs.Ytopgdemmdcipcaa
open Go.RowKit
open Rep (rep)
def inWay (s : GNode) (id : Int) (ops : List GOp) (sh : Int) (k : Nat) : Bool := (k : Int) != id && ((eat s.entries k).state != 0 && conflictZ (eat s.entries k).ops ops sh)
def aheadL (s : GNode) (id : Int) (ops : List GOp) (sh : Int) : List Nat := (List.range 32).filter (inWay s id ops sh)
def aheadZ (s : GNode) (id : Int) (ops : List GOp) (sh : Int) : List Int := castL (aheadL s id ops sh)
theorem filt_step {p : Nat → Bool} {k m : Nat} : (List.range' k (m + 1)).filter p = (bif p k then [k] else []) ++ (List.range' (k + 1) m).filter p := by
  rw [List.range'_succ, List.filter_cons]
  cases p k <;> rfl
theorem nodeAhead_l1_eq {s : GNode} {id : Int} {ops : List GOp} {sh : Int} : ∀ (n m k : Nat) (l : List Int), k + m = 32 → m < n → l.length ≤ k → nodeAhead_l1 s id ops sh n l k = some (l ++ castL ((List.range' k m).filter (inWay s id ops sh)))
  | 0, m, k, l, _, h, _ => absurd h (by omega)
  | n + 1, 0, k, l, hk, _, _ => by rw [nodeAhead_l1, bif_f (dec_f (by omega))]; simp [castL]
  | n + 1, m + 1, k, l, hk, hn, hl => by
    have hk32 : k < 32 := by omega
    have hb : Rep.bytes Int = 8 := rfl
    have ih := fun l hl => nodeAhead_l1_eq (s := s) (id := id) (ops := ops) (sh := sh) n m (k + 1) l (by omega) (by omega) hl
    rw [nodeAhead_l1, bif_t (dec_t (by omega)), idxE hk32, some_bind, some_bind, some_bind, filt_step]
    simp only [nodeAhead_j2, nodeAhead_j1, wrs k (by omega)]
    have no : ∀ b : Bool, b = false → (bif b then (app l [(k : Int)]).bind fun l44 => nodeAhead_l1 s id ops sh n l44 ((k + 1 : Nat) : Int) else nodeAhead_l1 s id ops sh n l ((k + 1 : Nat) : Int)) = some (l ++ castL ((List.range' (k + 1) m).filter (inWay s id ops sh))) := fun b hb => by
      rw [hb, cond_false, ih l (by omega)]
    have yes : (app l [(k : Int)]).bind (fun l44 => nodeAhead_l1 s id ops sh n l44 ((k + 1 : Nat) : Int)) = some (l ++ castL (k :: (List.range' (k + 1) m).filter (inWay s id ops sh))) := by
      rw [app_ok (by rw [hb]; simp only [List.length_singleton]; omega), some_bind, ih _ (by simp; omega)]
      simp [castL]
    unfold inWay at no yes ⊢
    cases h1 : ((k : Int) != id)
    · exact no false rfl
    · cases h2 : ((eat s.entries k).state != 0)
      · exact no false rfl
      · cases h3 : conflictZ (eat s.entries k).ops ops sh
        · exact no false rfl
        · exact yes
theorem nodeAheadD_eq {fu : Nat} {s : GNode} {id : Int} {ops : List GOp} {sh : Int} (hfu : 40 ≤ fu) : nodeAheadD fu s id ops sh = some (aheadZ s id ops sh) := by
  unfold nodeAheadD
  have h := nodeAhead_l1_eq (s := s) (id := id) (ops := ops) (sh := sh) fu 32 0 [] (by omega) (by omega) (by simp)
  have h : nodeAhead_l1 s id ops sh fu [] 0 = some ([] ++ castL ((List.range' 0 32).filter (inWay s id ops sh))) := h
  rw [h, aheadZ, aheadL, List.range_eq_range']
  rfl
def graphZ (s : GNode) : GGraph := { known := Vector.ofFn fun k : Fin 32 => decide ((eat s.entries k.val).state ≥ 2), deps := Vector.ofFn fun k : Fin 32 => (eat s.entries k.val).deps }
theorem bat_graphZ {s : GNode} {k : Nat} (hk : k < 32) : bat (graphZ s).known k = decide ((eat s.entries k).state ≥ 2) := by
  rw [← bat_lt hk]
  simp [graphZ]
theorem depsAt_graphZ {s : GNode} {k : Nat} (hk : k < 32) : depsAt (graphZ s) k = (eat s.entries k).deps := by
  simp [graphZ, depsAt, hk]
theorem depsAt_set {g : GGraph} {v : Vector (List Int) 32} {k j : Nat} {x : List Int} (hk : k < 32) : depsAt { g with deps := v.set k x } j = if k = j then x else depsAt { g with deps := v } j := by
  unfold depsAt
  by_cases hj : j < 32
  · simp only [hj, dite_true, Vector.getElem_set]
  · have : k ≠ j := by omega
    simp [hj, this]
theorem graph_ext {g h : GGraph} (h1 : ∀ k, k < 32 → bat g.known k = bat h.known k) (h2 : ∀ k, k < 32 → depsAt g k = depsAt h k) : g = h := by
  obtain ⟨a, b⟩ := g
  obtain ⟨c, d⟩ := h
  have e1 : a = c := bat_ext h1
  have e2 : b = d := Vector.ext fun k hk => by
    have := h2 k hk
    simpa [depsAt, hk] using this
  rw [e1, e2]
def GraphOf (s : GNode) (G : GGraph) : Prop := ∀ k, k < 32 → bat G.known k = decide ((eat s.entries k).state ≥ 2) ∧ depsAt G k = (eat s.entries k).deps
theorem graphZ_of (s : GNode) : GraphOf s (graphZ s) := fun _ hk => ⟨bat_graphZ hk, depsAt_graphZ hk⟩
theorem nodeGraph_l1_eq {s : GNode} {G : GGraph} (hG : GraphOf s G) : ∀ (n m k : Nat) (g : GGraph), k + m = 32 → m < n → (∀ j, j < k → bat g.known j = bat G.known j ∧ depsAt g j = depsAt G j) → nodeGraph_l1 s n g k = some G
  | 0, m, k, g, _, h, _ => absurd h (by omega)
  | n + 1, 0, k, g, hk, _, hg => by
    rw [nodeGraph_l1, bif_f (dec_f (by omega)), some_bind]
    exact congrArg some (graph_ext (fun j hj => (hg j (by omega)).1) fun j hj => (hg j (by omega)).2)
  | n + 1, m + 1, k, g, hk, hn, hg => by
    have hk32 : k < 32 := by omega
    rw [nodeGraph_l1, bif_t (dec_t (by omega)), idxE hk32, some_bind, some_bind, inR_ok (by omega) (by omega), some_bind, idxB hk32, some_bind, setV_ok hk32, some_bind, some_bind, some_bind, idxD hk32, some_bind, setV_ok hk32, some_bind, some_bind, wrs k (by omega)]
    refine nodeGraph_l1_eq hG n m (k + 1) _ (by omega) (by omega) fun j hj => ?_
    have hj32 : j < 32 := by omega
    refine ⟨?_, ?_⟩
    · show bat (g.known.set k _) j = _
      rw [bat_set hk32]
      by_cases e : k = j
      · subst e; rw [if_pos rfl, (hG k hk32).1]
      · rw [if_neg e]; exact (hg j (by omega)).1
    · rw [depsAt_set hk32]
      by_cases e : k = j
      · subst e; rw [if_pos rfl, (hG k hk32).2]
      · rw [if_neg e]
        exact (hg j (by omega)).2
theorem nodeGraphD_eq {fu : Nat} {s : GNode} (hfu : 40 ≤ fu) : nodeGraphD fu s = some (graphZ s) := nodeGraph_l1_eq (graphZ_of s) fu 32 0 _ (by omega) (by omega) fun j h => by omega
end Go.Proofs.Ytopgdemmdcipcaa
namespace Go.Proofs.Ytopgdemmdcipcaa
open Go.RowKit
open Rep (rep)
theorem frameZ_in {f : GFrame} (h : frameZ f = 0) : (1 ≤ f.kind ∧ f.kind ≤ 5) ∧ (0 ≤ f.node ∧ f.node < 6) ∧ (0 ≤ f.id ∧ f.id < 32) := by
  unfold frameZ at h
  split at h
  · cases h
  · split at h
    · cases h
    · omega
theorem setV_in {α : Type} {n : Nat} {v : Vector α n} {j : Int} {x : α} (h0 : 0 ≤ j) (h1 : j < n) : setV v j x = some (v.setIfInBounds j.toNat x) := by
  unfold setV
  rw [if_pos ⟨h0, h1⟩]
theorem idxV_in' {n : Nat} {v : Vector Int n} {j : Int} (h0 : 0 ≤ j) (h1 : j < n) : idxV v j = some (v[j.toNat]?.getD 0) := by
  unfold idxV
  rw [if_pos h0]
  have : j.toNat < n := by omega
  simp [this]
end Go.Proofs.Ytopgdemmdcipcaa
namespace Go.Proofs.Ytopgdemmdcipcaa
open Go.RowKit
open Rep (rep)
def vat (v : Vector Int 8) (k : Nat) : Int := v[k]?.getD 0
theorem idxV8 {v : Vector Int 8} {j : Int} (h0 : 0 ≤ j) (h1 : j < 8) : idxV v j = some (vat v j.toNat) := idxV_in' h0 h1
theorem vat_set {v : Vector Int 8} {k j : Nat} {x : Int} (hk : k < 8) : vat (v.setIfInBounds k x) j = if k = j then x else vat v j := by
  unfold vat
  rw [Vector.getElem?_setIfInBounds]
  by_cases e : k = j
  · rw [if_pos e, if_pos e, if_pos hk]; rfl
  · rw [if_neg e, if_neg e]
theorem eat_setI {v : Vector GEntry 32} {k j : Nat} {x : GEntry} (hk : k < 32) : eat (v.setIfInBounds k x) j = if k = j then x else eat v j := by
  unfold eat
  rw [Vector.getElem?_setIfInBounds]
  by_cases e : k = j
  · rw [if_pos e, if_pos e, if_pos hk]; rfl
  · rw [if_neg e, if_neg e]
theorem setE {v : Vector GEntry 32} {k : Nat} {x : GEntry} (hk : k < 32) : setV v (k : Int) x = some (v.setIfInBounds k x) := setV_in (by omega) (by omega)
def doOps (sh : Int) : Nat → List GOp → Vector Int 8 → List Int → List Int → Vector Int 8 × List Int × List Int
  | _, [], v, a, b => (v, a, b)
  | i, o :: t, v, a, b => bif shardZ o.key == sh then doOps sh (i + 1) t (v.setIfInBounds o.key.toNat (doZ (vat v o.key.toNat) o)) (a ++ [(i : Int)]) (b ++ [doZ (vat v o.key.toNat) o]) else doOps sh (i + 1) t v a b
def doneE (e : GEntry) (a b : List Int) : GEntry := { e with state := 3, at_ := a, values := b }
def midN (s : GNode) (n : Nat) (v : Vector Int 8) (a b : List Int) : GNode := { entries := s.entries.setIfInBounds n (doneE (eat s.entries n) a b), order := s.order, values := v }
def oneZ (s : GNode) (n : Nat) (sh : Int) : GNode :=
  { entries := s.entries.setIfInBounds n (doneE (eat s.entries n) (doOps sh 0 (eat s.entries n).ops s.values [] []).2.1 (doOps sh 0 (eat s.entries n).ops s.values [] []).2.2), order := s.order ++ [(n : Int)], values := (doOps sh 0 (eat s.entries n).ops s.values [] []).1 }
theorem midN_set {s : GNode} {n : Nat} {v : Vector Int 8} {a b a' b' : List Int} {e : GEntry} (he : e = doneE (eat s.entries n) a' b') : ({ entries := (midN s n v a b).entries.setIfInBounds n e, order := (midN s n v a b).order, values := (midN s n v a b).values } : GNode) = midN s n v a' b' := by
  unfold midN
  simp only [Vector.setIfInBounds_setIfInBounds, he]
theorem midN_at {s : GNode} {n : Nat} {v : Vector Int 8} {a b a' : List Int} :
    ({ entries := (midN s n v a b).entries.setIfInBounds n { state := (doneE (eat s.entries n) a b).state, ops := (doneE (eat s.entries n) a b).ops, first := (doneE (eat s.entries n) a b).first, deps := (doneE (eat s.entries n) a b).deps, at_ := a', values := (doneE (eat s.entries n) a b).values }, order := (midN s n v a b).order, values := v } : GNode) = midN s n v a' b := midN_set rfl
theorem midN_vs {s : GNode} {n : Nat} {v : Vector Int 8} {a b b' : List Int} :
    ({ entries := (midN s n v a b).entries.setIfInBounds n { state := (doneE (eat s.entries n) a b).state, ops := (doneE (eat s.entries n) a b).ops, first := (doneE (eat s.entries n) a b).first, deps := (doneE (eat s.entries n) a b).deps, at_ := (doneE (eat s.entries n) a b).at_, values := b' }, order := (midN s n v a b).order, values := (midN s n v a b).values } : GNode) = midN s n v a b' := midN_set rfl
theorem midN_ent {s : GNode} {n : Nat} (hn : n < 32) {v : Vector Int 8} {a b : List Int} : eat (midN s n v a b).entries n = doneE (eat s.entries n) a b := by
  unfold midN
  rw [eat_setI hn, if_pos rfl]
def KeyOk (l : List GOp) : Prop := ∀ o ∈ l, 0 ≤ o.key ∧ o.key < 8
theorem KeyOk.of {l : List GOp} (h : goodOpsZ l = true) : KeyOk l := fun o ho => by have := goodOps_mem h o ho; omega
theorem nodeOne_l1_eq {s : GNode} {n : Nat} (hn : n < 32) {sh : Int} {e0 : GEntry} (he : e0 = doneE (eat s.entries n) [] []) (hk : KeyOk (eat s.entries n).ops) (hl : (eat s.entries n).ops.length ≤ 4) (ho : s.order.length ≤ 1000) : ∀ (q m k : Nat) (v : Vector Int 8) (a b : List Int), (eat s.entries n).ops.length = k + m → m < q → a.length ≤ k → b.length = a.length →
    nodeOne_l1 n sh e0 q (midN s n v a b) k = some { midN s n (doOps sh k ((eat s.entries n).ops.drop k) v a b).1 (doOps sh k ((eat s.entries n).ops.drop k) v a b).2.1 (doOps sh k ((eat s.entries n).ops.drop k) v a b).2.2 with order := s.order ++ [(n : Int)] }
  | 0, m, k, v, a, b, _, h, _, _ => absurd h (by omega)
  | q + 1, 0, k, v, a, b, hkm, _, _, _ => by
    have hb : Rep.bytes Int = 8 := rfl
    have hord : (midN s n v a b).order = s.order := rfl
    have e1 : e0.ops = (eat s.entries n).ops := by rw [he]; rfl
    rw [nodeOne_l1, e1, bif_f (dec_f (by omega)), List.drop_of_length_le (by omega), app_ok (by rw [hb, hord]; simp only [List.length_singleton]; omega)]
    rfl
  | q + 1, m + 1, k, v, a, b, hkm, hq, ha, hbl => by
    have hb : Rep.bytes Int = 8 := rfl
    have hlt : k < (eat s.entries n).ops.length := by omega
    have hx : (eat s.entries n).ops[k]? = some (eat s.entries n).ops[k] := List.getElem?_eq_getElem hlt
    have hkey := hk _ (List.getElem_mem hlt)
    have e0 : e0.ops = (eat s.entries n).ops := by rw [he]; rfl
    have ih := fun v a b ha hb => nodeOne_l1_eq hn (sh := sh) he hk hl ho q m (k + 1) v a b (by omega) (by omega) ha hb
    rw [nodeOne_l1, e0, bif_t (dec_t (by omega)), idx_nat, hx, some_bind, some_bind, some_bind, List.drop_eq_getElem_cons hlt]
    simp only [nodeOne_j2, nodeOne_j1, wrs k (by omega), doOps]
    generalize (eat s.entries n).ops[k] = o at hkey
    cases h1 : (shardZ o.key == sh)
    · rw [cond_false, cond_false, ih v a b (by omega) hbl]
    · have hv : (midN s n v a b).values = v := rfl
      rw [cond_true, cond_true, inR_ok hkey.1 hkey.2, some_bind, hv, idxV8 hkey.1 hkey.2, some_bind, some_bind, some_bind, some_bind, setV_in hkey.1 hkey.2, some_bind, some_bind]
      have hm : ({ entries := (midN s n v a b).entries, order := (midN s n v a b).order, values := v.setIfInBounds o.key.toNat (doZ (vat v o.key.toNat) o) } : GNode) = midN s n (v.setIfInBounds o.key.toNat (doZ (vat v o.key.toNat) o)) a b := rfl
      rw [hm]
      generalize hv2 : v.setIfInBounds o.key.toNat (doZ (vat v o.key.toNat) o) = v2
      have hvv : vat v2 o.key.toNat = doZ (vat v o.key.toNat) o := by rw [← hv2, vat_set (by omega), if_pos rfl]
      have hv' : (midN s n v2 a b).values = v2 := rfl
      rw [idxE hn, some_bind, some_bind, some_bind, hv', idxV8 hkey.1 hkey.2, some_bind, midN_ent hn, hvv]
      have e1 : (doneE (eat s.entries n) a b).at_ = a := rfl
      have e2 : (doneE (eat s.entries n) a b).values = b := rfl
      rw [e1, e2, app_ok (by rw [hb]; simp only [List.length_singleton]; omega), some_bind, app_ok (by rw [hb]; simp only [List.length_singleton]; omega), some_bind, some_bind, setE hn, some_bind, some_bind]
      rw [midN_at, idxE hn, some_bind, midN_ent hn, setE hn, some_bind, some_bind, midN_vs]
      exact ih v2 _ _ (by simp; omega) (by simp [hbl])
theorem nodeOneD_eq {fu : Nat} {s : GNode} {n : Nat} (hn : n < 32) {sh : Int} (hk : KeyOk (eat s.entries n).ops) (hl : (eat s.entries n).ops.length ≤ 4) (ho : s.order.length ≤ 1000) (hfu : 5 ≤ fu) : nodeOneD fu s n sh = some (oneZ s n sh) := by
  unfold nodeOneD
  have h := nodeOne_l1_eq hn (sh := sh) (e0 := doneE (eat s.entries n) [] []) rfl hk hl ho fu (eat s.entries n).ops.length 0 s.values [] [] (by omega) (by omega) (by simp) rfl
  have h : nodeOne_l1 n sh (doneE (eat s.entries n) [] []) fu (midN s n s.values [] []) 0 = some (oneZ s n sh) := h
  have e1 : ∀ (x : GEntry), ({ s with entries := s.entries.setIfInBounds n x } : GNode).entries = s.entries.setIfInBounds n x := fun _ => rfl
  rw [inR_ok (by omega) (by omega), some_bind, idxE hn, some_bind, setE hn, some_bind, some_bind]
  rw [e1, idxE hn, some_bind, eat_setI hn, if_pos rfl, setE hn, some_bind, some_bind]
  simp only [Vector.setIfInBounds_setIfInBounds]
  rw [idxE hn, some_bind, eat_setI hn, if_pos rfl, setE hn, some_bind, some_bind]
  simp only [Vector.setIfInBounds_setIfInBounds]
  rw [idxE hn, some_bind, eat_setI hn, if_pos rfl]
  rw [← h]
  rfl
theorem atUp_mono {m : Int} : ∀ {l : List Int} {b b' : Int}, b' ≤ b → atUp m b l = true → atUp m b' l = true
  | [], _, _, _, _ => rfl
  | x :: t, b, b', h, ha => by
    unfold atUp at *
    simp only [Bool.and_eq_true, decide_eq_true_eq] at *
    exact ⟨⟨by omega, ha.1.2⟩, ha.2⟩
theorem doOps_at {sh : Int} : ∀ (l : List GOp) (i : Nat) (v : Vector Int 8) (a b : List Int), ∃ L, (doOps sh i l v a b).2.1 = a ++ L ∧ atUp ((i + l.length : Nat) : Int) ((i : Int) - 1) L = true ∧ (doOps sh i l v a b).2.2.length = b.length + L.length
  | [], i, v, a, b => ⟨[], by simp [doOps], rfl, by simp [doOps]⟩
  | o :: t, i, v, a, b => by
    unfold doOps
    cases h : (shardZ o.key == sh)
    · obtain ⟨L, h1, h2, h3⟩ := doOps_at t (i + 1) v a b
      rw [cond_false]
      refine ⟨L, h1, ?_, h3⟩
      rw [show i + (o :: t).length = i + 1 + t.length from by simp; omega]
      exact atUp_mono (by omega) h2
    · obtain ⟨L, h1, h2, h3⟩ := doOps_at t (i + 1) (v.setIfInBounds o.key.toNat (doZ (vat v o.key.toNat) o)) (a ++ [(i : Int)]) (b ++ [doZ (vat v o.key.toNat) o])
      rw [cond_true]
      refine ⟨(i : Int) :: L, by rw [h1]; simp, ?_, by rw [h3]; simp; omega⟩
      rw [show i + (o :: t).length = i + 1 + t.length from by simp; omega]
      unfold atUp
      simp only [Bool.and_eq_true, decide_eq_true_eq]
      refine ⟨⟨by omega, by omega⟩, ?_⟩
      rw [show (i : Int) = ((i + 1 : Nat) : Int) - 1 from by omega]
      exact h2
theorem entryOk_iff {k : Int} {e : GEntry} {t : Bool} : entryOk k e t = true ↔ (0 ≤ e.state ∧ e.state ≤ 3) ∧ (e.state = 3 ↔ t = true) ∧ restOk k e = true := by
  unfold entryOk
  simp only [Bool.and_eq_true, decide_eq_true_eq]
  refine and_congr_right fun _ => and_congr_left fun _ => ?_
  cases t <;> simp
structure Body (k : Int) (e : GEntry) : Prop where
  ops : goodOpsZ e.ops = true
  first : risingZ e.first = true
  deps : risingZ e.deps = true
  nfirst : hasZ e.first k = false
  ndeps : hasZ e.deps k = false
  asked : e.state = 1 → e.deps = []
  undone : e.state ≠ 3 → e.at_ = []
  same : e.at_.length = e.values.length
  up : atUp e.ops.length (-1) e.at_ = true
theorem body_iff {k : Int} {e : GEntry} : bodyOk k e = true ↔ Body k e := by
  unfold bodyOk
  simp only [Bool.and_eq_true, Bool.not_eq_true']
  constructor
  · rintro ⟨h1, h2, h3, h4, h5, h6, h7, h8, h9⟩
    refine ⟨h1, h2, h3, h4, h5, fun h => ?_, fun h => ?_, ?_, h9⟩
    · rw [h] at h6
      simpa using h6
    · have : (e.state != 3) = true := by simpa using h
      rw [this] at h7
      simpa using h7
    · simp only [bne_eq_false_iff_eq] at h8; omega
  · rintro ⟨h1, h2, h3, h4, h5, h6, h7, h8, h9⟩
    refine ⟨h1, h2, h3, h4, h5, ?_, ?_, ?_, h9⟩
    · by_cases h : e.state = 1
      · rw [h6 h]; simp
      · simp [h]
    · by_cases h : e.state = 3
      · rw [h]; rfl
      · rw [h7 h]; simp
    · simp only [bne_eq_false_iff_eq]; omega
theorem GoodN.body {s : GNode} (h : GoodN s) {k : Nat} (hk : k < 32) (h0 : (eat s.entries k).state ≠ 0) : Body k (eat s.entries k) := by
  have := (entryOk_iff.1 (h.ent k hk)).2.2
  unfold restOk at this
  rw [bif_f (by simpa using h0)] at this
  exact body_iff.1 this
theorem GoodN.state {s : GNode} (h : GoodN s) {k : Nat} (hk : k < 32) : 0 ≤ (eat s.entries k).state ∧ (eat s.entries k).state ≤ 3 := (entryOk_iff.1 (h.ent k hk)).1
theorem GoodN.done {s : GNode} (h : GoodN s) {k : Nat} (hk : k < 32) : (eat s.entries k).state = 3 ↔ (k : Int) ∈ s.order := by
  rw [(entryOk_iff.1 (h.ent k hk)).2.1]; simp
theorem emptyE_iff {e : GEntry} : emptyE e = true ↔ e.ops = [] ∧ e.first = [] ∧ e.deps = [] ∧ e.at_ = [] ∧ e.values = [] := by
  unfold emptyE
  simp [List.length_eq_zero_iff]
theorem GoodN.empty {s : GNode} (h : GoodN s) {k : Nat} (hk : k < 32) (h0 : (eat s.entries k).state = 0) : (eat s.entries k).ops = [] ∧ (eat s.entries k).first = [] ∧ (eat s.entries k).deps = [] ∧ (eat s.entries k).at_ = [] ∧ (eat s.entries k).values = [] := by
  have := (entryOk_iff.1 (h.ent k hk)).2.2
  unfold restOk at this
  rw [bif_t (by simpa using h0)] at this
  exact emptyE_iff.1 this
theorem nodup_len_int {l : List Int} (h : l.Nodup) (hr : ∀ m ∈ l, 0 ≤ m ∧ m < 32) : l.length ≤ 32 := by
  have h1 : (l.map Int.toNat).Nodup := by
    refine List.pairwise_map.2 (h.imp_of_mem fun {a b} ha hb hab => ?_)
    have := hr a ha
    have := hr b hb
    omega
  have := nodup_len 32 (l.map Int.toNat) h1 fun x hx => by
    obtain ⟨y, hy, rfl⟩ := List.mem_map.1 hx
    have := hr y hy
    omega
  simpa using this
theorem GoodN.len {s : GNode} (h : GoodN s) : s.order.length ≤ 32 := nodup_len_int h.nodup h.inr
theorem GoodN.set {s t : GNode} (h : GoodN s) {n : Nat} (hn : n < 32) {e : GEntry} (he : t.entries = s.entries.setIfInBounds n e) (ho : t.order = s.order) (h3 : (eat s.entries n).state ≠ 3) (h1 : 1 ≤ e.state ∧ e.state ≤ 2) (hb : Body n e) : GoodN t := by
  refine ⟨by rw [ho]; exact h.nodup, by rw [ho]; exact h.inr, fun k hk => ?_⟩
  rw [he, ho, eat_setI hn]
  by_cases e' : n = k
  · subst e'
    rw [if_pos rfl]
    refine entryOk_iff.2 ⟨by omega, ⟨fun h => by omega, fun hm => ?_⟩, ?_⟩
    · exact absurd ((h.done hn).2 (by simpa using hm)) h3
    · unfold restOk
      rw [bif_f (by simp; omega)]
      exact body_iff.2 hb
  · rw [if_neg e']
    exact h.ent k hk
theorem GoodN.one {s : GNode} (h : GoodN s) {n : Nat} (hn : n < 32) (h2 : (eat s.entries n).state = 2) (sh : Int) : GoodN (oneZ s n sh) := by
  have hb := h.body hn (by omega)
  have hno : (n : Int) ∉ s.order := fun hm => by have := (h.done hn).2 hm; omega
  refine ⟨?_, ?_, fun k hk => ?_⟩
  · refine List.nodup_append.2 ⟨h.nodup, by simp, fun a ha b hb => ?_⟩
    rw [List.mem_singleton.1 hb]
    rintro rfl
    exact hno ha
  · intro m hm
    rcases List.mem_append.1 hm with hm | hm
    · exact h.inr m hm
    · rw [List.mem_singleton.1 hm]; omega
  · show entryOk k (eat (s.entries.setIfInBounds n _) k) (decide ((k : Int) ∈ s.order ++ [(n : Int)])) = true
    rw [eat_setI hn]
    by_cases e' : n = k
    · subst e'
      rw [if_pos rfl]
      obtain ⟨L, a1, a2, a3⟩ := doOps_at (sh := sh) (eat s.entries n).ops 0 s.values [] []
      refine entryOk_iff.2 ⟨(show (0 : Int) ≤ 3 ∧ (3 : Int) ≤ 3 by decide), ⟨fun _ => by simp, fun _ => rfl⟩, ?_⟩
      show (bif false then _ else bodyOk _ _) = true
      rw [cond_false]
      refine body_iff.2 ⟨hb.ops, hb.first, hb.deps, hb.nfirst, hb.ndeps, fun h => ?_, fun h => absurd rfl h, ?_, ?_⟩
      · have : (3 : Int) = 1 := h
        omega
      · show (doOps sh 0 (eat s.entries n).ops s.values [] []).2.1.length = (doOps sh 0 (eat s.entries n).ops s.values [] []).2.2.length
        rw [a1, a3]
        simp
      · show atUp _ (-1) (doOps sh 0 _ s.values [] []).2.1 = true
        rw [a1, List.nil_append]
        rw [Nat.zero_add] at a2
        exact a2
    · rw [if_neg e']
      have : decide ((k : Int) ∈ s.order ++ [(n : Int)]) = decide ((k : Int) ∈ s.order) := by
        apply decide_eq_decide.2
        simp only [List.mem_append, List.mem_singleton]
        constructor
        · rintro (h | h)
          · exact h
          · omega
        · exact .inl
      rw [this]
      exact h.ent k hk
end Go.Proofs.Ytopgdemmdcipcaa
namespace Go.Proofs.Ytopgdemmdcipcaa
open Go.RowKit Go.ChangeShapes Go.WideShapes Go.ChangeAt Go.Deep
section
variable {H : Type} {enc : TypeId × Value → H} {P : Program} {w : World}
theorem weightsAll_mem {P : Program} {e : TypeId} : ∀ {ds : List (DataW H)} {d : DataW H}, d ∈ ds → ∀ n ∈ d.weights P e, n ∈ DataW.weightsAll P e ds
  | d0 :: ds, d, hd, n, hn => by
    simp only [DataW.weightsAll, List.mem_append]
    rcases List.mem_cons.1 hd with h | h
    · subst h; exact .inl hn
    · exact .inr (weightsAll_mem h n hn)
end
end Go.Proofs.Ytopgdemmdcipcaa
namespace Go.Proofs.Ytopgdemmdcipcaa
open Go.RowKit Go.ChangeShapes Go.WideShapes Go.ChangeAt Go.Deep
open Rep (rep)
def wholeM (w : World) : Mm := fun b => match w.heap[b]? with | some (.cells arr _ _) => some arr.toList | _ => none
theorem wholeM_agree (w : World) : Agree (wholeM w) w := fun b p hb => by
  unfold wholeM at hb
  split at hb
  · rename_i arr t fr hh
    cases hb
    exact ⟨arr, t, fr, hh, List.prefix_refl _⟩
  · cases hb
theorem weightsEach_mem {H : Type} {P : Program} {ts : List TypeId} {ds : List (DataW H)} {j : Nat} {t : TypeId} {d : DataW H} (ht : ts[j]? = some t) (hd : ds[j]? = some d) : ∀ n ∈ d.weights P t, n ∈ DataW.weightsEach P ts ds := DataW.weights_mem_each ht hd
def Opn (P : Program) (t : TypeId) (α : Type) [Rep α] : Prop :=
  P.cellsOf t = Rep.k α ∧ ∀ (H : Type) (enc : TypeId × Value → H) (w : World) (fuel : Nat) (cs : List Value) (d : DataW H) (p : List MemPlace),
    DataW.trod enc P w 0 (fun _ => true) true fuel t cs = some (d, p) → (∀ n ∈ d.weights P t, n ≤ reachBytes) → ∃ x : α, rep (wholeM w) cs x
section
variable {P : Program} {t e : TypeId} {α : Type} [Rep α]
theorem opn_int (ht : P.underlying t = some (.int .i64)) (hc : P.cellsOf t = 1) : Opn P t Int := ⟨hc, fun H enc w fuel cs d p h hw => by
  obtain ⟨n, rfl, _, _⟩ := DataW.trod_int ht h
  exact ⟨n, rfl⟩⟩
theorem add_bo (a : Addr) (i : Nat) : (a.add i).block = a.block ∧ (a.add i).off = a.off + i := by
  unfold Addr.add
  split
  · rename_i h; exact ⟨rfl, by rw [show i = 0 by simpa using h]; rfl⟩
  · exact ⟨rfl, rfl⟩
theorem cells_piece {w : World} {a : Addr} {k : Nat} {cs : List Value} (h : w.cells? 0 a k = some cs) (hk : 0 < k) :
    a.spot = none ∧ ∃ q, wholeM w a.block = some q ∧ a.off + k ≤ q.length ∧ sl q a.off k = cs := by
  obtain ⟨_, hl, hat⟩ := World.cells?_some h
  have h0 := hat 0 hk
  rw [List.getElem?_eq_getElem (by omega)] at h0
  have hsp : a.spot = none := by
    have := World.cell?_spot h0
    simpa [Addr.add] using this
  refine ⟨hsp, ?_⟩
  have hc : ∀ i, i < k → ∃ arr tt fr, w.heap[a.block]? = some (.cells arr tt fr) ∧ arr[a.off + i]? = cs[i]? := by
    intro i hi
    have hi' := hat i hi
    rw [List.getElem?_eq_getElem (by omega)] at hi' ⊢
    unfold World.cell? at hi'
    split at hi'
    · rename_i arr tt fr hh
      rw [(add_bo a i).1] at hh
      refine ⟨arr, tt, fr, hh, ?_⟩
      split at hi'
      · cases hi'
      · rw [(add_bo a i).2] at hi'
        exact hi'
    · cases hi'
  obtain ⟨arr, tt, fr, hh, _⟩ := hc 0 hk
  have hall : ∀ i, i < k → arr[a.off + i]? = cs[i]? := by
    intro i hi
    obtain ⟨arr', tt', fr', hh', he⟩ := hc i hi
    rw [hh] at hh'
    cases hh'
    exact he
  have hlen : a.off + k ≤ arr.size := by
    have := hall (k - 1) (by omega)
    rw [List.getElem?_eq_getElem (by omega)] at this
    have := (Array.getElem?_eq_some_iff.1 this).1
    omega
  refine ⟨arr.toList, by simp [wholeM, hh], by simpa using hlen, ?_⟩
  refine ext_get fun j => ?_
  by_cases hj : j < k
  · rw [sl_get _ _ _ _ hj]
    simpa using hall j hj
  · rw [sl_get_none _ _ _ _ (by omega), List.getElem?_eq_none (by omega)]
theorem opn_slice (ht : P.underlying t = some (.slice e)) (hc : P.cellsOf t = 1) (he : Opn P e α) (hk : 0 < Rep.k α) (hby : P.bytesOf e = Rep.bytes α) : Opn P t (List α) := ⟨hc, fun H enc w fuel cs d p h hw => by
  rcases open_slice ht h with ⟨rfl, hx⟩ | ⟨a, len, cap, m, n, D, Pl, rfl, _, hl, hm, hmm, hx, hel⟩
  · exact ⟨[], _, rfl, repL_nil _⟩
  · simp only [if_true] at hmm
    subst hmm
    simp only [Prod.mk.injEq] at hx
    rw [hx.1] at hw
    simp only [DataW.weights, ht, hby, List.mem_cons, List.mem_append, List.length_map, List.length_range] at hw
    have hw1 := hw _ (.inl rfl)
    unfold reachBytes at hw1
    have hone : ∀ i, i < len → ∃ x : α, ∃ b off q, a.add (i * Rep.k α) = ⟨b, off, none⟩ ∧ wholeM w b = some q ∧ off + Rep.k α ≤ q.length ∧ rep (wholeM w) (sl q off (Rep.k α)) x := by
      intro i him
      obtain ⟨cs', h1, h2⟩ := hel i (by omega)
      rw [he.1] at h1
      obtain ⟨hsp, q, hq, hlq, hsl⟩ := cells_piece h1 hk
      obtain ⟨x, hxr⟩ := he.2 H enc w n cs' (D i) (Pl i) h2 fun nn hnn => hw nn (.inr (.inl (weightsAll_mem (List.mem_map.2 ⟨i, List.mem_range.2 him, rfl⟩) _ hnn)))
      refine ⟨x, _, _, q, ?_, hq, hlq, by rw [hsl]; exact hxr⟩
      rw [← hsp]
    by_cases hz : len = 0
    · subst hz
      exact ⟨[], .slice (some a) 0 m, rfl, some a, m, rfl, by simp, (fun h => by cases h), by simp, fun i x hx => by simp at hx⟩
    have hspot : ∃ b off, a = ⟨b, off, none⟩ := by
      obtain ⟨x, b, off, q, e1, _⟩ := hone 0 (by omega)
      obtain ⟨ab, ao, asp⟩ := a
      simp [Addr.add] at e1
      exact ⟨ab, ao, by rw [e1.2.2]⟩
    obtain ⟨b, off, rfl⟩ := hspot
    obtain ⟨x0, _⟩ := hone 0 (by omega)
    haveI : Inhabited α := ⟨x0⟩
    obtain ⟨V, hV⟩ := choose_lt (α := α) hone
    have hlen : ((List.range len).map V).length = len := by simp
    refine ⟨(List.range len).map V, .slice (some ⟨b, off, none⟩) len m, rfl, some ⟨b, off, none⟩, m, by rw [hlen], by rw [hlen]; exact hl, (fun h => by cases h), ?_, fun i x hx => ?_⟩
    · rw [hlen]
      exact Nat.le_trans (Nat.mul_le_mul_right _ (by omega : len ≤ len + (m - len))) hw1
    · have hi : i < len := by
        have := (List.getElem?_eq_some_iff.1 hx).1
        omega
      have hxe : V i = x := by simpa [hi] using hx
      obtain ⟨b', off', q, e1, hq, hlq, hr⟩ := hV i hi
      rw [Addr.add_lit] at e1
      cases e1
      exact ⟨_, _, q, rfl, hq, hlq, hxe ▸ hr⟩⟩
theorem opn_field {H : Type} {enc : TypeId × Value → H} {w : World} {fuel : Nat} {cs : List Value} {d : DataW H} {p : List MemPlace} {fs : Array Field} (ht : P.underlying t = some (.struct fs))
    (h : DataW.trod enc P w 0 (fun _ => true) true fuel t cs = some (d, p)) (hw : ∀ n ∈ d.weights P t, n ≤ reachBytes) (i : Nat) (f : Field) (hf : fs[i]? = some f) {e : TypeId} {o k : Nat} (h1 : f.type = e) (h2 : f.offset = o) (hk : Rep.k α = k) (he : Opn P e α) :
    ∃ x : α, rep (wholeM w) (sl cs o k) x := by
  subst hk
  subst h1
  subst h2
  obtain ⟨ys, n, _, hx, _, hyl, hfld⟩ := DataW.trod_struct ht h
  obtain ⟨rfl, rfl⟩ := Prod.mk.inj hx
  have hi : i < fs.size := (Array.getElem?_eq_some_iff.1 hf).1
  have e0 := hfld i f hf
  rw [List.getElem?_eq_getElem (by omega), he.1] at e0
  refine he.2 H enc w n _ _ _ e0 fun nn hnn => hw nn ?_
  simp only [DataW.weights, ht]
  refine weightsEach_mem (j := i) ?_ ?_ nn hnn
  · simp only [List.getElem?_map]; rw [Array.getElem?_toList, hf]; rfl
  · simp only [List.getElem?_map, List.getElem?_eq_getElem (show i < ys.length by omega), Option.map_some]; rfl
theorem opn_arg (ho : Opn P t α) {H : Type} {enc : TypeId × Value → H} {w : World} {v : Value} {d : DataW H} {p : List MemPlace} (h : DataW.Trod enc P w 0 (fun _ => true) true t v d p) (hw : (d.weights P t).all (· ≤ reachBytes) = true) :
    ∃ x : α, rep (wholeM w) v.cells.toList x := by
  obtain ⟨fuel, hf⟩ := h
  exact ho.2 H enc w fuel _ _ _ hf fun n hn => of_decide_eq_true (List.all_eq_true.1 hw n hn)
theorem opn_row {e : TypeId} (ht : P.underlying t = some (.slice e)) (ho : Opn P t (List α)) {H : Type} {enc : TypeId × Value → H} {w : World} {v : Value} {d : DataW H} {p : List MemPlace} (hv : Value.okWide P w .any 0 t v)
    (h : DataW.Trod enc P w 0 (fun _ => true) true t v d p) (hw : (d.weights P t).all (· ≤ reachBytes) = true) : ∃ l : List α, repL (wholeM w) v l := by
  obtain ⟨a, len, cap, rfl⟩ := okWide_slice ht hv
  obtain ⟨x, v', hx, hr⟩ := opn_arg ho h hw
  have : v' = .slice a len cap := by simpa [Value.cells] using hx.symm
  subst this
  exact ⟨x, hr⟩
end
end Go.Proofs.Ytopgdemmdcipcaa
namespace Go.Proofs.Ytopgdemmdcipcaa
open Go.RowKit
open Rep (rep)
def g0 : GGraph := { known := ((Zr.zd : Vector Bool 32).setIfInBounds 1 true).setIfInBounds 2 true, deps := ((Zr.zd : Vector (List Int) 32).setIfInBounds 1 [2]).setIfInBounds 2 [1] }
end Go.Proofs.Ytopgdemmdcipcaa
namespace Go.Proofs.Ytopgdemmdcipcaa
open Go.RowKit
open Rep (rep)
def stepZ (sh : Int) (s : GNode) (m : Nat) : GNode := bif (eat s.entries m).state == 2 then oneZ s m sh else s
def runZ (sh : Int) (s : GNode) (l : List Nat) : GNode := l.foldl (stepZ sh) s
noncomputable def ordL (g : GGraph) (n : Nat) : List Nat := if readyZ g (n : Int) = true then orderS (pathB g) n else []
noncomputable def turnZ (g : GGraph) (sh : Int) (s : GNode) (n : Nat) : GNode := bif (eat s.entries n).state == 2 then runZ sh s (ordL g n) else s
noncomputable def execZ (s : GNode) (sh : Int) : GNode := (List.range 32).foldl (turnZ (graphZ s) sh) s
theorem orderZ_castL (g : GGraph) (n : Nat) : orderZ g (n : Int) = castL (ordL g n) := by
  unfold orderZ ordL castL
  by_cases h : readyZ g (n : Int) = true
  · rw [if_pos h, if_pos h, Int.toNat_natCast]
  · rw [if_neg h, if_neg h]
    rfl
theorem ordL_lt {g : GGraph} {n : Nat} (hn : n < 32) : ∀ m ∈ ordL g n, m < 32 := by
  unfold ordL
  by_cases h : readyZ g (n : Int) = true
  · rw [if_pos h]; exact (orderS_ok (pathB_pre g) hn).lt
  · rw [if_neg h]; simp
theorem ordL_len {g : GGraph} {n : Nat} (hn : n < 32) : (ordL g n).length ≤ 32 := by
  unfold ordL
  by_cases h : readyZ g (n : Int) = true
  · rw [if_pos h]; exact (orderS_ok (pathB_pre g) hn).len
  · rw [if_neg h]; simp
theorem GoodN.step {s : GNode} (h : GoodN s) {m : Nat} (hm : m < 32) (sh : Int) : GoodN (stepZ sh s m) := by
  unfold stepZ
  cases h2 : ((eat s.entries m).state == 2)
  · exact h
  · exact h.one hm (by simpa using h2) sh
theorem GoodN.run (sh : Int) : ∀ (l : List Nat) {s : GNode}, GoodN s → (∀ m ∈ l, m < 32) → GoodN (runZ sh s l)
  | [], _, h, _ => h
  | m :: t, _, h, hl => GoodN.run sh t (h.step (hl m List.mem_cons_self) sh) fun x hx => hl x (List.mem_cons_of_mem _ hx)
theorem GoodN.turn {s : GNode} (h : GoodN s) {n : Nat} (hn : n < 32) (g : GGraph) (sh : Int) : GoodN (turnZ g sh s n) := by
  unfold turnZ
  cases ((eat s.entries n).state == 2)
  · exact h
  · exact h.run sh _ (ordL_lt hn)
theorem GoodN.turns (g : GGraph) (sh : Int) : ∀ (l : List Nat) {s : GNode}, GoodN s → (∀ m ∈ l, m < 32) → GoodN (l.foldl (turnZ g sh) s)
  | [], _, h, _ => h
  | m :: t, _, h, hl => GoodN.turns g sh t (h.turn (hl m List.mem_cons_self) g sh) fun x hx => hl x (List.mem_cons_of_mem _ hx)
theorem GoodN.exec {s : GNode} (h : GoodN s) (sh : Int) : GoodN (execZ s sh) := h.turns _ sh _ fun m hm => List.mem_range.1 hm
theorem castL_get (l : List Nat) (k : Nat) : (castL l)[k]? = (l[k]?).map fun m => ((m : Nat) : Int) := by simp [castL]
theorem body_ops {s : GNode} (h : GoodN s) {m : Nat} (hm : m < 32) (h2 : ((eat s.entries m).state == 2) = true) : KeyOk (eat s.entries m).ops ∧ (eat s.entries m).ops.length ≤ 4 := by
  have h2 : (eat s.entries m).state = 2 := by simpa using h2
  have hb := h.body hm (by omega)
  exact ⟨KeyOk.of hb.ops, (goodOps_len hb.ops).2⟩
theorem nodeExec_l2_eq {fu : Nat} (hfu : 5 ≤ fu) {sh y : Int} {rec : GNode → Int → Option GNode} {l : List Nat} (hl : ∀ m ∈ l, m < 32) (hlen : l.length ≤ 32) : ∀ (q m k : Nat) (s : GNode), l.length = k + m → m < q → GoodN s → nodeExec_l2 fu sh y rec (castL l) q s k = nodeExec_j1 y rec (runZ sh s (l.drop k))
  | 0, m, k, s, _, h, _ => absurd h (by omega)
  | q + 1, 0, k, s, hk, _, _ => by
    rw [nodeExec_l2, castL_len, bif_f (dec_f (by omega)), List.drop_of_length_le (by omega)]
    rfl
  | q + 1, m + 1, k, s, hk, hq, hs => by
    have hlt : k < l.length := by omega
    have hm := hl _ (List.getElem_mem hlt)
    have ih := fun s hs => nodeExec_l2_eq (y := y) (rec := rec) (sh := sh) hfu hl hlen q m (k + 1) s (by omega) (by omega) hs
    rw [nodeExec_l2, castL_len, bif_t (dec_t (by omega)), idx_nat, castL_get, List.getElem?_eq_getElem hlt, List.drop_eq_getElem_cons hlt]
    generalize l[k] = x at hm
    simp only [Option.map_some, some_bind, nodeExec_j2, wrs k (by omega)]
    rw [inR_ok (by omega) (by omega), some_bind, idxE hm, some_bind]
    show _ = nodeExec_j1 y rec (runZ sh (stepZ sh s x) (l.drop (k + 1)))
    have hst := hs.step hm sh
    unfold stepZ at hst ⊢
    cases h2 : ((eat s.entries x).state == 2)
    · rw [cond_false, cond_false, ih s hs]
    · rw [h2, cond_true] at hst
      obtain ⟨b1, b2⟩ := body_ops hs hm h2
      rw [cond_true, cond_true, nodeOneD_eq hm b1 b2 (by have := hs.len; omega) hfu, some_bind, ih _ hst]
theorem nodeExec_l1_eq {fu N : Nat} {g : GGraph} (hg : Small g N) (hfu : N + 80 ≤ fu) {sh : Int} : ∀ (q m k : Nat) (s : GNode), k + m = 32 → m < q → GoodN s → nodeExec_l1 fu sh g q s k = some ((List.range' k m).foldl (turnZ g sh) s)
  | 0, m, k, s, _, h, _ => absurd h (by omega)
  | q + 1, 0, k, s, hk, _, _ => by rw [nodeExec_l1, bif_f (dec_f (by omega)), some_bind]; rfl
  | q + 1, m + 1, k, s, hk, hq, hs => by
    have hk32 : k < 32 := by omega
    have ih := fun s hs => nodeExec_l1_eq hg hfu (sh := sh) q m (k + 1) s (by omega) (by omega) hs
    rw [nodeExec_l1, bif_t (dec_t (by omega)), inR_ok (by omega) (by omega), some_bind, idxE hk32, some_bind, List.range'_succ, List.foldl_cons]
    have hne : ((eat s.entries k).state != 2) = !((eat s.entries k).state == 2) := rfl
    have ht := hs.turn hk32 g sh
    rw [hne]
    unfold turnZ at ht ⊢
    cases h2 : ((eat s.entries k).state == 2)
    · rw [Bool.not_false, cond_true, cond_false, nodeExec_j1, wrs k (by omega), ih s hs]
      rfl
    · rw [h2, cond_true] at ht
      rw [Bool.not_true, cond_false, cond_true, gorderD_eq hg hfu, some_bind, orderZ_castL]
      have h := nodeExec_l2_eq (fu := fu) (sh := sh) (y := (k : Int)) (rec := nodeExec_l1 fu sh g q) (by omega) (ordL_lt (g := g) hk32) (ordL_len (g := g) hk32) fu (ordL g k).length 0 s (by omega) (by have := ordL_len (g := g) hk32; omega) hs
      have h : nodeExec_l2 fu sh k (nodeExec_l1 fu sh g q) (castL (ordL g k)) fu s 0 = nodeExec_j1 k (nodeExec_l1 fu sh g q) (runZ sh s (ordL g k)) := h
      rw [h, nodeExec_j1, wrs k (by omega), ih _ ht]
      rfl
theorem GoodN.small {s : GNode} (h : GoodN s) : Small (graphZ s) 33 := by
  intro a
  by_cases ha : a < 32
  · rw [depsAt_graphZ ha]
    by_cases h0 : (eat s.entries a).state = 0
    · rw [(h.empty ha h0).2.2.1]; simp
    · have := rising_len (h.body ha h0).deps
      omega
  · unfold depsAt
    rw [dif_neg ha]
    exact ⟨by simp, by simp⟩
theorem cloneIntsD_eq {fu : Nat} {l : List Int} (h : l.length ≤ 17592186043904) : cloneIntsD fu l = some l := by
  have hb : Rep.bytes Int = 8 := rfl
  unfold cloneIntsD
  rw [app_ok (by rw [hb]; simp only [List.length_nil]; omega)]
  rfl
theorem nodeExecD_eq {fu : Nat} {s : GNode} (hs : GoodN s) (hfu : 120 ≤ fu) (sh : Int) : nodeExecD fu s sh = some (execZ s sh) := by
  unfold nodeExecD
  rw [nodeGraphD_eq (by omega), some_bind, some_bind, cloneIntsD_eq (by have := hs.len; omega), some_bind, some_bind]
  have h := nodeExec_l1_eq (fu := fu) hs.small (by omega) (sh := sh) fu 32 0 s (by omega) (by omega) hs
  unfold execZ
  rw [List.range_eq_range']
  exact h
def knownF (who id : Int) : GFrame := { kind := 4, node := who, id := id, ops := [], deps := [], at_ := [], vals := [] }
def doneF (who id : Int) (x : GEntry) : GFrame := { kind := 5, node := who, id := id, ops := [], deps := [], at_ := x.at_, vals := x.values }
def toldF (who id : Int) (l : List Int) : GFrame := { kind := 2, node := who, id := id, ops := [], deps := l, at_ := [], vals := [] }
def answers (sh who id : Int) (s : GNode) : List GFrame := bif (eat s.entries id.toNat).state == 3 && touchesZ (eat s.entries id.toNat).ops sh then [knownF who id, doneF who id (eat s.entries id.toNat)] else [knownF who id]
def askedE (s : GNode) (f : GFrame) (sh : Int) : GEntry := { state := 1, ops := f.ops, first := aheadZ s f.id f.ops sh, deps := [], at_ := [], values := [] }
def askN (s : GNode) (f : GFrame) (sh : Int) : GNode := bif (eat s.entries f.id.toNat).state == 0 then { s with entries := s.entries.setIfInBounds f.id.toNat (askedE s f sh) } else s
def firstE (s : GNode) (f : GFrame) (sh : Int) : List Int := bif (eat s.entries f.id.toNat).state == 0 then aheadZ s f.id f.ops sh else (eat s.entries f.id.toNat).first
def commE (s : GNode) (f : GFrame) (sh : Int) : GEntry := { state := 2, ops := f.ops, first := firstE s f sh, deps := f.deps, at_ := (eat s.entries f.id.toNat).at_, values := (eat s.entries f.id.toNat).values }
def commN (s : GNode) (f : GFrame) (sh : Int) : GNode := { s with entries := s.entries.setIfInBounds f.id.toNat (commE s f sh) }
noncomputable def commitN (s : GNode) (f : GFrame) (sh : Int) : GNode := bif decide ((eat s.entries f.id.toNat).state < 2) then execZ (commN s f sh) sh else s
noncomputable def takeK (s : GNode) (who : Int) (f : GFrame) : GNode × List GFrame × Int :=
  bif f.kind == 1 then bif touchesZ f.ops (ofZ who) then (askN s f (ofZ who), [toldF who f.id (eat (askN s f (ofZ who)).entries f.id.toNat).first], 0) else (s, [], 4)
  else bif f.kind == 3 then (commitN s f (ofZ who), answers (ofZ who) who f.id (commitN s f (ofZ who)), 0) else (s, [], 3)
noncomputable def takeN (s : GNode) (who : Int) (f : GFrame) : GNode × List GFrame × Int :=
  bif goodN s && (decide (0 ≤ who ∧ who < 6) && f.node == who) then bif frameZ f == 0 then takeK s who f else (s, [], frameZ f) else (s, [], 2)
theorem rise_castL {l : List Nat} (h : l.Pairwise (· < ·)) (h32 : ∀ m ∈ l, m < 32) : risingZ (castL l) = true := by
  unfold risingZ
  rw [allTo_iff]
  intro i hi
  rw [castL_len] at hi
  have g : ∀ j, j < l.length → (castL l).getD j 0 = ((l[j]?.getD 0 : Nat) : Int) := fun j hj => by
    simp [castL, hj]
  unfold riseAt
  rw [g i hi, List.getElem?_eq_getElem hi, Option.getD_some]
  have h1 := h32 _ (List.getElem_mem hi)
  rw [dec_t (by omega), dec_t (by omega), Bool.true_and, Bool.true_and]
  by_cases h0 : i = 0
  · simp [h0]
  · rw [g (i - 1) (by omega), List.getElem?_eq_getElem (show i - 1 < l.length by omega), Option.getD_some]
    have := List.pairwise_iff_getElem.1 h (i - 1) i (by omega) hi (by omega)
    rw [dec_t (by omega), Bool.or_true]
theorem aheadL_mem {s : GNode} {id : Int} {ops : List GOp} {sh : Int} {m : Nat} : m ∈ aheadL s id ops sh ↔ m < 32 ∧ inWay s id ops sh m = true := by
  unfold aheadL; simp
theorem ahead_ok {s : GNode} {n : Nat} {ops : List GOp} {sh : Int} : risingZ (aheadZ s n ops sh) = true ∧ hasZ (aheadZ s n ops sh) n = false := by
  refine ⟨rise_castL ?_ fun m hm => (aheadL_mem.1 hm).1, ?_⟩
  · exact List.Pairwise.filter _ List.pairwise_lt_range
  · rw [aheadZ, hasZ_castL]
    apply dec_f
    intro h
    have := (aheadL_mem.1 h).2
    unfold inWay at this
    simp at this
theorem frame_parts {f : GFrame} (h : frameZ f = 0) : opsPart f = true ∧ depsPart f = true ∧ atPart f = true := by
  unfold frameZ at h
  split at h
  · cases h
  · split at h
    · cases h
    · split at h
      · rename_i h3
        simpa [Bool.and_eq_true] using h3
      · cases h
theorem ask_ops {f : GFrame} (h : frameZ f = 0) (hk : f.kind = 1 ∨ f.kind = 3) : goodOpsZ f.ops = true := by
  have := (frame_parts h).1
  unfold opsPart at this
  rwa [if_pos hk] at this
theorem comm_deps {f : GFrame} (h : frameZ f = 0) (hk : f.kind = 3) : risingZ f.deps = true ∧ hasZ f.deps f.id = false := by
  have := (frame_parts h).2.1
  unfold depsPart at this
  rw [if_pos (.inr hk)] at this
  simpa [Bool.and_eq_true] using this
theorem GoodN.asked {s : GNode} (h : GoodN s) {f : GFrame} (hf : frameZ f = 0) (hk : f.kind = 1) (sh : Int) : GoodN (askN s f sh) := by
  obtain ⟨_, _, hid⟩ := frameZ_in hf
  obtain ⟨n, hn⟩ : ∃ n : Nat, f.id = n := ⟨f.id.toNat, by omega⟩
  unfold askN
  rw [hn, Int.toNat_natCast]
  cases h0 : ((eat s.entries n).state == 0)
  · exact h
  · have h0 : (eat s.entries n).state = 0 := by simpa using h0
    refine h.set (n := n) (by omega) rfl rfl (by omega) ⟨by show (1 : Int) ≤ 1; omega, by show (1 : Int) ≤ 2; omega⟩ ?_
    have ha : risingZ (aheadZ s f.id f.ops sh) = true ∧ hasZ (aheadZ s f.id f.ops sh) n = false := by rw [hn]; exact ahead_ok
    exact ⟨ask_ops hf (.inl hk), ha.1, rfl, ha.2, rfl, fun _ => rfl, fun _ => rfl, rfl, rfl⟩
theorem GoodN.comm {s : GNode} (h : GoodN s) {f : GFrame} (hf : frameZ f = 0) (hk : f.kind = 3) (h2 : (eat s.entries f.id.toNat).state < 2) (sh : Int) : GoodN (commN s f sh) := by
  obtain ⟨_, _, hid⟩ := frameZ_in hf
  obtain ⟨n, hn⟩ : ∃ n : Nat, f.id = n := ⟨f.id.toNat, by omega⟩
  have hn32 : n < 32 := by omega
  have hto : f.id.toNat = n := by rw [hn]; rfl
  rw [hto] at h2
  have hfi : risingZ (firstE s f sh) = true ∧ hasZ (firstE s f sh) n = false := by
    unfold firstE
    rw [hto]
    cases h0 : ((eat s.entries n).state == 0)
    · have hb := h.body hn32 (by simpa using h0)
      exact ⟨hb.first, hb.nfirst⟩
    · rw [cond_true, hn]
      exact ahead_ok
  have hat : (eat s.entries n).at_ = [] ∧ (eat s.entries n).values = [] := by
    by_cases h0 : (eat s.entries n).state = 0
    · exact ⟨(h.empty hn32 h0).2.2.2.1, (h.empty hn32 h0).2.2.2.2⟩
    · have hb := h.body hn32 h0
      have h1 := hb.undone (by omega)
      have h2 := hb.same
      rw [h1] at h2
      exact ⟨h1, List.length_eq_zero_iff.1 h2.symm⟩
  have hd := comm_deps hf hk
  rw [hn] at hd
  refine h.set (n := n) hn32 (e := commE s f sh) (by rw [← hto]; rfl) rfl (by omega) ⟨by show (1 : Int) ≤ 2; omega, by show (2 : Int) ≤ 2; omega⟩ ?_
  have e1 : (commE s f sh).at_ = [] := by rw [← hat.1, ← hto]; rfl
  have e2 : (commE s f sh).values = [] := by rw [← hat.2, ← hto]; rfl
  refine ⟨ask_ops hf (.inr hk), hfi.1, hd.1, hfi.2, hd.2, fun h => ?_, fun _ => e1, by rw [e1, e2], by rw [e1]; rfl⟩
  have h : (2 : Int) = 1 := h
  omega
theorem GoodN.commit {s : GNode} (h : GoodN s) {f : GFrame} (hf : frameZ f = 0) (hk : f.kind = 3) (sh : Int) : GoodN (commitN s f sh) := by
  unfold commitN
  by_cases h2 : (eat s.entries f.id.toNat).state < 2
  · rw [bif_t (dec_t h2)]; exact (h.comm hf hk h2 sh).exec sh
  · rw [bif_f (dec_f h2)]; exact h
end Go.Proofs.Ytopgdemmdcipcaa
namespace Go.Proofs.Ytopgdemmdcipcaa
open Go.RowKit
open Rep (rep)
theorem idxEi {v : Vector GEntry 32} {j : Int} (h0 : 0 ≤ j) (h1 : j < 32) : idxV v j = some (eat v j.toNat) := by
  obtain ⟨n, rfl⟩ : ∃ n : Nat, j = n := ⟨j.toNat, by omega⟩
  rw [idxE (by omega), Int.toNat_natCast]
theorem nodeIsD_eq {fu : Nat} {x : Int} : nodeIsD fu x = some (decide (0 ≤ x ∧ x < 6)) := by
  unfold nodeIsD nodeIs_j1
  by_cases h : x ≥ 0
  · rw [bif_t (dec_t h)]
    congr 1
    apply decide_eq_decide.2
    omega
  · rw [bif_f (dec_f h), dec_f (by omega)]
theorem nodeTake_j4_eq {who sh : Int} {f : GFrame} {d : GNode} (hf : 0 ≤ f.id ∧ f.id < 32) : nodeTake_j4 who f sh d = some (d, answers sh who f.id d, 0) := by
  unfold nodeTake_j4 nodeTake_j6 nodeTake_j5 answers
  have hb : Rep.bytes GFrame = 120 := rfl
  rw [some_bind, inR_ok hf.1 hf.2, some_bind, idxEi hf.1 hf.2, some_bind, some_bind]
  cases ((eat d.entries f.id.toNat).state == 3)
  · rfl
  · simp only [cond_true, some_bind, Bool.true_and]
    cases touchesZ (eat d.entries f.id.toNat).ops sh
    · rfl
    · rw [cond_true, app_ok (by rw [hb]; simp)]
      rfl
theorem nodeTake_j7_eq {fu : Nat} {s d : GNode} {who sh : Int} {f : GFrame} (hf : 0 ≤ f.id ∧ f.id < 32) (hfu : 120 ≤ fu) (hg : GoodN (commN s f sh))
    (hd : d.entries = s.entries.setIfInBounds f.id.toNat { eat s.entries f.id.toNat with first := firstE s f sh }) (ho : d.order = s.order) (hv : d.values = s.values) :
    nodeTake_j7 fu who f sh d = some (execZ (commN s f sh) sh, answers sh who f.id (execZ (commN s f sh) sh), 0) := by
  have hn : f.id.toNat < 32 := by omega
  obtain ⟨n, hnn⟩ : ∃ n : Nat, f.id = n := ⟨f.id.toNat, by omega⟩
  unfold nodeTake_j7
  have e1 : ∀ (x : Vector GEntry 32), ({ d with entries := x } : GNode).entries = x := fun _ => rfl
  rw [idxEi hf.1 hf.2, some_bind, setV_in hf.1 hf.2, some_bind, some_bind]
  rw [e1, idxEi hf.1 hf.2, some_bind, eat_setI hn, if_pos rfl, setV_in hf.1 hf.2, some_bind, some_bind]
  simp only [Vector.setIfInBounds_setIfInBounds]
  rw [idxEi hf.1 hf.2, some_bind, eat_setI hn, if_pos rfl, setV_in hf.1 hf.2, some_bind, some_bind]
  simp only [Vector.setIfInBounds_setIfInBounds]
  have hc : ({ entries := d.entries.setIfInBounds f.id.toNat { state := 2, ops := f.ops, first := (eat d.entries f.id.toNat).first, deps := f.deps, at_ := (eat d.entries f.id.toNat).at_, values := (eat d.entries f.id.toNat).values }, order := d.order, values := d.values } : GNode) = commN s f sh := by
    unfold commN commE
    rw [hd, ho, hv, eat_setI hn, if_pos rfl]
    simp only [Vector.setIfInBounds_setIfInBounds]
  rw [hc, nodeExecD_eq hg hfu, some_bind, some_bind, nodeTake_j4_eq hf]
theorem setI_same {v : Vector GEntry 32} {k : Nat} (hk : k < 32) : v.setIfInBounds k (eat v k) = v := by
  refine eat_ext fun j hj => ?_
  rw [eat_setI hk]
  by_cases e : k = j
  · rw [if_pos e, e]
  · rw [if_neg e]
theorem nodeTake_j1_eq {fu : Nat} {s : GNode} {who : Int} {f : GFrame} {d : GNode} (hg : GoodN s) (hz : frameZ f = 0) (hfu : 120 ≤ fu) : nodeTake_j1 fu s who f d = some (takeK s who f) := by
  obtain ⟨_, _, hf⟩ := frameZ_in hz
  have hn : f.id.toNat < 32 := by omega
  unfold nodeTake_j1 takeK
  rw [hz, some_bind, bif_f (by rfl), some_bind, inR_ok hf.1 hf.2, some_bind]
  cases h1 : (f.kind == 1)
  · rw [cond_false, cond_false]
    cases h3 : (f.kind == 3)
    · rfl
    · rw [cond_true, cond_true, idxEi hf.1 hf.2, some_bind, some_bind]
      unfold commitN
      have hk : f.kind = 3 := by simpa using h3
      by_cases h2 : (eat s.entries f.id.toNat).state < 2
      · have hc := hg.comm hz hk h2 (ofZ who)
        rw [bif_t (dec_t h2), bif_t (dec_t h2)]
        cases h0 : ((eat s.entries f.id.toNat).state == 0)
        · rw [cond_false]
          refine nodeTake_j7_eq hf hfu hc ?_ rfl rfl
          unfold firstE
          rw [h0, cond_false]
          exact (setI_same hn).symm
        · rw [cond_true, nodeAheadD_eq (by omega), some_bind, some_bind, setV_in hf.1 hf.2, some_bind, some_bind]
          refine nodeTake_j7_eq hf hfu hc ?_ rfl rfl
          unfold firstE
          rw [h0, cond_true]
      · rw [bif_f (dec_f h2), bif_f (dec_f h2), nodeTake_j4_eq hf]
  · rw [cond_true, cond_true, some_bind]
    cases touchesZ f.ops (ofZ who)
    · rfl
    · rw [bif_f (c := !true) rfl, cond_true, idxEi hf.1 hf.2, some_bind]
      unfold askN
      cases h0 : ((eat s.entries f.id.toNat).state == 0)
      · rw [cond_false, cond_false, nodeTake_j2, idxEi hf.1 hf.2]
        rfl
      · rw [cond_true, nodeAheadD_eq (by omega), some_bind, some_bind, some_bind, setV_in hf.1 hf.2, some_bind, some_bind, nodeTake_j2, idxEi hf.1 hf.2]
        rfl
theorem nodeTakeD_eq {fu N : Nat} {s : GNode} {who : Int} {f : GFrame} (hs : NSz s N) (h1 : N + 40 ≤ fu) (hfu : 120 ≤ fu) : nodeTakeD fu s who f = some (takeN s who f) := by
  unfold nodeTakeD takeN
  rw [nodeGoodD_eq hs h1, some_bind]
  cases hg : goodN s
  · rfl
  · have hg := goodN_iff.1 hg
    rw [bif_f (c := !true) rfl, nodeIsD_eq, some_bind, Bool.true_and]
    cases decide (0 ≤ who ∧ who < 6)
    · rfl
    · rw [bif_f (c := !true) rfl, Bool.true_and]
      unfold nodeTake_j8
      have hne : (f.node != who) = !(f.node == who) := rfl
      rw [hne]
      cases (f.node == who)
      · rfl
      · rw [Bool.not_true, cond_false, cond_true]
        cases hz : (frameZ f == 0)
        · unfold nodeTake_j1
          have : (frameZ f != 0) = true := by rw [bne, hz]; rfl
          rw [some_bind, this]
          rfl
        · exact nodeTake_j1_eq hg (by simpa using hz) hfu
theorem atUp_len {m : Int} : ∀ {l : List Int} {b : Int}, atUp m b l = true → l = [] ∨ b + l.length < m
  | [], _, _ => .inl rfl
  | x :: t, b, h => by
    unfold atUp at h
    simp only [Bool.and_eq_true, decide_eq_true_eq] at h
    refine .inr ?_
    rcases atUp_len h.2 with e | e
    · subst e; simp; omega
    · simp only [List.length_cons]; omega
theorem GoodN.sizes {s : GNode} (h : GoodN s) : NSz s 33 := by
  refine ⟨by have := h.len; omega, fun k => ?_⟩
  by_cases hk : k < 32
  · by_cases h0 : (eat s.entries k).state = 0
    · obtain ⟨e1, e2, e3, e4, e5⟩ := h.empty hk h0
      refine ⟨?_, ?_, ?_, ?_, ?_⟩
      · rw [e1]; simp
      · rw [e2]; simp
      · rw [e3]; simp
      · rw [e4]; simp
      · rw [e5]; simp
    · have hb := h.body hk h0
      have h1 := goodOps_len hb.ops
      have h2 := rising_len hb.first
      have h3 := rising_len hb.deps
      have h4 : (eat s.entries k).at_.length ≤ 4 := by
        rcases atUp_len hb.up with e | e
        · rw [e]; simp
        · omega
      have h5 := hb.same
      exact ⟨by omega, by omega, by omega, by omega, by omega⟩
  · rw [eat_out hk]
    have e : (Zr.zd : GEntry) = { state := 0, ops := [], first := [], deps := [], at_ := [], values := [] } := rfl
    rw [e]
    exact ⟨by simp, by simp, by simp, by simp, by simp⟩
theorem NSz.mono {s : GNode} {N M : Nat} (h : NSz s N) (hNM : N ≤ M) : NSz s M :=
  ⟨⟨by have := h.order.1; omega, h.order.2⟩, fun k => by
    have e := h.ent k
    exact ⟨⟨by have := e.ops.1; omega, e.ops.2⟩, ⟨by have := e.first.1; omega, e.first.2⟩, ⟨by have := e.deps.1; omega, e.deps.2⟩, ⟨by have := e.at_.1; omega, e.at_.2⟩, ⟨by have := e.values.1; omega, e.values.2⟩⟩⟩
theorem nodup_single {l : List Nat} {a : Nat} (h : l.Nodup) (hm : ∀ m, m ∈ l ↔ m = a) : l = [a] := by
  cases l with
  | nil => have := (hm a).2 rfl; cases this
  | cons x t =>
    have hx := (hm x).1 List.mem_cons_self
    subst hx
    cases t with
    | nil => rfl
    | cons y u =>
      have hy := (hm y).1 (List.mem_cons_of_mem _ List.mem_cons_self)
      rw [List.nodup_cons] at h
      exact absurd (by rw [hy]; exact List.mem_cons_self) h.1
theorem path_alone {g : GGraph} {n : Nat} (h : depsAt g n = []) {k : Nat} (hp : Path (Edge g) n k) : k = n := by
  induction hp with
  | refl => rfl
  | tail _ e ih =>
    subst ih
    have := e.2.2.1
    rw [h] at this
    cases this
theorem ordL_alone {g : GGraph} {n : Nat} (hn : n < 32) (hk : bat g.known n = true) (h : depsAt g n = []) : ordL g n = [n] := by
  unfold ordL
  rw [if_pos]
  · refine nodup_single (orderS_ok (pathB_pre g) hn).nodup fun m => ?_
    rw [orderS_mem (pathB_pre g) hn, pathB_iff]
    exact ⟨path_alone h, fun e => by rw [e]; exact .refl n⟩
  · rw [readyZ_iff]
    refine ⟨by omega, fun j _ hj hb => ?_⟩
    unfold reachZ at hb
    rw [if_pos (by omega), Int.toNat_natCast, bat_reachV hj] at hb
    rw [path_alone h hb]
    exact hk
theorem turns_none {g : GGraph} {sh : Int} {s : GNode} : ∀ (l : List Nat), (∀ k ∈ l, (eat s.entries k).state ≠ 2) → l.foldl (turnZ g sh) s = s
  | [], _ => rfl
  | k :: t, h => by
    have hk := h k List.mem_cons_self
    rw [List.foldl_cons, turnZ, bif_f (by simpa using hk)]
    exact turns_none t fun x hx => h x (List.mem_cons_of_mem _ hx)
theorem execZ_alone {s : GNode} {n : Nat} (hn : n < 32) (h2 : (eat s.entries n).state = 2) (hno : ∀ k, k < 32 → k ≠ n → (eat s.entries k).state ≠ 2) (hd : (eat s.entries n).deps = []) (sh : Int) : execZ s sh = oneZ s n sh := by
  have hg : ordL (graphZ s) n = [n] := ordL_alone hn (by rw [bat_graphZ hn, h2]; rfl) (by rw [depsAt_graphZ hn, hd])
  have hr : List.range 32 = List.range' 0 n ++ n :: List.range' (n + 1) (31 - n) := by
    rw [List.range_eq_range', ← List.range'_succ, show 31 - n + 1 = 32 - n from by omega]
    have := List.range'_append (s := 0) (m := n) (n := 32 - n) (step := 1)
    rw [show n + (32 - n) = 32 from by omega, show 0 + 1 * n = n from by omega] at this
    exact this.symm
  unfold execZ
  rw [hr, List.foldl_append, turns_none (List.range' 0 n) (fun k hk => by
    have := List.mem_range'_1.1 hk
    exact hno k (by omega) (by omega)), List.foldl_cons]
  have ht : turnZ (graphZ s) sh s n = oneZ s n sh := by
    unfold turnZ runZ
    rw [bif_t (by simp [h2]), hg]
    show stepZ sh s n = _
    unfold stepZ
    rw [bif_t (by simp [h2])]
  rw [ht]
  refine turns_none _ fun k hk => ?_
  have := List.mem_range'_1.1 hk
  show (eat (s.entries.setIfInBounds n _) k).state ≠ 2
  rw [eat_setI hn, if_neg (by omega)]
  exact hno k (by omega) (by omega)
def zeroN : GNode := { entries := Zr.zd, order := Zr.zd, values := Zr.zd }
theorem eat_zero (k : Nat) : eat (Zr.zd : Vector GEntry 32) k = Zr.zd := by
  show eat (Vector.replicate 32 Zr.zd) k = Zr.zd
  unfold eat
  by_cases hk : k < 32 <;> simp [hk]
theorem zero_good : GoodN zeroN := by
  refine ⟨List.nodup_nil, (by intro m hm; cases hm), fun k hk => ?_⟩
  show entryOk k (eat (Zr.zd : Vector GEntry 32) k) (decide ((k : Int) ∈ ([] : List Int))) = true
  rw [eat_zero]
  rfl
def f9 : GFrame := { kind := 3, node := 3, id := 4, ops := [{ kind := 2, key := 1, n := 9 }], deps := [], at_ := [], vals := [] }
theorem takeN_f9 : takeN zeroN 3 f9 = (oneZ (commN zeroN f9 1) 4 1, answers 1 3 4 (oneZ (commN zeroN f9 1) 4 1), 0) := by
  have hz : frameZ f9 = 0 := by decide +kernel
  have he : execZ (commN zeroN f9 1) 1 = oneZ (commN zeroN f9 1) 4 1 := by
    have h4 : eat (commN zeroN f9 1).entries 4 = commE zeroN f9 1 := by
      show eat ((Zr.zd : Vector GEntry 32).setIfInBounds 4 _) 4 = _
      rw [eat_setI (by omega), if_pos rfl]
    refine execZ_alone (by omega) (by rw [h4]; rfl) (fun k hk hk4 => ?_) (by rw [h4]; rfl) 1
    show (eat ((Zr.zd : Vector GEntry 32).setIfInBounds 4 _) k).state ≠ 2
    rw [eat_setI (by omega), if_neg (by omega), eat_zero]
    show (0 : Int) ≠ 2
    decide
  unfold takeN
  rw [goodN_iff.2 zero_good, hz]
  show takeK zeroN 3 f9 = _
  have ho : ofZ 3 = 1 := by decide
  have hs : (eat zeroN.entries f9.id.toNat).state = 0 := by
    show (eat (Zr.zd : Vector GEntry 32) 4).state = 0
    rw [eat_zero]
    rfl
  have k1 : (f9.kind == 1) = false := rfl
  have k3 : (f9.kind == 3) = true := rfl
  have k4 : f9.id = 4 := rfl
  unfold takeK commitN
  rw [ho, hs, k1, cond_false, k3, cond_true, dec_t (by decide), cond_true, he, k4]
end Go.Proofs.Ytopgdemmdcipcaa
namespace Go.Proofs.Ytopgdemmdcipcaa
open Go.RowKit
open Rep (rep)
theorem ESz.mono {e : GEntry} {N M : Nat} (h : ESz e N) (hNM : N ≤ M) : ESz e M :=
  ⟨⟨by have := h.ops.1; omega, h.ops.2⟩, ⟨by have := h.first.1; omega, h.first.2⟩, ⟨by have := h.deps.1; omega, h.deps.2⟩, ⟨by have := h.at_.1; omega, h.at_.2⟩, ⟨by have := h.values.1; omega, h.values.2⟩⟩
end Go.Proofs.Ytopgdemmdcipcaa
namespace Go.Proofs.Ytopgdemmdcipcaa
open Go.RowKit
open Rep (rep)
set_option linter.unusedVariables false
def keepPick_j1 (y7 : Int) : Option Int :=
 some y7
def keepPickD (fu : Nat) (x1 : Int) (x2 : Int) : Option Int :=
 (nonz x2).bind fun _ =>
 (bif decide ((Int.tmod x1 x2) < 0) then
 keepPick_j1 (IntKind.wrap .i64 ((Int.tmod x1 x2) + x2))
 else
 keepPick_j1 (Int.tmod x1 x2))
set_option maxRecDepth 100000 in
set_option maxHeartbeats 4000000 in
theorem keepPick_ok {M : Mm} {w : World} {x1 : Int} {x2 : Int} {fu : Nat} {r : Int} (hA : Agree M w)  (hz : keepPickD fu x1 x2 = some r) :
    Calls Try.prog 30 #[.int .i64 x1, .int .i64 x2] w (GivesV w (.int .i64 r)) := by
 refine calls_W Try.func30 rfl 14 rfl rfl (by kernel_rfl) fun T hT => ?_
 have hT_0 : T 0 = .int .i64 x1 := hT 0
 have hT_1 : T 1 = .int .i64 x2 := hT 1
 clear hT
 have hE := Mm.ext.refl w.heap.size noX M
 have hS : St w noX M [] w := St.start hA
 rw [keepPickD] at hz
 refine W_seq <|W_reg <|WL_y (Y_assign (.int .i64 0) rfl) ?_
 refine WL_nil (nm_then ?_)
 refine W_seq <|W_reg <|WL_y (Y_move (.int .i64 x1) hT_0) <|WL_y (Y_move (.int .i64 x2) hT_1) ?_
 obtain ⟨_, hx3, hz⟩ := bind_ok hz
 have hx3 := nonz_some hx3
 refine WL_y (Y_rem rfl rfl hx3) <|WL_y (Y_assign (.int .i64 (Int.tmod x1 x2)) rfl) ?_
 refine WL_nil (nm_then ?_)
 refine W_seqJ (fun T' w' => ∃ M5 y7, Mm.ext w.heap.size noX M M5 ∧ St w noX M5 [] w' ∧ T' 0 = .int .i64 y7 ∧ keepPick_j1 y7 = some r) ?_ ?_
 have hF9 := Mm.ext.refl w.heap.size noX M
 refine W_seq <|W_reg <|WL_y (Y_move (.int .i64 (Int.tmod x1 x2)) rfl) <|WL_y (Y_lss rfl rfl) ?_
 refine WL_nil (nm_then ?_)
 refine W_cond rfl (fun hc10 => ?_) (fun hc10 => ?_)
 replace hz := bif_ok_t hz hc10
 refine W_reg <|WL_y (Y_move (.int .i64 (Int.tmod x1 x2)) rfl) <|WL_y (Y_move (.int .i64 x2) hT_1) <|WL_y (Y_add rfl rfl) <|WL_y (Y_assign (.int .i64 (IntKind.wrap .i64 ((Int.tmod x1 x2) + x2))) rfl) ?_
 refine WL_nil (nm_then ?_)
 exact ⟨M, (IntKind.wrap .i64 ((Int.tmod x1 x2) + x2)), hF9, hS, rfl, hz⟩
 replace hz := bif_ok_f hz hc10
 refine W_skip (nm_then ?_)
 exact ⟨M, (Int.tmod x1 x2), hF9, hS, rfl, hz⟩
 rintro T6 w4 ⟨M5, y7, hx8, hS, hT6_0, hz⟩
 replace hE := Mm.ext.trans hE hx8
 rw [keepPick_j1] at hz
 refine W_seq <|W_reg <|WL_y (Y_move (.int .i64 y7) hT6_0) <|WL_y (Y_assign (.int .i64 y7) rfl) ?_
 refine WL_nil (nm_then ?_)
 cases hz
 exact W_ret (R_t1 rfl rfl ⟨rfl, hS.kept⟩)
end Go.Proofs.Ytopgdemmdcipcaa
namespace Go.Proofs.Ytopgdemmdcipcaa
open Go.RowKit
open Rep (rep)
set_option linter.unusedVariables false
theorem pick_range {x n : Int} (hn : 0 < n) (hn2 : n ≤ 1000) {fu : Nat} : ∃ k : Nat, keepPickD fu x n = some (k : Int) ∧ (k : Int) < n := by
  have hnz : nonz n = some () := if_pos (by omega)
  unfold keepPickD keepPick_j1
  rw [hnz, some_bind]
  have h1 := Int.tmod_lt_of_pos x hn
  have h2 : -n < Int.tmod x n := by
    have := Int.lt_tmod_of_pos x hn
    exact this
  by_cases h : Int.tmod x n < 0
  · refine ⟨(Int.tmod x n + n).toNat, ?_, by omega⟩
    rw [bif_t (dec_t h), wr64 (by omega) (by omega), Int.toNat_of_nonneg (by omega)]
  · refine ⟨(Int.tmod x n).toNat, ?_, by omega⟩
    rw [bif_f (dec_f h), Int.toNat_of_nonneg (by omega)]
end Go.Proofs.Ytopgdemmdcipcaa
namespace Go.Proofs.Ytopgdemmdcipcaa
open Go.RowKit
open Rep (rep)
set_option linter.unusedVariables false
def keepTakes_j1 (c20 : Bool) : Option Bool :=
 some c20
def keepTakesD (fu : Nat) : Option Bool :=
 (some ({ entries := Zr.zd, order := Zr.zd, values := Zr.zd } : GNode)).bind fun d2 =>
 (some ({ kind := 2, key := 1, n := 9 } : GOp)).bind fun d4 =>
 (some ({ kind := 3, node := 3, id := 4, ops := ([d4] : List GOp), deps := Zr.zd, at_ := Zr.zd, vals := Zr.zd } : GFrame)).bind fun d8 =>
 (nodeTakeD fu d2 3 d8).bind fun r11 =>
 (some r11.1).bind fun d16 =>
 (bif r11.2.2 == 0 then
 (bif (r11.2.1.length : Int) == 2 then
 (idxV d16.values 1).bind fun x26 =>
 (bif x26 == 9 then
 keepTakes_j1 ((d16.order.length : Int) == 1)
 else
 keepTakes_j1 false)
 else
 keepTakes_j1 false)
 else
 keepTakes_j1 false)
set_option maxRecDepth 100000 in
set_option maxHeartbeats 4000000 in
theorem keepTakes_ok {M : Mm} {w : World} {fu : Nat} {r : Bool} (hA : Agree M w)  (hz : keepTakesD fu = some r) :
    Calls Try.prog 25 #[] w (GivesV w (.bool r)) := by
 refine calls_W Try.func25 rfl 32 rfl rfl (by kernel_rfl) fun T hT => ?_
 clear hT
 have hE := Mm.ext.refl w.heap.size noX M
 have hS : St w noX M [] w := St.start hA
 rw [keepTakesD] at hz
 refine W_seq <|W_reg <|WL_y (Y_assign (.bool false) rfl) ?_
 refine WL_nil (nm_then ?_)
 refine W_seq <|W_reg ?_
 obtain ⟨d2, hd1, hz⟩ := bind_ok hz
 obtain ⟨cs1, hf1, ha1⟩ : ∃ cs, fillZ (([(0, 192), (192, 1), (193, 8)] : List (Nat × Nat))[·]?) (Zr.zc GNode) [] = some cs ∧ rep M cs d2 := ⟨_, fz_nil, rep_eq (x := ({ entries := Zr.zd, order := Zr.zd, values := Zr.zd } : GNode)) (Zr.zr : rep M (Zr.zc GNode) (Zr.zd : GNode)) hd1⟩
 refine WL_y (Y_build [] tb48 bp0 hf1) ?_
 have k3_0 := GOp.w0 (Zr.zr : rep M (Zr.zc GOp) (Zr.zd : GOp)) (show rep M [Value.int .i64 2] (2 : Int) from rfl)
 have k3_1 := GOp.w1 k3_0 (show rep M [Value.int .i64 1] (1 : Int) from rfl)
 have k3_2 := GOp.w2 k3_1 (show rep M [Value.int .i64 9] (9 : Int) from rfl)
 obtain ⟨d4, hd3, hz⟩ := bind_ok hz
 obtain ⟨cs3, hf3, ha3⟩ : ∃ cs, fillZ (([(0, 1), (1, 1), (2, 1)] : List (Nat × Nat))[·]?) (Zr.zc GOp) [(0, .int .i64 2), (1, .int .i64 1), (2, .int .i64 9)] = some cs ∧ rep M cs d4 := ⟨_, (fz_cons (Zr.zr : rep M (Zr.zc GOp) (Zr.zd : GOp)) rfl rfl (Rep.len (show rep M [Value.int .i64 2] (2 : Int) from rfl)) (by decide) (fz_cons k3_0 rfl rfl (Rep.len (show rep M [Value.int .i64 1] (1 : Int) from rfl)) (by decide) (fz_cons k3_1 rfl rfl (Rep.len (show rep M [Value.int .i64 9] (9 : Int) from rfl)) (by decide) fz_nil))), rep_eq (x := ({ kind := 2, key := 1, n := 9 } : GOp)) k3_2 hd3⟩
 refine WL_y (Y_build [(0, .int .i64 2), (1, .int .i64 1), (2, .int .i64 9)] tb78 (bpc rfl (bpc rfl (bpc rfl bp0))) hf3) ?_
 refine WL_c (O_bslice (α := GOp) (l := ([d4] : List GOp)) [.agg cs3.toArray] tl22 (bpc rfl bp0) rfl rfl (by decide) (by decide) (by decide) hS (brc ha3 br0) ?_)
 intro v6 M6 w5 hx6 hv6 hS
 replace ha1 := Rep.mono hx6.1 ha1
 replace ha3 := Rep.mono hx6.1 ha3
 replace hE := Mm.ext.trans hE hx6
 have k7_0 := GFrame.w0 (Zr.zr : rep M6 (Zr.zc GFrame) (Zr.zd : GFrame)) (show rep M6 [Value.int .i64 3] (3 : Int) from rfl)
 have k7_1 := GFrame.w1 k7_0 (show rep M6 [Value.int .i64 3] (3 : Int) from rfl)
 have k7_2 := GFrame.w2 k7_1 (show rep M6 [Value.int .i64 4] (4 : Int) from rfl)
 have k7_3 := GFrame.w3 k7_2 (repL_rep hv6)
 obtain ⟨d8, hd7, hz⟩ := bind_ok hz
 obtain ⟨cs7, hf7, ha7⟩ : ∃ cs, fillZ (([(0, 1), (1, 1), (2, 1), (3, 1), (4, 1), (5, 1), (6, 1)] : List (Nat × Nat))[·]?) (Zr.zc GFrame) [(0, .int .i64 3), (1, .int .i64 3), (2, .int .i64 4), (3, v6)] = some cs ∧ rep M6 cs d8 := ⟨_, (fz_cons (Zr.zr : rep M6 (Zr.zc GFrame) (Zr.zd : GFrame)) rfl rfl (Rep.len (show rep M6 [Value.int .i64 3] (3 : Int) from rfl)) (by decide) (fz_cons k7_0 rfl rfl (Rep.len (show rep M6 [Value.int .i64 3] (3 : Int) from rfl)) (by decide) (fz_cons k7_1 rfl rfl (Rep.len (show rep M6 [Value.int .i64 4] (4 : Int) from rfl)) (by decide) (fz_cons k7_2 rfl (repL_cells hv6) (Rep.len (repL_rep hv6)) (by decide) fz_nil)))), rep_eq (x := ({ kind := 3, node := 3, id := 4, ops := ([d4] : List GOp), deps := Zr.zd, at_ := Zr.zd, vals := Zr.zd } : GFrame)) k7_3 hd7⟩
 refine WL_y (Y_build [(0, .int .i64 3), (1, .int .i64 3), (2, .int .i64 4), (3, v6)] tb38 (bpc rfl (bpc rfl (bpc rfl (bpc rfl bp0)))) hf7) ?_
 obtain ⟨r11, hr10, hz⟩ := bind_ok hz
 refine WL_c (O_mem (vs := [.agg cs1.toArray, .int .i64 3, .agg cs7.toArray]) (rv := (fun M' u => ∃ c0 v1, u = .tuple #[.agg c0.toArray, v1, .int .i64 r11.2.2] ∧ rep M' c0 r11.1 ∧ repL M' v1 r11.2.1)) cb17 (args3 rfl rfl rfl) hS (nodeTake_ok hS.agree ha1 ha7 hr10) ?_)
 intro u10 M10 w9 hx10 hu10 hS
 obtain ⟨c10_0, v10_1, hq10, f10_0, f10_1⟩ := hu10
 subst hq10
 replace ha1 := Rep.mono hx10.1 ha1
 replace ha3 := Rep.mono hx10.1 ha3
 replace hv6 := repL.mono hx10.1 hv6
 replace ha7 := Rep.mono hx10.1 ha7
 replace hE := Mm.ext.trans hE hx10
 refine WL_y (Y_move (.tuple #[.agg c10_0.toArray, v10_1, .int .i64 r11.2.2]) rfl) <|WL_y (Y_extract (v := .agg c10_0.toArray) rfl rfl) <|WL_y (Y_extract (v := v10_1) rfl rfl) <|WL_y (Y_extract (v := .int .i64 r11.2.2) rfl rfl) ?_
 refine WL_c (O_alloc tz48 hS ?_)
 intro b13 w12 hb13 hS
 replace hS : St w noX M10 [.box b13 (Zr.zc GNode) 48] w12 := hS
 have zb13 : rep M10 (Zr.zc GNode) (Zr.zd : GNode) := Zr.zr
 have hw15 : (c10_0 : List Value).length = 201 := Rep.len f10_0
 have hl15 : ((Zr.zc GNode)).length = 201 := Rep.len zb13
 obtain ⟨d16, hd15, hz⟩ := bind_ok hz
 have hb15 : rep M10 (pt (Zr.zc GNode) (0) c10_0) d16 := rep_eq (rep_whole (k := 201) (by rw [pt_length (by omega)]; exact hl15) (rep_leaf rfl f10_0 (by omega))) hd15
 generalize hg15 : (pt (Zr.zc GNode) (0) c10_0) = cs15 at hb15
 refine WL_c (O_st (j := 0) (v := .agg c10_0.toArray) (ws := c10_0) hS rfl (by kernel_rfl) rfl rfl rfl hw15 (Rep.one f10_0) (by omega) ?_)
 rw [hg15]
 clear hg15
 intro w14 hS
 replace hS : St w noX M10 [.box b13 cs15 48] w14 := hS
 refine WL_d 2 rfl ?_
 refine WL_nil (nm_then ?_)
 refine W_seqJ (fun T' w' => ∃ M18 c20, Mm.ext w.heap.size noX M10 M18 ∧ St w noX M18 [.box b13 cs15 48] w' ∧ T' 0 = .bool c20 ∧ keepTakes_j1 c20 = some r) ?_ ?_
 have hF22 := Mm.ext.refl w.heap.size noX M10
 refine W_reg <|WL_y (Y_move (.int .i64 r11.2.2) rfl) <|WL_y (Y_eql rfl rfl) <|WL_y (Y_move (.bool (r11.2.2 == 0)) rfl) ?_
 rcases ic hz with ⟨hc23, hz⟩ | ⟨hc23, hz⟩ <;> rw [hc23]
 refine WL_gy rfl rfl (Y_move (v10_1) rfl) ?_
 obtain ⟨a24, c24, hv24, _⟩ := repL_shape f10_1
 refine WL_gy rfl rfl (Y_lenL Try.underlying25 (tr2 hv24 rfl)) <|WL_gy rfl rfl (Y_eql rfl rfl) <|WL_d 2 rfl ?_
 rcases ic hz with ⟨hc25, hz⟩ | ⟨hc25, hz⟩ <;> rw [hc25]
 refine WL_gy rfl rfl (Y_fa fa48_2 rfl) <|WL_gy rfl rfl (Y_ixA ia46 rfl rfl (by decide) (by decide)) ?_
 obtain ⟨x26, hx27, hz⟩ := bind_ok hz
 refine WL_gy rfl rfl (Y_ld1 (.int .i64 x26) ts3 rfl (hS.bvB 0 rfl) (vp (k := 1) rfl rfl (GNode.p2 (rep_root (k := 201) rfl hb15)) hx27)) <|WL_gy rfl rfl (Y_eql rfl rfl) <|WL_d 2 rfl ?_
 rcases ic hz with ⟨hc28, hz⟩ | ⟨hc28, hz⟩ <;> rw [hc28]
 refine WL_gy rfl rfl (Y_fa fa48_1 rfl) ?_
 obtain ⟨v29, ev29, hv29⟩ := (GNode.p1 (rep_root (k := 201) rfl hb15))
 refine WL_gy rfl rfl (Y_ld1 v29 ts27 rfl (hS.bvB 0 rfl) ev29) ?_
 obtain ⟨a30, c30, hv30, _⟩ := repL_shape hv29
 refine WL_gy rfl rfl (Y_lenL Try.underlying27 (tr2 hv30 rfl)) <|WL_gy rfl rfl (Y_eql rfl rfl) <|WL_d 2 rfl ?_
 refine WL_nil (nm_then ?_)
 exact ⟨M10, ((d16.order.length : Int) == 1), hF22, hS, rfl, hz⟩
 refine WL_d 6 rfl ?_
 refine WL_nil (nm_then ?_)
 exact ⟨M10, false, hF22, hS, rfl, hz⟩
 refine WL_d 12 rfl ?_
 refine WL_nil (nm_then ?_)
 exact ⟨M10, false, hF22, hS, rfl, hz⟩
 refine WL_d 17 rfl ?_
 refine WL_nil (nm_then ?_)
 exact ⟨M10, false, hF22, hS, rfl, hz⟩
 rintro T19 w17 ⟨M18, c20, hx21, hS, hT19_0, hz⟩
 replace hb15 := Rep.mono hx21.1 hb15
 replace hE := Mm.ext.trans hE hx21
 rw [keepTakes_j1] at hz
 cases hz
 exact W_ret (R_t1 rfl hT19_0 ⟨rfl, (St.dropB hS hb13).kept⟩)
def nodeSorted_j2 (y13 : Int) (rec14 : GNode → Int → Option Bool) (d26 : GNode) : Option Bool :=
 rec14 d26 (IntKind.wrap .i64 (y13 + 1))
def nodeSorted_j1 (fu : Nat) (x2 : List GFrame) (r5 : Int) (d12 : GNode) (y13 : Int) (rec14 : GNode → Int → Option Bool) : Option Bool :=
 (idx x2 y13).bind fun x30 =>
 (some x30).bind fun d36 =>
 (some ({ d36 with node := r5 } : GFrame)).bind fun d39 =>
 (nodeTakeD fu d12 r5 d39).bind fun r44 =>
 (some r44.1).bind fun d49 =>
 (bif r44.2.2 == 0 then
 (some d49).bind fun d54 =>
 nodeSorted_j2 y13 rec14 d54
 else
 nodeSorted_j2 y13 rec14 d12)
def nodeSorted_j4 (y101 : Int) (rec102 : Int → Option Bool) : Option Bool :=
 rec102 (IntKind.wrap .i64 (y101 + 1))
def nodeSorted_j5 (y124 : Int) (rec125 : Int → Option Bool) : Option Bool :=
 rec125 (IntKind.wrap .i64 (y124 + 1))
def nodeSorted_j7 (y124 : Int) (rec125 : Int → Option Bool) (c150 : Bool) : Option Bool :=
 (bif c150 then
 some false
 else
 nodeSorted_j5 y124 rec125)
def nodeSorted_j6 (fu : Nat) (d70 : GGraph) (d79 : Vector Int 32) (y101 : Int) (y124 : Int) (rec125 : Int → Option Bool) : Option Bool :=
 (reachD fu d70 y124).bind fun r144 =>
 (idxV r144 y101).bind fun x145 =>
 (inR y124 32).bind fun _ =>
 (idxV d79 y124).bind fun x159 =>
 (bif x159 == 0 then
 nodeSorted_j7 y124 rec125 true
 else
 (bif !x145 then
 (inR y124 32).bind fun _ =>
 (idxV d79 y124).bind fun x165 =>
 (inR y101 32).bind fun _ =>
 (idxV d79 y101).bind fun x169 =>
 (bif decide (x165 > x169) then
 nodeSorted_j7 y124 rec125 true
 else
 (bif x145 then
 (inR y124 32).bind fun _ =>
 (idxV d79 y124).bind fun x175 =>
 (inR y101 32).bind fun _ =>
 (idxV d79 y101).bind fun x179 =>
 nodeSorted_j7 y124 rec125 (!((decide (y124 < y101)) == (decide (x175 < x179))))
 else
 nodeSorted_j7 y124 rec125 false))
 else
 (bif x145 then
 (inR y124 32).bind fun _ =>
 (idxV d79 y124).bind fun x175 =>
 (inR y101 32).bind fun _ =>
 (idxV d79 y101).bind fun x179 =>
 nodeSorted_j7 y124 rec125 (!((decide (y124 < y101)) == (decide (x175 < x179))))
 else
 nodeSorted_j7 y124 rec125 false)))
def nodeSorted_j8 (fu : Nat) (d70 : GGraph) (d79 : Vector Int 32) (y101 : Int) (y124 : Int) (rec125 : Int → Option Bool) (c186 : Bool) : Option Bool :=
 (bif c186 then
 nodeSorted_j5 y124 rec125
 else
 nodeSorted_j6 fu d70 d79 y101 y124 rec125)
def nodeSorted_l4 (fu : Nat) (d70 : GGraph) (d79 : Vector Int 32) (y101 : Int) (rec102 : Int → Option Bool) (r120 : (Vector Bool 32)) : Nat → Int → Option Bool
 | 0, _ => none
 | n + 1, y124 =>
 (bif decide (y124 < 32) then
 (idxV r120 y124).bind fun x135 =>
 (bif !x135 then
 nodeSorted_j8 fu d70 d79 y101 y124 (nodeSorted_l4 fu d70 d79 y101 rec102 r120 n) true
 else
 nodeSorted_j8 fu d70 d79 y101 y124 (nodeSorted_l4 fu d70 d79 y101 rec102 r120 n) (y124 == y101))
 else
 nodeSorted_j4 y101 rec102)
def nodeSorted_l3 (fu : Nat) (d70 : GGraph) (d79 : Vector Int 32) : Nat → Int → Option Bool
 | 0, _ => none
 | n + 1, y101 =>
 (bif decide (y101 < 32) then
 (inR y101 32).bind fun _ =>
 (idxV d79 y101).bind fun x114 =>
 (bif x114 == 0 then
 nodeSorted_j4 y101 (nodeSorted_l3 fu d70 d79 n)
 else
 (reachD fu d70 y101).bind fun r120 =>
 nodeSorted_l4 fu d70 d79 y101 (nodeSorted_l3 fu d70 d79 n) r120 fu 0)
 else
 (keepTakesD fu).bind fun r193 =>
 some r193)
def nodeSorted_l2 (fu : Nat) (d12 : GNode) (d70 : GGraph) : Nat → (Vector Int 32) → Int → Option Bool
 | 0, _, _ => none
 | n + 1, d79, y80 =>
 (bif decide (y80 < (d12.order.length : Int)) then
 (idx d12.order y80).bind fun x87 =>
 (inR x87 32).bind fun _ =>
 (idxV d79 x87).bind fun x92 =>
 (setV d79 x87 (IntKind.wrap .i64 (y80 + 1))).bind fun a95 =>
 (some a95).bind fun d97 =>
 (nodeSorted_l2 fu d12 d70 n) d97 (IntKind.wrap .i64 (y80 + 1))
 else
 nodeSorted_l3 fu d70 d79 fu 0)
def nodeSorted_j3 (fu : Nat) (x2 : List GFrame) (r5 : Int) (d12 : GNode) (y13 : Int) (rec14 : GNode → Int → Option Bool) (c59 : Bool) : Option Bool :=
 (bif c59 then
 nodeSorted_j1 fu x2 r5 d12 y13 rec14
 else
 (nodeGraphD fu d12).bind fun r65 =>
 (some r65).bind fun d70 =>
 nodeSorted_l2 fu d12 d70 fu (Zr.zd : Vector Int 32) 0)
def nodeSorted_l1 (fu : Nat) (x2 : List GFrame) (r5 : Int) : Nat → GNode → Int → Option Bool
 | 0, _, _ => none
 | n + 1, d12, y13 =>
 (bif decide (y13 < (x2.length : Int)) then
 nodeSorted_j3 fu x2 r5 d12 y13 (nodeSorted_l1 fu x2 r5 n) (decide (y13 < 40))
 else
 nodeSorted_j3 fu x2 r5 d12 y13 (nodeSorted_l1 fu x2 r5 n) false)
def nodeSortedD (fu : Nat) (x1 : Int) (x2 : List GFrame) : Option Bool :=
 (keepPickD fu x1 6).bind fun r5 =>
 nodeSorted_l1 fu x2 r5 fu (Zr.zd : GNode) 0
set_option maxRecDepth 100000 in
set_option maxHeartbeats 4000000 in
theorem nodeSorted_ok {M : Mm} {w : World} {vx2 : Value} {x1 : Int} {x2 : List GFrame} {fu : Nat} {r : Bool} (hA : Agree M w) (hvx2 : repL M vx2 x2) (hz : nodeSortedD fu x1 x2 = some r) :
    Calls Try.prog 7 #[.int .i64 x1, vx2] w (GivesV w (.bool r)) := by
 refine calls_W Try.func7 rfl 125 rfl rfl (by kernel_rfl) fun T hT => ?_
 have hT_0 : T 0 = .int .i64 x1 := hT 0
 have hT_1 : T 1 = vx2 := hT 1
 clear hT
 have hE := Mm.ext.refl w.heap.size noX M
 have hS : St w noX M [] w := St.start hA
 rw [nodeSortedD] at hz
 refine W_seq <|W_reg <|WL_y (Y_assign (.bool false) rfl) ?_
 refine WL_nil (nm_then ?_)
 refine W_seq <|W_reg <|WL_y (Y_move (.int .i64 x1) hT_0) ?_
 obtain ⟨r5, hr4, hz⟩ := bind_ok hz
 refine WL_c (O_val (vs := [.int .i64 x1, .int .i64 6]) (v := .int .i64 r5) cb30 (args2 rfl rfl) hS (keepPick_ok hS.agree hr4) ?_)
 intro w3 hS
 refine WL_y (Y_assign (.int .i64 r5) rfl) ?_
 refine WL_nil (nm_then ?_)
 refine W_seq <|W_reg ?_
 refine WL_c (O_alloc tz48 hS ?_)
 intro b7 w6 hb7 hS
 replace hS : St w noX M [.box b7 (Zr.zc GNode) 48] w6 := hS
 have zb7 : rep M (Zr.zc GNode) (Zr.zd : GNode) := Zr.zr
 refine WL_nil (nm_then ?_)
 refine W_seq <|W_seq <|W_reg <|WL_y (Y_assign (.int .i64 0) rfl) ?_
 refine WL_nil (nm_then ?_)
 refine W_block ?_
 refine W_loop (fun k15 T' w' => ∃ M9 cs11 d12 y13, Mm.ext w.heap.size noX M M9 ∧ St w noX M9 [.box b7 cs11 48] w' ∧ rep M9 cs11 d12 ∧ T' 0 = .int .i64 r5 ∧ T' 1 = vx2 ∧ T' 5 = .pointer (some ⟨b7, 0, none⟩) ∧ T' 6 = .int .i64 y13 ∧ nodeSorted_l1 fu x2 r5 k15 d12 y13 = some r) fu ?_ ?_ ?_
 exact ⟨M, (Zr.zc GNode), (Zr.zd : GNode), (0 : Int), (Mm.ext.refl _ _ _), hS, zb7, rfl, hT_1, rfl, rfl, hz⟩
 rintro T' w' ⟨_, _, _, _, _, _, _, _, _, _, _, hz⟩
 rw [nodeSorted_l1] at hz
 cases hz
 intro k15
 rintro T10 w8 ⟨M9, cs11, d12, y13, hx17, hS, hb11, hT10_0, hT10_1, hT10_5, hT10_6, hz⟩
 replace hvx2 := repL.mono hx17.1 hvx2
 replace hE := Mm.ext.trans hE hx17
 have hF16 := hx17
 rw [nodeSorted_l1] at hz
 obtain ⟨rec14, hrec14⟩ : ∃ f, f = nodeSorted_l1 fu x2 r5 k15 := ⟨_, rfl⟩
 rw [← hrec14] at hz
 refine W_seqJ (fun T' w' => ∃ M19, Mm.ext w.heap.size noX M9 M19 ∧ St w noX M19 [.box b7 cs11 48] w' ∧ T' 0 = .int .i64 r5 ∧ T' 1 = vx2 ∧ T' 5 = .pointer (some ⟨b7, 0, none⟩) ∧ T' 6 = .int .i64 y13 ∧ nodeSorted_j1 fu x2 r5 d12 y13 rec14 = some r) ?_ ?_
 have hF55 := Mm.ext.refl w.heap.size noX M9
 refine W_seqJ (fun T' w' => ∃ M57 c59, Mm.ext w.heap.size noX M9 M57 ∧ St w noX M57 [.box b7 cs11 48] w' ∧ T' 0 = .int .i64 r5 ∧ T' 1 = vx2 ∧ T' 5 = .pointer (some ⟨b7, 0, none⟩) ∧ T' 6 = .int .i64 y13 ∧ T' 28 = .bool c59 ∧ nodeSorted_j3 fu x2 r5 d12 y13 rec14 c59 = some r) ?_ ?_
 have hF194 := Mm.ext.refl w.heap.size noX M9
 refine W_reg <|WL_y (Y_move (.int .i64 y13) hT10_6) <|WL_y (Y_move (vx2) hT10_1) ?_
 obtain ⟨a195, c195, hv195, _⟩ := repL_shape hvx2
 refine WL_y (Y_lenL Try.underlying25 (tr2 hv195 rfl)) <|WL_y (Y_lss rfl rfl) <|WL_y (Y_move (.bool (decide (y13 < (x2.length : Int)))) rfl) ?_
 rcases ic hz with ⟨hc196, hz⟩ | ⟨hc196, hz⟩ <;> rw [hc196]
 refine WL_gy rfl rfl (Y_move (.int .i64 y13) hT10_6) <|WL_gy rfl rfl (Y_lss rfl rfl) <|WL_y (Y_pick_t (.bool (decide (y13 < 40))) rfl rfl) ?_
 refine WL_nil (nm_then ?_)
 exact ⟨M9, (decide (y13 < 40)), hF194, hS, hT10_0, hT10_1, hT10_5, hT10_6, rfl, hz⟩
 refine WL_d 3 rfl ?_
 refine WL_nil (nm_then ?_)
 exact ⟨M9, false, hF194, hS, hT10_0, hT10_1, hT10_5, hT10_6, rfl, hz⟩
 rintro T58 w56 ⟨M57, c59, hx60, hS, hT58_0, hT58_1, hT58_5, hT58_6, hT58_28, hz⟩
 replace hvx2 := repL.mono hx60.1 hvx2
 replace hb11 := Rep.mono hx60.1 hb11
 replace hE := Mm.ext.trans hE hx60
 replace hF16 := Mm.ext.trans hF16 hx60
 replace hF55 := Mm.ext.trans hF55 hx60
 rw [nodeSorted_j3] at hz
 refine W_cond hT58_28 (fun hc61 => ?_) (fun hc61 => ?_)
 replace hz := bif_ok_t hz hc61
 refine W_skip (nm_then ?_)
 exact ⟨M57, hF55, hS, hT58_0, hT58_1, hT58_5, hT58_6, hz⟩
 replace hz := bif_ok_f hz hc61
 refine W_exit <|ex_then <|ex_then <|ex_hit ?_
 refine (nm_then ?_)
 refine W_seq <|W_reg ?_
 have ha62 := (rep_root (k := 201) rfl hb11)
 refine WL_y (Y_ldn ta48 hT58_5 (hS.bvB 0 rfl) (Rep.len ha62)) ?_
 obtain ⟨r65, hr64, hz⟩ := bind_ok hz
 refine WL_c (O_mem (vs := [.agg (sl cs11 (0) 201).toArray]) (rv := (fun M' u => ∃ cs, u = .agg cs.toArray ∧ rep M' cs r65)) cb31 (args1 rfl) hS (nodeGraph_ok hS.agree ha62 hr64) ?_)
 intro u64 M64 w63 hx64 hu64 hS
 obtain ⟨c64, hq64, f64⟩ := hu64
 subst hq64
 replace hb11 := Rep.mono hx64.1 hb11
 replace ha62 := Rep.mono hx64.1 ha62
 replace hE := Mm.ext.trans hE hx64
 replace hF16 := Mm.ext.trans hF16 hx64
 replace hF55 := Mm.ext.trans hF55 hx64
 refine WL_c (O_alloc tz64 hS ?_)
 intro b67 w66 hb67 hS
 replace hS : St w noX M64 [.box b67 (Zr.zc GGraph) 64, .box b7 cs11 48] w66 := hS
 have zb67 : rep M64 (Zr.zc GGraph) (Zr.zd : GGraph) := Zr.zr
 have hw69 : (c64 : List Value).length = 64 := Rep.len f64
 have hl69 : ((Zr.zc GGraph)).length = 64 := Rep.len zb67
 obtain ⟨d70, hd69, hz⟩ := bind_ok hz
 have hb69 : rep M64 (pt (Zr.zc GGraph) (0) c64) d70 := rep_eq (rep_whole (k := 64) (by rw [pt_length (by omega)]; exact hl69) (rep_leaf rfl f64 (by omega))) hd69
 generalize hg69 : (pt (Zr.zc GGraph) (0) c64) = cs69 at hb69
 refine WL_c (O_st (j := 0) (v := .agg c64.toArray) (ws := c64) hS rfl (by kernel_rfl) rfl rfl rfl hw69 (Rep.one f64) (by omega) ?_)
 rw [hg69]
 clear hg69
 intro w68 hS
 replace hS : St w noX M64 [.box b67 cs69 64, .box b7 cs11 48] w68 := hS
 refine WL_nil (nm_then ?_)
 refine W_seq <|W_reg ?_
 refine WL_c (O_alloc tz66 hS ?_)
 intro b72 w71 hb72 hS
 replace hS : St w noX M64 [.box b72 (Zr.zc (Vector Int 32)) 66, .box b67 cs69 64, .box b7 cs11 48] w71 := hS
 have zb72 : rep M64 (Zr.zc (Vector Int 32)) (Zr.zd : Vector Int 32) := Zr.zr
 refine WL_nil (nm_then ?_)
 refine W_seq <|W_seq <|W_reg <|WL_y (Y_fa fa48_1 hT58_5) ?_
 obtain ⟨v73, ev73, hv73⟩ := (GNode.p1 (rep_root (k := 201) rfl hb11))
 refine WL_y (Y_ld1 v73 ts27 rfl (hS.bvB 2 rfl) ev73) ?_
 obtain ⟨a74, c74, hv74, _⟩ := repL_shape hv73
 refine WL_y (Y_lenL Try.underlying27 (tr2 hv74 rfl)) <|WL_y (Y_move (.int .i64 0) rfl) ?_
 refine WL_nil (nm_then ?_)
 refine W_block ?_
 refine W_loop (fun k82 T' w' => ∃ M76 cs78 d79 y80, Mm.ext w.heap.size noX M64 M76 ∧ St w noX M76 [.box b72 cs78 66, .box b67 cs69 64, .box b7 cs11 48] w' ∧ rep M76 cs78 d79 ∧ T' 11 = .pointer (some ⟨b67, 0, none⟩) ∧ T' 12 = .pointer (some ⟨b72, 0, none⟩) ∧ T' 51 = v73 ∧ T' 52 = .int .i64 (d12.order.length : Int) ∧ T' 53 = .int .i64 y80 ∧ nodeSorted_l2 fu d12 d70 k82 d79 y80 = some r) fu ?_ ?_ ?_
 exact ⟨M64, (Zr.zc (Vector Int 32)), (Zr.zd : Vector Int 32), (0 : Int), (Mm.ext.refl _ _ _), hS, zb72, rfl, rfl, rfl, rfl, rfl, hz⟩
 rintro T' w' ⟨_, _, _, _, _, _, _, _, _, _, _, _, hz⟩
 rw [nodeSorted_l2] at hz
 cases hz
 intro k82
 rintro T77 w75 ⟨M76, cs78, d79, y80, hx84, hS, hb78, hT77_11, hT77_12, hT77_51, hT77_52, hT77_53, hz⟩
 replace hb11 := Rep.mono hx84.1 hb11
 replace hb69 := Rep.mono hx84.1 hb69
 replace hv73 := repL.mono hx84.1 hv73
 replace hE := Mm.ext.trans hE hx84
 replace hF16 := Mm.ext.trans hF16 hx84
 replace hF55 := Mm.ext.trans hF55 hx84
 have hF83 := hx84
 rw [nodeSorted_l2] at hz
 obtain ⟨rec81, hrec81⟩ : ∃ f, f = nodeSorted_l2 fu d12 d70 k82 := ⟨_, rfl⟩
 rw [← hrec81] at hz
 refine W_seq <|W_reg <|WL_y (Y_lss hT77_53 hT77_52) ?_
 refine WL_nil (nm_then ?_)
 refine W_seq ?_
 refine W_cond rfl (fun hc85 => ?_) (fun hc85 => ?_)
 replace hz := bif_ok_t hz hc85
 refine W_skip (nm_then ?_)
 refine W_seq <|W_block <|W_seq <|W_reg <|WL_y (Y_move (.int .i64 y80) hT77_53) ?_
 obtain ⟨x87, hx86, hz⟩ := bind_ok hz
 obtain ⟨b86, o86, c86, p86, hv86, hi86, hj86, hM86, hr86⟩ := repL_at hv73 hx86
 replace hr86 : rep _ (sl p86 (o86 + Int.toNat y80 * 1) 1) x87 := hr86
 refine WL_y (Y_ixL il27 hT77_51 hv86 hT77_53 hi86 hj86) <|WL_y (Y_ld1 (.int .i64 x87) ts3 rfl (hS.bvM hM86) hr86) <|WL_d 2 rfl ?_
 refine WL_nil (nm_then ?_)
 refine W_reg <|WL_d 2 rfl <|WL_y (Y_add rfl rfl) ?_
 obtain ⟨u88, hx89, hz⟩ := bind_ok hz
 obtain ⟨hx89a, hx89b⟩ := inR_some hx89
 refine WL_y (Y_ixA ia66 hT77_12 rfl hx89a hx89b) ?_
 obtain ⟨x92, hx93, hz⟩ := bind_ok hz
 have hw91 : ([.int .i64 (IntKind.wrap .i64 (y80 + 1))] : List Value).length = 1 := Rep.len (show rep M76 [Value.int .i64 (IntKind.wrap .i64 (y80 + 1))] (IntKind.wrap .i64 (y80 + 1) : Int) from rfl)
 have hl91 : (cs78).length = 32 := Rep.len hb78
 have hq94 := (idxV_some hx93)
 obtain ⟨a95, hx96, hz⟩ := bind_ok hz
 obtain ⟨d97, hd91, hz⟩ := bind_ok hz
 have hb91 : rep M76 (pt cs78 (0 + Int.toNat x87 * 1) [.int .i64 (IntKind.wrap .i64 (y80 + 1))]) d97 := rep_eq (rep_whole (k := 32) (by rw [pt_length (by omega)]; exact hl91) (vs (k := 1) rfl rfl (rep_root (k := 32) rfl hb78) (rep_leaf rfl (show rep M76 [Value.int .i64 (IntKind.wrap .i64 (y80 + 1))] (IntKind.wrap .i64 (y80 + 1) : Int) from rfl) (by omega)) hx96 (by omega) (by omega) (by omega))) hd91
 generalize hg91 : (pt cs78 (0 + Int.toNat x87 * 1) [.int .i64 (IntKind.wrap .i64 (y80 + 1))]) = cs91 at hb91
 refine WL_c (O_st (j := 0) (v := .int .i64 (IntKind.wrap .i64 (y80 + 1))) (ws := [.int .i64 (IntKind.wrap .i64 (y80 + 1))]) hS rfl (by kernel_rfl) rfl rfl rfl hw91 (Rep.one (show rep M76 [Value.int .i64 (IntKind.wrap .i64 (y80 + 1))] (IntKind.wrap .i64 (y80 + 1) : Int) from rfl)) (by omega) ?_)
 rw [hg91]
 clear hg91
 intro w90 hS
 replace hS : St w noX M76 [.box b72 cs91 66, .box b67 cs69 64, .box b7 cs11 48] w90 := hS
 refine WL_nil (nm_blk ?_)
 refine (nm_then ?_)
 refine W_reg <|WL_y (Y_add hT77_53 rfl) <|WL_y (Y_move (.int .i64 (IntKind.wrap .i64 (y80 + 1))) rfl) ?_
 refine WL_nil (nm_then ?_)
 exact ⟨M76, cs91, d97, (IntKind.wrap .i64 (y80 + 1)), hF83, hS, hb91, hT77_11, hT77_12, hT77_51, hT77_52, rfl, (by rw [← hrec81]; exact hz)⟩
 replace hz := bif_ok_f hz hc85
 refine W_exit <|ex_then <|ex_then <|ex_hit ?_
 refine (nm_then ?_)
 refine W_seq <|W_seq <|W_reg <|WL_y (Y_move (.int .i64 0) rfl) ?_
 refine WL_nil (nm_then ?_)
 refine W_block ?_
 refine W_loop (fun k103 T' w' => ∃ M99 y101, Mm.ext w.heap.size noX M76 M99 ∧ St w noX M99 [.box b72 cs78 66, .box b67 cs69 64, .box b7 cs11 48] w' ∧ T' 11 = .pointer (some ⟨b67, 0, none⟩) ∧ T' 12 = .pointer (some ⟨b72, 0, none⟩) ∧ T' 63 = .int .i64 y101 ∧ nodeSorted_l3 fu d70 d79 k103 y101 = some r) fu ?_ ?_ ?_
 exact ⟨M76, (0 : Int), (Mm.ext.refl _ _ _), hS, hT77_11, hT77_12, rfl, hz⟩
 rintro T' w' ⟨_, _, _, _, _, _, _, hz⟩
 rw [nodeSorted_l3] at hz
 cases hz
 intro k103
 rintro T100 w98 ⟨M99, y101, hx105, hS, hT100_11, hT100_12, hT100_63, hz⟩
 replace hb11 := Rep.mono hx105.1 hb11
 replace hb69 := Rep.mono hx105.1 hb69
 replace hb78 := Rep.mono hx105.1 hb78
 replace hE := Mm.ext.trans hE hx105
 replace hF16 := Mm.ext.trans hF16 hx105
 replace hF55 := Mm.ext.trans hF55 hx105
 replace hF83 := Mm.ext.trans hF83 hx105
 have hF104 := hx105
 rw [nodeSorted_l3] at hz
 obtain ⟨rec102, hrec102⟩ : ∃ f, f = nodeSorted_l3 fu d70 d79 k103 := ⟨_, rfl⟩
 rw [← hrec102] at hz
 refine W_seq <|W_reg <|WL_y (Y_lss hT100_63 rfl) ?_
 refine WL_nil (nm_then ?_)
 refine W_seq ?_
 refine W_cond rfl (fun hc106 => ?_) (fun hc106 => ?_)
 replace hz := bif_ok_t hz hc106
 refine W_skip (nm_then ?_)
 refine W_seqJ (fun T' w' => ∃ M108, Mm.ext w.heap.size noX M99 M108 ∧ St w noX M108 [.box b72 cs78 66, .box b67 cs69 64, .box b7 cs11 48] w' ∧ T' 11 = .pointer (some ⟨b67, 0, none⟩) ∧ T' 12 = .pointer (some ⟨b72, 0, none⟩) ∧ T' 63 = .int .i64 y101 ∧ nodeSorted_j4 y101 rec102 = some r) ?_ ?_
 have hF111 := Mm.ext.refl w.heap.size noX M99
 refine W_block <|W_seq <|W_reg <|WL_y (Y_move (.int .i64 y101) hT100_63) <|WL_y (Y_assign (.int .i64 y101) rfl) ?_
 refine WL_nil (nm_then ?_)
 refine W_seq <|W_seq <|W_reg <|WL_y (Y_move (.int .i64 y101) rfl) ?_
 obtain ⟨u112, hx113, hz⟩ := bind_ok hz
 obtain ⟨hx113a, hx113b⟩ := inR_some hx113
 refine WL_y (Y_ixA ia66 hT100_12 rfl hx113a hx113b) ?_
 obtain ⟨x114, hx115, hz⟩ := bind_ok hz
 refine WL_y (Y_ld1 (.int .i64 x114) ts3 rfl (hS.bvB 0 rfl) (vp (k := 1) rfl rfl (rep_root (k := 32) rfl hb78) hx115)) <|WL_y (Y_eql rfl rfl) ?_
 refine WL_nil (nm_then ?_)
 refine W_cond rfl (fun hc116 => ?_) (fun hc116 => ?_)
 replace hz := bif_ok_t hz hc116
 refine W_exit <|ex_then <|ex_hit ?_
 refine (nm_then ?_)
 exact ⟨M99, hF111, hS, hT100_11, hT100_12, hT100_63, hz⟩
 replace hz := bif_ok_f hz hc116
 refine W_skip (nm_then ?_)
 refine W_seq <|W_reg ?_
 have ha117 := (rep_root (k := 64) rfl hb69)
 refine WL_y (Y_ldn ta64 hT100_11 (hS.bvB 1 rfl) (Rep.len ha117)) <|WL_y (Y_move (.int .i64 y101) rfl) ?_
 obtain ⟨r120, hr119, hz⟩ := bind_ok hz
 refine WL_c (O_mem (vs := [.agg (sl cs69 (0) 64).toArray, .int .i64 y101]) (rv := (fun M' u => ∃ cs, u = .agg cs.toArray ∧ rep M' cs r120)) cb32 (args2 rfl rfl) hS (reach_ok hS.agree ha117 hr119) ?_)
 intro u119 M119 w118 hx119 hu119 hS
 obtain ⟨c119, hq119, f119⟩ := hu119
 subst hq119
 replace hb11 := Rep.mono hx119.1 hb11
 replace hb69 := Rep.mono hx119.1 hb69
 replace hb78 := Rep.mono hx119.1 hb78
 replace ha117 := Rep.mono hx119.1 ha117
 replace hE := Mm.ext.trans hE hx119
 replace hF16 := Mm.ext.trans hF16 hx119
 replace hF55 := Mm.ext.trans hF55 hx119
 replace hF83 := Mm.ext.trans hF83 hx119
 replace hF104 := Mm.ext.trans hF104 hx119
 replace hF111 := Mm.ext.trans hF111 hx119
 refine WL_y (Y_move (.int .i64 0) rfl) ?_
 refine WL_nil (nm_then ?_)
 refine W_block ?_
 refine W_loop (fun k126 T' w' => ∃ M122 y124, Mm.ext w.heap.size noX M119 M122 ∧ St w noX M122 [.box b72 cs78 66, .box b67 cs69 64, .box b7 cs11 48] w' ∧ T' 11 = .pointer (some ⟨b67, 0, none⟩) ∧ T' 12 = .pointer (some ⟨b72, 0, none⟩) ∧ T' 15 = .int .i64 y101 ∧ T' 63 = .int .i64 y101 ∧ T' 72 = .agg c119.toArray ∧ T' 73 = .int .i64 y124 ∧ nodeSorted_l4 fu d70 d79 y101 rec102 r120 k126 y124 = some r) fu ?_ ?_ ?_
 exact ⟨M119, (0 : Int), (Mm.ext.refl _ _ _), hS, hT100_11, hT100_12, rfl, hT100_63, rfl, rfl, hz⟩
 rintro T' w' ⟨_, _, _, _, _, _, _, _, _, _, hz⟩
 rw [nodeSorted_l4] at hz
 cases hz
 intro k126
 rintro T123 w121 ⟨M122, y124, hx128, hS, hT123_11, hT123_12, hT123_15, hT123_63, hT123_72, hT123_73, hz⟩
 replace hb11 := Rep.mono hx128.1 hb11
 replace hb69 := Rep.mono hx128.1 hb69
 replace hb78 := Rep.mono hx128.1 hb78
 replace f119 := Rep.mono hx128.1 f119
 replace hE := Mm.ext.trans hE hx128
 replace hF16 := Mm.ext.trans hF16 hx128
 replace hF55 := Mm.ext.trans hF55 hx128
 replace hF83 := Mm.ext.trans hF83 hx128
 replace hF104 := Mm.ext.trans hF104 hx128
 replace hF111 := Mm.ext.trans hF111 hx128
 have hF127 := hx128
 rw [nodeSorted_l4] at hz
 obtain ⟨rec125, hrec125⟩ : ∃ f, f = nodeSorted_l4 fu d70 d79 y101 rec102 r120 k126 := ⟨_, rfl⟩
 rw [← hrec125] at hz
 refine W_seq <|W_reg <|WL_y (Y_lss hT123_73 rfl) ?_
 refine WL_nil (nm_then ?_)
 refine W_seq ?_
 refine W_cond rfl (fun hc129 => ?_) (fun hc129 => ?_)
 replace hz := bif_ok_t hz hc129
 refine W_skip (nm_then ?_)
 refine W_seqJ (fun T' w' => ∃ M131, Mm.ext w.heap.size noX M122 M131 ∧ St w noX M131 [.box b72 cs78 66, .box b67 cs69 64, .box b7 cs11 48] w' ∧ T' 11 = .pointer (some ⟨b67, 0, none⟩) ∧ T' 12 = .pointer (some ⟨b72, 0, none⟩) ∧ T' 15 = .int .i64 y101 ∧ T' 63 = .int .i64 y101 ∧ T' 72 = .agg c119.toArray ∧ T' 73 = .int .i64 y124 ∧ nodeSorted_j5 y124 rec125 = some r) ?_ ?_
 have hF134 := Mm.ext.refl w.heap.size noX M122
 refine W_block <|W_seq <|W_reg <|WL_y (Y_move (.int .i64 y124) hT123_73) ?_
 obtain ⟨x135, hx136, hz⟩ := bind_ok hz
 obtain ⟨hx136a, hx136b, hx136⟩ := repV_at f119 hx136
 refine WL_y (Y_ixV1 (.bool x135) iv61 hT123_72 hT123_73 hx136a hx136b hx136) <|WL_d 2 rfl ?_
 refine WL_nil (nm_then ?_)
 refine W_seqJ (fun T' w' => ∃ M138, Mm.ext w.heap.size noX M122 M138 ∧ St w noX M138 [.box b72 cs78 66, .box b67 cs69 64, .box b7 cs11 48] w' ∧ T' 11 = .pointer (some ⟨b67, 0, none⟩) ∧ T' 12 = .pointer (some ⟨b72, 0, none⟩) ∧ T' 15 = .int .i64 y101 ∧ T' 16 = .int .i64 y124 ∧ T' 63 = .int .i64 y101 ∧ T' 72 = .agg c119.toArray ∧ T' 73 = .int .i64 y124 ∧ nodeSorted_j6 fu d70 d79 y101 y124 rec125 = some r) ?_ ?_
 have hF182 := Mm.ext.refl w.heap.size noX M122
 refine W_seqJ (fun T' w' => ∃ M184 c186, Mm.ext w.heap.size noX M122 M184 ∧ St w noX M184 [.box b72 cs78 66, .box b67 cs69 64, .box b7 cs11 48] w' ∧ T' 11 = .pointer (some ⟨b67, 0, none⟩) ∧ T' 12 = .pointer (some ⟨b72, 0, none⟩) ∧ T' 15 = .int .i64 y101 ∧ T' 16 = .int .i64 y124 ∧ T' 63 = .int .i64 y101 ∧ T' 72 = .agg c119.toArray ∧ T' 73 = .int .i64 y124 ∧ T' 83 = .bool c186 ∧ nodeSorted_j8 fu d70 d79 y101 y124 rec125 c186 = some r) ?_ ?_
 have hF189 := Mm.ext.refl w.heap.size noX M122
 refine W_reg <|WL_y (Y_move (.bool x135) rfl) <|WL_y (Y_not rfl) <|WL_y (Y_move (.bool (!x135)) rfl) ?_
 rcases ic hz with ⟨hc190, hz⟩ | ⟨hc190, hz⟩ <;> rw [hc190]
 refine WL_d 4 rfl ?_
 refine WL_nil (nm_then ?_)
 exact ⟨M122, true, hF189, hS, hT123_11, hT123_12, hT123_15, rfl, hT123_63, hT123_72, hT123_73, rfl, hz⟩
 refine WL_gy rfl rfl (Y_move (.int .i64 y124) rfl) <|WL_gy rfl rfl (Y_move (.int .i64 y101) hT123_15) <|WL_gy rfl rfl (Y_eql rfl rfl) <|WL_y (Y_pick_f (.bool (y124 == y101)) rfl rfl) ?_
 refine WL_nil (nm_then ?_)
 exact ⟨M122, (y124 == y101), hF189, hS, hT123_11, hT123_12, hT123_15, rfl, hT123_63, hT123_72, hT123_73, rfl, hz⟩
 rintro T185 w183 ⟨M184, c186, hx187, hS, hT185_11, hT185_12, hT185_15, hT185_16, hT185_63, hT185_72, hT185_73, hT185_83, hz⟩
 replace hb11 := Rep.mono hx187.1 hb11
 replace hb69 := Rep.mono hx187.1 hb69
 replace hb78 := Rep.mono hx187.1 hb78
 replace f119 := Rep.mono hx187.1 f119
 replace hE := Mm.ext.trans hE hx187
 replace hF16 := Mm.ext.trans hF16 hx187
 replace hF55 := Mm.ext.trans hF55 hx187
 replace hF83 := Mm.ext.trans hF83 hx187
 replace hF104 := Mm.ext.trans hF104 hx187
 replace hF111 := Mm.ext.trans hF111 hx187
 replace hF127 := Mm.ext.trans hF127 hx187
 replace hF134 := Mm.ext.trans hF134 hx187
 replace hF182 := Mm.ext.trans hF182 hx187
 rw [nodeSorted_j8] at hz
 refine W_cond hT185_83 (fun hc188 => ?_) (fun hc188 => ?_)
 replace hz := bif_ok_t hz hc188
 refine W_exit <|ex_then <|ex_hit ?_
 refine (nm_then ?_)
 exact ⟨M184, hF134, hS, hT185_11, hT185_12, hT185_15, hT185_63, hT185_72, hT185_73, hz⟩
 replace hz := bif_ok_f hz hc188
 refine W_skip (nm_then ?_)
 exact ⟨M184, hF182, hS, hT185_11, hT185_12, hT185_15, hT185_16, hT185_63, hT185_72, hT185_73, hz⟩
 rintro T139 w137 ⟨M138, hx140, hS, hT139_11, hT139_12, hT139_15, hT139_16, hT139_63, hT139_72, hT139_73, hz⟩
 replace hb11 := Rep.mono hx140.1 hb11
 replace hb69 := Rep.mono hx140.1 hb69
 replace hb78 := Rep.mono hx140.1 hb78
 replace f119 := Rep.mono hx140.1 f119
 replace hE := Mm.ext.trans hE hx140
 replace hF16 := Mm.ext.trans hF16 hx140
 replace hF55 := Mm.ext.trans hF55 hx140
 replace hF83 := Mm.ext.trans hF83 hx140
 replace hF104 := Mm.ext.trans hF104 hx140
 replace hF111 := Mm.ext.trans hF111 hx140
 replace hF127 := Mm.ext.trans hF127 hx140
 replace hF134 := Mm.ext.trans hF134 hx140
 rw [nodeSorted_j6] at hz
 refine W_seq <|W_reg ?_
 have ha141 := (rep_root (k := 64) rfl hb69)
 refine WL_y (Y_ldn ta64 hT139_11 (hS.bvB 1 rfl) (Rep.len ha141)) <|WL_y (Y_move (.int .i64 y124) hT139_16) ?_
 obtain ⟨r144, hr143, hz⟩ := bind_ok hz
 refine WL_c (O_mem (vs := [.agg (sl cs69 (0) 64).toArray, .int .i64 y124]) (rv := (fun M' u => ∃ cs, u = .agg cs.toArray ∧ rep M' cs r144)) cb32 (args2 rfl rfl) hS (reach_ok hS.agree ha141 hr143) ?_)
 intro u143 M143 w142 hx143 hu143 hS
 obtain ⟨c143, hq143, f143⟩ := hu143
 subst hq143
 replace hb11 := Rep.mono hx143.1 hb11
 replace hb69 := Rep.mono hx143.1 hb69
 replace hb78 := Rep.mono hx143.1 hb78
 replace f119 := Rep.mono hx143.1 f119
 replace ha141 := Rep.mono hx143.1 ha141
 replace hE := Mm.ext.trans hE hx143
 replace hF16 := Mm.ext.trans hF16 hx143
 replace hF55 := Mm.ext.trans hF55 hx143
 replace hF83 := Mm.ext.trans hF83 hx143
 replace hF104 := Mm.ext.trans hF104 hx143
 replace hF111 := Mm.ext.trans hF111 hx143
 replace hF127 := Mm.ext.trans hF127 hx143
 replace hF134 := Mm.ext.trans hF134 hx143
 refine WL_y (Y_move (.int .i64 y101) hT139_15) ?_
 obtain ⟨x145, hx146, hz⟩ := bind_ok hz
 obtain ⟨hx146a, hx146b, hx146⟩ := repV_at f143 hx146
 refine WL_y (Y_ixV1 (.bool x145) iv61 rfl rfl hx146a hx146b hx146) <|WL_y (Y_assign (.bool x145) rfl) ?_
 refine WL_nil (nm_then ?_)
 refine W_seqJ (fun T' w' => ∃ M148 c150, Mm.ext w.heap.size noX M143 M148 ∧ St w noX M148 [.box b72 cs78 66, .box b67 cs69 64, .box b7 cs11 48] w' ∧ T' 11 = .pointer (some ⟨b67, 0, none⟩) ∧ T' 12 = .pointer (some ⟨b72, 0, none⟩) ∧ T' 15 = .int .i64 y101 ∧ T' 63 = .int .i64 y101 ∧ T' 72 = .agg c119.toArray ∧ T' 73 = .int .i64 y124 ∧ T' 121 = .bool c150 ∧ nodeSorted_j7 y124 rec125 c150 = some r) ?_ ?_
 have hF153 := Mm.ext.refl w.heap.size noX M143
 refine W_drawB (Rd M143 [.box b72 cs78 66]) (inL []) mixed hS fun w154 hS => ?_
 have hG155 := Mm.ext.refl w.heap.size noX M143
 have hR156 : Rd M143 [.box b72 cs78 66] w154 := Rd.of hS hG155 (by simp)
 refine WB_y (i := 0) rfl (by kernel_rfl) rfl (Y_move (.int .i64 y124) hT139_16) (fun _ => hR156) ?_
 obtain ⟨u157, hx158, hz⟩ := bind_ok hz
 obtain ⟨hx158a, hx158b⟩ := inR_some hx158
 refine WB_y (i := 1) rfl (by kernel_rfl) rfl (Y_ixA ia66 hT139_12 rfl hx158a hx158b) (fun _ => hR156) ?_
 obtain ⟨x159, hx160, hz⟩ := bind_ok hz
 refine WB_ld (i := 2) rfl (by kernel_rfl) rfl (inL_lt rfl) (by kernel_rfl) (by kernel_rfl) (Y_ld1 (.int .i64 x159) ts3 rfl (bvR 0 rfl) (vp (k := 1) rfl rfl (rep_root (k := 32) rfl hb78) hx160)) hR156 <|WB_y (i := 3) rfl (by kernel_rfl) rfl (Y_eql rfl rfl) (fun _ => hR156) <|WB_y (i := 4) rfl (by kernel_rfl) rfl (Y_move (.bool (x159 == 0)) rfl) (fun _ => hR156) ?_
 rcases ic hz with ⟨hc161, hz⟩ | ⟨hc161, hz⟩ <;> rw [hc161]
 refine WB_s (i := 5) (j := 4) rfl (by kernel_rfl) rfl rfl rfl rfl (fun _ => hR156) <|WB_s (i := 6) (j := 4) rfl (by kernel_rfl) rfl rfl rfl rfl (fun _ => hR156) <|WB_s (i := 7) (j := 4) rfl (by kernel_rfl) rfl rfl rfl rfl (fun _ => hR156) <|WB_su (i := 8) (j := 7) rfl (by kernel_rfl) rfl rfl rfl (fun _ => hR156) <|WB_su (i := 9) (j := 7) rfl (by kernel_rfl) rfl rfl rfl (fun _ => hR156) <|WB_su (i := 10) (j := 7) rfl (by kernel_rfl) rfl rfl rfl (fun _ => hR156) <|WB_su (i := 11) (j := 7) rfl (by kernel_rfl) rfl rfl rfl (fun _ => hR156) <|WB_su (i := 12) (j := 7) rfl (by kernel_rfl) rfl rfl rfl (fun _ => hR156) <|WB_su (i := 13) (j := 7) rfl (by kernel_rfl) rfl rfl rfl (fun _ => hR156) <|WB_su (i := 14) (j := 7) rfl (by kernel_rfl) rfl rfl rfl (fun _ => hR156) <|WB_s (i := 15) (j := 4) rfl (by kernel_rfl) rfl rfl rfl rfl (fun _ => hR156) <|WB_y (i := 16) rfl (by kernel_rfl) rfl (Y_pick_t (.bool true) rfl rfl) (fun _ => hR156) <|WB_y (i := 17) rfl (by kernel_rfl) rfl (Y_move (.bool true) rfl) (fun _ => hR156) <|WB_s (i := 18) (j := 17) rfl (by kernel_rfl) rfl rfl rfl rfl (fun _ => hR156) <|WB_s (i := 19) (j := 17) rfl (by kernel_rfl) rfl rfl rfl rfl (fun _ => hR156) <|WB_su (i := 20) (j := 19) rfl (by kernel_rfl) rfl rfl rfl (fun _ => hR156) <|WB_su (i := 21) (j := 19) rfl (by kernel_rfl) rfl rfl rfl (fun _ => hR156) <|WB_su (i := 22) (j := 19) rfl (by kernel_rfl) rfl rfl rfl (fun _ => hR156) <|WB_su (i := 23) (j := 19) rfl (by kernel_rfl) rfl rfl rfl (fun _ => hR156) <|WB_su (i := 24) (j := 19) rfl (by kernel_rfl) rfl rfl rfl (fun _ => hR156) <|WB_su (i := 25) (j := 19) rfl (by kernel_rfl) rfl rfl rfl (fun _ => hR156) <|WB_su (i := 26) (j := 19) rfl (by kernel_rfl) rfl rfl rfl (fun _ => hR156) <|WB_su (i := 27) (j := 19) rfl (by kernel_rfl) rfl rfl rfl (fun _ => hR156) <|WB_su (i := 28) (j := 19) rfl (by kernel_rfl) rfl rfl rfl (fun _ => hR156) <|WB_su (i := 29) (j := 19) rfl (by kernel_rfl) rfl rfl rfl (fun _ => hR156) <|WB_su (i := 30) (j := 19) rfl (by kernel_rfl) rfl rfl rfl (fun _ => hR156) <|WB_s (i := 31) (j := 17) rfl (by kernel_rfl) rfl rfl rfl rfl (fun _ => hR156) <|WB_y (i := 32) rfl (by kernel_rfl) rfl (Y_pick_t (.bool true) rfl rfl) (fun _ => hR156) ?_
 refine WB_done (by kernel_rfl) (nm_then ?_)
 exact ⟨M143, true, hF153, hS, hT139_11, hT139_12, hT139_15, hT139_63, hT139_72, hT139_73, rfl, hz⟩
 refine WB_gy (i := 5) rfl (by kernel_rfl) rfl rfl rfl (Y_move (.bool x145) rfl) (fun _ => hR156) <|WB_gy (i := 6) rfl (by kernel_rfl) rfl rfl rfl (Y_not rfl) (fun _ => hR156) <|WB_gy (i := 7) rfl (by kernel_rfl) rfl rfl rfl (Y_move (.bool (!x145)) rfl) (fun _ => hR156) ?_
 rcases ic hz with ⟨hc162, hz⟩ | ⟨hc162, hz⟩ <;> rw [hc162]
 refine WB_gy (i := 8) rfl (by kernel_rfl) rfl rfl rfl (Y_move (.int .i64 y124) hT139_16) (fun _ => hR156) ?_
 obtain ⟨u163, hx164, hz⟩ := bind_ok hz
 obtain ⟨hx164a, hx164b⟩ := inR_some hx164
 refine WB_gy (i := 9) rfl (by kernel_rfl) rfl rfl rfl (Y_ixA ia66 hT139_12 rfl hx164a hx164b) (fun _ => hR156) ?_
 obtain ⟨x165, hx166, hz⟩ := bind_ok hz
 refine WB_gld (i := 10) rfl (by kernel_rfl) rfl (inL_lt rfl) (by kernel_rfl) (by kernel_rfl) rfl rfl (Y_ld1 (.int .i64 x165) ts3 rfl (bvR 0 rfl) (vp (k := 1) rfl rfl (rep_root (k := 32) rfl hb78) hx166)) hR156 <|WB_gy (i := 11) rfl (by kernel_rfl) rfl rfl rfl (Y_move (.int .i64 y101) hT139_15) (fun _ => hR156) ?_
 obtain ⟨u167, hx168, hz⟩ := bind_ok hz
 obtain ⟨hx168a, hx168b⟩ := inR_some hx168
 refine WB_gy (i := 12) rfl (by kernel_rfl) rfl rfl rfl (Y_ixA ia66 hT139_12 rfl hx168a hx168b) (fun _ => hR156) ?_
 obtain ⟨x169, hx170, hz⟩ := bind_ok hz
 refine WB_gld (i := 13) rfl (by kernel_rfl) rfl (inL_lt rfl) (by kernel_rfl) (by kernel_rfl) rfl rfl (Y_ld1 (.int .i64 x169) ts3 rfl (bvR 0 rfl) (vp (k := 1) rfl rfl (rep_root (k := 32) rfl hb78) hx170)) hR156 <|WB_gy (i := 14) rfl (by kernel_rfl) rfl rfl rfl (Y_gtr rfl rfl) (fun _ => hR156) <|WB_gy (i := 15) rfl (by kernel_rfl) rfl rfl rfl (Y_pick_t (.bool (decide (x165 > x169))) rfl rfl) (fun _ => hR156) <|WB_y (i := 16) rfl (by kernel_rfl) rfl (Y_pick_f (.bool (decide (x165 > x169))) rfl rfl) (fun _ => hR156) <|WB_y (i := 17) rfl (by kernel_rfl) rfl (Y_move (.bool (decide (x165 > x169))) rfl) (fun _ => hR156) ?_
 rcases ic hz with ⟨hc171, hz⟩ | ⟨hc171, hz⟩ <;> rw [hc171]
 refine WB_s (i := 18) (j := 17) rfl (by kernel_rfl) rfl rfl rfl rfl (fun _ => hR156) <|WB_s (i := 19) (j := 17) rfl (by kernel_rfl) rfl rfl rfl rfl (fun _ => hR156) <|WB_su (i := 20) (j := 19) rfl (by kernel_rfl) rfl rfl rfl (fun _ => hR156) <|WB_su (i := 21) (j := 19) rfl (by kernel_rfl) rfl rfl rfl (fun _ => hR156) <|WB_su (i := 22) (j := 19) rfl (by kernel_rfl) rfl rfl rfl (fun _ => hR156) <|WB_su (i := 23) (j := 19) rfl (by kernel_rfl) rfl rfl rfl (fun _ => hR156) <|WB_su (i := 24) (j := 19) rfl (by kernel_rfl) rfl rfl rfl (fun _ => hR156) <|WB_su (i := 25) (j := 19) rfl (by kernel_rfl) rfl rfl rfl (fun _ => hR156) <|WB_su (i := 26) (j := 19) rfl (by kernel_rfl) rfl rfl rfl (fun _ => hR156) <|WB_su (i := 27) (j := 19) rfl (by kernel_rfl) rfl rfl rfl (fun _ => hR156) <|WB_su (i := 28) (j := 19) rfl (by kernel_rfl) rfl rfl rfl (fun _ => hR156) <|WB_su (i := 29) (j := 19) rfl (by kernel_rfl) rfl rfl rfl (fun _ => hR156) <|WB_su (i := 30) (j := 19) rfl (by kernel_rfl) rfl rfl rfl (fun _ => hR156) <|WB_s (i := 31) (j := 17) rfl (by kernel_rfl) rfl rfl rfl rfl (fun _ => hR156) <|WB_y (i := 32) rfl (by kernel_rfl) rfl (Y_pick_t (.bool true) rfl rfl) (fun _ => hR156) ?_
 refine WB_done (by kernel_rfl) (nm_then ?_)
 exact ⟨M143, true, hF153, hS, hT139_11, hT139_12, hT139_15, hT139_63, hT139_72, hT139_73, rfl, hz⟩
 refine WB_gy (i := 18) rfl (by kernel_rfl) rfl rfl rfl (Y_move (.bool x145) rfl) (fun _ => hR156) <|WB_gy (i := 19) rfl (by kernel_rfl) rfl rfl rfl (Y_move (.bool x145) rfl) (fun _ => hR156) ?_
 rcases ic hz with ⟨hc172, hz⟩ | ⟨hc172, hz⟩ <;> rw [hc172]
 refine WB_gy (i := 20) rfl (by kernel_rfl) rfl rfl rfl (Y_move (.int .i64 y124) hT139_16) (fun _ => hR156) <|WB_gy (i := 21) rfl (by kernel_rfl) rfl rfl rfl (Y_move (.int .i64 y101) hT139_15) (fun _ => hR156) <|WB_gy (i := 22) rfl (by kernel_rfl) rfl rfl rfl (Y_lss rfl rfl) (fun _ => hR156) <|WB_gy (i := 23) rfl (by kernel_rfl) rfl rfl rfl (Y_move (.int .i64 y124) hT139_16) (fun _ => hR156) ?_
 obtain ⟨u173, hx174, hz⟩ := bind_ok hz
 obtain ⟨hx174a, hx174b⟩ := inR_some hx174
 refine WB_gy (i := 24) rfl (by kernel_rfl) rfl rfl rfl (Y_ixA ia66 hT139_12 rfl hx174a hx174b) (fun _ => hR156) ?_
 obtain ⟨x175, hx176, hz⟩ := bind_ok hz
 refine WB_gld (i := 25) rfl (by kernel_rfl) rfl (inL_lt rfl) (by kernel_rfl) (by kernel_rfl) rfl rfl (Y_ld1 (.int .i64 x175) ts3 rfl (bvR 0 rfl) (vp (k := 1) rfl rfl (rep_root (k := 32) rfl hb78) hx176)) hR156 <|WB_gy (i := 26) rfl (by kernel_rfl) rfl rfl rfl (Y_move (.int .i64 y101) hT139_15) (fun _ => hR156) ?_
 obtain ⟨u177, hx178, hz⟩ := bind_ok hz
 obtain ⟨hx178a, hx178b⟩ := inR_some hx178
 refine WB_gy (i := 27) rfl (by kernel_rfl) rfl rfl rfl (Y_ixA ia66 hT139_12 rfl hx178a hx178b) (fun _ => hR156) ?_
 obtain ⟨x179, hx180, hz⟩ := bind_ok hz
 refine WB_gld (i := 28) rfl (by kernel_rfl) rfl (inL_lt rfl) (by kernel_rfl) (by kernel_rfl) rfl rfl (Y_ld1 (.int .i64 x179) ts3 rfl (bvR 0 rfl) (vp (k := 1) rfl rfl (rep_root (k := 32) rfl hb78) hx180)) hR156 <|WB_gy (i := 29) rfl (by kernel_rfl) rfl rfl rfl (Y_lss rfl rfl) (fun _ => hR156) <|WB_gy (i := 30) rfl (by kernel_rfl) rfl rfl rfl (Y_neB rfl rfl Try.underlying4) (fun _ => hR156) <|WB_gy (i := 31) rfl (by kernel_rfl) rfl rfl rfl (Y_pick_t (.bool (!((decide (y124 < y101)) == (decide (x175 < x179))))) rfl rfl) (fun _ => hR156) <|WB_y (i := 32) rfl (by kernel_rfl) rfl (Y_pick_f (.bool (!((decide (y124 < y101)) == (decide (x175 < x179))))) rfl rfl) (fun _ => hR156) ?_
 refine WB_done (by kernel_rfl) (nm_then ?_)
 exact ⟨M143, (!((decide (y124 < y101)) == (decide (x175 < x179)))), hF153, hS, hT139_11, hT139_12, hT139_15, hT139_63, hT139_72, hT139_73, rfl, hz⟩
 refine WB_s (i := 20) (j := 19) rfl (by kernel_rfl) rfl rfl rfl rfl (fun _ => hR156) <|WB_s (i := 21) (j := 19) rfl (by kernel_rfl) rfl rfl rfl rfl (fun _ => hR156) <|WB_s (i := 22) (j := 19) rfl (by kernel_rfl) rfl rfl rfl rfl (fun _ => hR156) <|WB_s (i := 23) (j := 19) rfl (by kernel_rfl) rfl rfl rfl rfl (fun _ => hR156) <|WB_s (i := 24) (j := 19) rfl (by kernel_rfl) rfl rfl rfl rfl (fun _ => hR156) <|WB_s (i := 25) (j := 19) rfl (by kernel_rfl) rfl rfl rfl rfl (fun _ => hR156) <|WB_s (i := 26) (j := 19) rfl (by kernel_rfl) rfl rfl rfl rfl (fun _ => hR156) <|WB_s (i := 27) (j := 19) rfl (by kernel_rfl) rfl rfl rfl rfl (fun _ => hR156) <|WB_s (i := 28) (j := 19) rfl (by kernel_rfl) rfl rfl rfl rfl (fun _ => hR156) <|WB_s (i := 29) (j := 19) rfl (by kernel_rfl) rfl rfl rfl rfl (fun _ => hR156) <|WB_s (i := 30) (j := 19) rfl (by kernel_rfl) rfl rfl rfl rfl (fun _ => hR156) <|WB_gy (i := 31) rfl (by kernel_rfl) rfl rfl rfl (Y_pick_f (.bool false) rfl rfl) (fun _ => hR156) <|WB_y (i := 32) rfl (by kernel_rfl) rfl (Y_pick_f (.bool false) rfl rfl) (fun _ => hR156) ?_
 refine WB_done (by kernel_rfl) (nm_then ?_)
 exact ⟨M143, false, hF153, hS, hT139_11, hT139_12, hT139_15, hT139_63, hT139_72, hT139_73, rfl, hz⟩
 refine WB_s (i := 8) (j := 7) rfl (by kernel_rfl) rfl rfl rfl rfl (fun _ => hR156) <|WB_s (i := 9) (j := 7) rfl (by kernel_rfl) rfl rfl rfl rfl (fun _ => hR156) <|WB_s (i := 10) (j := 7) rfl (by kernel_rfl) rfl rfl rfl rfl (fun _ => hR156) <|WB_s (i := 11) (j := 7) rfl (by kernel_rfl) rfl rfl rfl rfl (fun _ => hR156) <|WB_s (i := 12) (j := 7) rfl (by kernel_rfl) rfl rfl rfl rfl (fun _ => hR156) <|WB_s (i := 13) (j := 7) rfl (by kernel_rfl) rfl rfl rfl rfl (fun _ => hR156) <|WB_s (i := 14) (j := 7) rfl (by kernel_rfl) rfl rfl rfl rfl (fun _ => hR156) <|WB_gy (i := 15) rfl (by kernel_rfl) rfl rfl rfl (Y_pick_f (.bool false) rfl rfl) (fun _ => hR156) <|WB_y (i := 16) rfl (by kernel_rfl) rfl (Y_pick_f (.bool false) rfl rfl) (fun _ => hR156) <|WB_y (i := 17) rfl (by kernel_rfl) rfl (Y_move (.bool false) rfl) (fun _ => hR156) <|WB_gy (i := 18) rfl (by kernel_rfl) rfl rfl rfl (Y_move (.bool x145) rfl) (fun _ => hR156) <|WB_gy (i := 19) rfl (by kernel_rfl) rfl rfl rfl (Y_move (.bool x145) rfl) (fun _ => hR156) ?_
 rcases ic hz with ⟨hc181, hz⟩ | ⟨hc181, hz⟩ <;> rw [hc181]
 refine WB_gy (i := 20) rfl (by kernel_rfl) rfl rfl rfl (Y_move (.int .i64 y124) hT139_16) (fun _ => hR156) <|WB_gy (i := 21) rfl (by kernel_rfl) rfl rfl rfl (Y_move (.int .i64 y101) hT139_15) (fun _ => hR156) <|WB_gy (i := 22) rfl (by kernel_rfl) rfl rfl rfl (Y_lss rfl rfl) (fun _ => hR156) <|WB_gy (i := 23) rfl (by kernel_rfl) rfl rfl rfl (Y_move (.int .i64 y124) hT139_16) (fun _ => hR156) ?_
 obtain ⟨u173, hx174, hz⟩ := bind_ok hz
 obtain ⟨hx174a, hx174b⟩ := inR_some hx174
 refine WB_gy (i := 24) rfl (by kernel_rfl) rfl rfl rfl (Y_ixA ia66 hT139_12 rfl hx174a hx174b) (fun _ => hR156) ?_
 obtain ⟨x175, hx176, hz⟩ := bind_ok hz
 refine WB_gld (i := 25) rfl (by kernel_rfl) rfl (inL_lt rfl) (by kernel_rfl) (by kernel_rfl) rfl rfl (Y_ld1 (.int .i64 x175) ts3 rfl (bvR 0 rfl) (vp (k := 1) rfl rfl (rep_root (k := 32) rfl hb78) hx176)) hR156 <|WB_gy (i := 26) rfl (by kernel_rfl) rfl rfl rfl (Y_move (.int .i64 y101) hT139_15) (fun _ => hR156) ?_
 obtain ⟨u177, hx178, hz⟩ := bind_ok hz
 obtain ⟨hx178a, hx178b⟩ := inR_some hx178
 refine WB_gy (i := 27) rfl (by kernel_rfl) rfl rfl rfl (Y_ixA ia66 hT139_12 rfl hx178a hx178b) (fun _ => hR156) ?_
 obtain ⟨x179, hx180, hz⟩ := bind_ok hz
 refine WB_gld (i := 28) rfl (by kernel_rfl) rfl (inL_lt rfl) (by kernel_rfl) (by kernel_rfl) rfl rfl (Y_ld1 (.int .i64 x179) ts3 rfl (bvR 0 rfl) (vp (k := 1) rfl rfl (rep_root (k := 32) rfl hb78) hx180)) hR156 <|WB_gy (i := 29) rfl (by kernel_rfl) rfl rfl rfl (Y_lss rfl rfl) (fun _ => hR156) <|WB_gy (i := 30) rfl (by kernel_rfl) rfl rfl rfl (Y_neB rfl rfl Try.underlying4) (fun _ => hR156) <|WB_gy (i := 31) rfl (by kernel_rfl) rfl rfl rfl (Y_pick_t (.bool (!((decide (y124 < y101)) == (decide (x175 < x179))))) rfl rfl) (fun _ => hR156) <|WB_y (i := 32) rfl (by kernel_rfl) rfl (Y_pick_f (.bool (!((decide (y124 < y101)) == (decide (x175 < x179))))) rfl rfl) (fun _ => hR156) ?_
 refine WB_done (by kernel_rfl) (nm_then ?_)
 exact ⟨M143, (!((decide (y124 < y101)) == (decide (x175 < x179)))), hF153, hS, hT139_11, hT139_12, hT139_15, hT139_63, hT139_72, hT139_73, rfl, hz⟩
 refine WB_s (i := 20) (j := 19) rfl (by kernel_rfl) rfl rfl rfl rfl (fun _ => hR156) <|WB_s (i := 21) (j := 19) rfl (by kernel_rfl) rfl rfl rfl rfl (fun _ => hR156) <|WB_s (i := 22) (j := 19) rfl (by kernel_rfl) rfl rfl rfl rfl (fun _ => hR156) <|WB_s (i := 23) (j := 19) rfl (by kernel_rfl) rfl rfl rfl rfl (fun _ => hR156) <|WB_s (i := 24) (j := 19) rfl (by kernel_rfl) rfl rfl rfl rfl (fun _ => hR156) <|WB_s (i := 25) (j := 19) rfl (by kernel_rfl) rfl rfl rfl rfl (fun _ => hR156) <|WB_s (i := 26) (j := 19) rfl (by kernel_rfl) rfl rfl rfl rfl (fun _ => hR156) <|WB_s (i := 27) (j := 19) rfl (by kernel_rfl) rfl rfl rfl rfl (fun _ => hR156) <|WB_s (i := 28) (j := 19) rfl (by kernel_rfl) rfl rfl rfl rfl (fun _ => hR156) <|WB_s (i := 29) (j := 19) rfl (by kernel_rfl) rfl rfl rfl rfl (fun _ => hR156) <|WB_s (i := 30) (j := 19) rfl (by kernel_rfl) rfl rfl rfl rfl (fun _ => hR156) <|WB_gy (i := 31) rfl (by kernel_rfl) rfl rfl rfl (Y_pick_f (.bool false) rfl rfl) (fun _ => hR156) <|WB_y (i := 32) rfl (by kernel_rfl) rfl (Y_pick_f (.bool false) rfl rfl) (fun _ => hR156) ?_
 refine WB_done (by kernel_rfl) (nm_then ?_)
 exact ⟨M143, false, hF153, hS, hT139_11, hT139_12, hT139_15, hT139_63, hT139_72, hT139_73, rfl, hz⟩
 rintro T149 w147 ⟨M148, c150, hx151, hS, hT149_11, hT149_12, hT149_15, hT149_63, hT149_72, hT149_73, hT149_121, hz⟩
 replace hb11 := Rep.mono hx151.1 hb11
 replace hb69 := Rep.mono hx151.1 hb69
 replace hb78 := Rep.mono hx151.1 hb78
 replace f119 := Rep.mono hx151.1 f119
 replace hE := Mm.ext.trans hE hx151
 replace hF16 := Mm.ext.trans hF16 hx151
 replace hF55 := Mm.ext.trans hF55 hx151
 replace hF83 := Mm.ext.trans hF83 hx151
 replace hF104 := Mm.ext.trans hF104 hx151
 replace hF111 := Mm.ext.trans hF111 hx151
 replace hF127 := Mm.ext.trans hF127 hx151
 replace hF134 := Mm.ext.trans hF134 hx151
 rw [nodeSorted_j7] at hz
 refine W_cond hT149_121 (fun hc152 => ?_) (fun hc152 => ?_)
 replace hz := bif_ok_t hz hc152
 refine W_seq <|W_reg <|WL_y (Y_assign (.bool false) rfl) ?_
 refine WL_nil (nm_then ?_)
 cases hz
 exact W_ret (rt_blk (rt_then (rt_then (rt_blk (rt_blk (rt_then (rt_then (rt_blk (rt_then (R_t1 rfl rfl ⟨rfl, (St.dropB (St.dropB (St.dropB hS hb72) hb67) hb7).kept⟩))))))))))
 replace hz := bif_ok_f hz hc152
 refine W_skip (nm_blk ?_)
 refine (nm_then ?_)
 exact ⟨M148, hF134, hS, hT149_11, hT149_12, hT149_15, hT149_63, hT149_72, hT149_73, hz⟩
 rintro T132 w130 ⟨M131, hx133, hS, hT132_11, hT132_12, hT132_15, hT132_63, hT132_72, hT132_73, hz⟩
 replace hb11 := Rep.mono hx133.1 hb11
 replace hb69 := Rep.mono hx133.1 hb69
 replace hb78 := Rep.mono hx133.1 hb78
 replace f119 := Rep.mono hx133.1 f119
 replace hE := Mm.ext.trans hE hx133
 replace hF16 := Mm.ext.trans hF16 hx133
 replace hF55 := Mm.ext.trans hF55 hx133
 replace hF83 := Mm.ext.trans hF83 hx133
 replace hF104 := Mm.ext.trans hF104 hx133
 replace hF111 := Mm.ext.trans hF111 hx133
 replace hF127 := Mm.ext.trans hF127 hx133
 rw [nodeSorted_j5] at hz
 refine W_reg <|WL_y (Y_add hT132_73 rfl) <|WL_y (Y_move (.int .i64 (IntKind.wrap .i64 (y124 + 1))) rfl) ?_
 refine WL_nil (nm_then ?_)
 exact ⟨M131, (IntKind.wrap .i64 (y124 + 1)), hF127, hS, hT132_11, hT132_12, hT132_15, hT132_63, hT132_72, rfl, (by rw [← hrec125]; exact hz)⟩
 replace hz := bif_ok_f hz hc129
 refine W_exit <|ex_then <|ex_then <|ex_hit ?_
 refine (nm_blk ?_)
 refine (nm_then ?_)
 exact ⟨M122, hF111, hS, hT123_11, hT123_12, hT123_63, hz⟩
 rintro T109 w107 ⟨M108, hx110, hS, hT109_11, hT109_12, hT109_63, hz⟩
 replace hb11 := Rep.mono hx110.1 hb11
 replace hb69 := Rep.mono hx110.1 hb69
 replace hb78 := Rep.mono hx110.1 hb78
 replace hE := Mm.ext.trans hE hx110
 replace hF16 := Mm.ext.trans hF16 hx110
 replace hF55 := Mm.ext.trans hF55 hx110
 replace hF83 := Mm.ext.trans hF83 hx110
 replace hF104 := Mm.ext.trans hF104 hx110
 rw [nodeSorted_j4] at hz
 refine W_reg <|WL_y (Y_add hT109_63 rfl) <|WL_y (Y_move (.int .i64 (IntKind.wrap .i64 (y101 + 1))) rfl) ?_
 refine WL_nil (nm_then ?_)
 exact ⟨M108, (IntKind.wrap .i64 (y101 + 1)), hF104, hS, hT109_11, hT109_12, rfl, (by rw [← hrec102]; exact hz)⟩
 replace hz := bif_ok_f hz hc106
 refine W_exit <|ex_then <|ex_then <|ex_hit ?_
 refine (nm_then ?_)
 refine W_seq <|W_reg ?_
 obtain ⟨r193, hr192, hz⟩ := bind_ok hz
 refine WL_c (O_val (vs := []) (v := .bool r193) cb25 args0 hS (keepTakes_ok hS.agree hr192) ?_)
 intro w191 hS
 refine WL_y (Y_assign (.bool r193) rfl) ?_
 refine WL_nil (nm_then ?_)
 cases hz
 exact W_ret (R_t1 rfl rfl ⟨rfl, (St.dropB (St.dropB (St.dropB hS hb72) hb67) hb7).kept⟩)
 rintro T20 w18 ⟨M19, hx21, hS, hT20_0, hT20_1, hT20_5, hT20_6, hz⟩
 replace hvx2 := repL.mono hx21.1 hvx2
 replace hb11 := Rep.mono hx21.1 hb11
 replace hE := Mm.ext.trans hE hx21
 replace hF16 := Mm.ext.trans hF16 hx21
 rw [nodeSorted_j1] at hz
 refine W_seqJ (fun T' w' => ∃ M23 cs25 d26, Mm.ext w.heap.size noX M19 M23 ∧ St w noX M23 [.box b7 cs25 48] w' ∧ rep M23 cs25 d26 ∧ T' 0 = .int .i64 r5 ∧ T' 1 = vx2 ∧ T' 5 = .pointer (some ⟨b7, 0, none⟩) ∧ T' 6 = .int .i64 y13 ∧ nodeSorted_j2 y13 rec14 d26 = some r) ?_ ?_
 have hF28 := Mm.ext.refl w.heap.size noX M19
 refine W_block <|W_seq <|W_reg <|WL_y (Y_move (vx2) hT20_1) <|WL_y (Y_move (.int .i64 y13) hT20_6) ?_
 obtain ⟨x30, hx29, hz⟩ := bind_ok hz
 obtain ⟨b29, o29, c29, p29, hv29, hi29, hj29, hM29, hr29⟩ := repL_at hvx2 hx29
 replace hr29 : rep _ (sl p29 (o29 + Int.toNat y13 * 7) 7) x30 := hr29
 refine WL_y (Y_ixL il25 rfl hv29 rfl hi29 hj29) ?_
 have ha31 := hr29
 refine WL_y (Y_ldn ta38 rfl (hS.bvM hM29) (Rep.len ha31)) ?_
 refine WL_c (O_alloc tz38 hS ?_)
 intro b33 w32 hb33 hS
 replace hS : St w noX M19 [.box b33 (Zr.zc GFrame) 38, .box b7 cs11 48] w32 := hS
 have zb33 : rep M19 (Zr.zc GFrame) (Zr.zd : GFrame) := Zr.zr
 have hw35 : ((sl p29 (o29 + Int.toNat y13 * 7) 7) : List Value).length = 7 := Rep.len ha31
 have hl35 : ((Zr.zc GFrame)).length = 7 := Rep.len zb33
 obtain ⟨d36, hd35, hz⟩ := bind_ok hz
 have hb35 : rep M19 (pt (Zr.zc GFrame) (0) (sl p29 (o29 + Int.toNat y13 * 7) 7)) d36 := rep_eq (rep_whole (k := 7) (by rw [pt_length (by omega)]; exact hl35) (rep_leaf rfl ha31 (by omega))) hd35
 generalize hg35 : (pt (Zr.zc GFrame) (0) (sl p29 (o29 + Int.toNat y13 * 7) 7)) = cs35 at hb35
 refine WL_c (O_st (j := 0) (v := .agg (sl p29 (o29 + Int.toNat y13 * 7) 7).toArray) (ws := (sl p29 (o29 + Int.toNat y13 * 7) 7)) hS rfl (by kernel_rfl) rfl rfl rfl hw35 (Rep.one ha31) (by omega) ?_)
 rw [hg35]
 clear hg35
 intro w34 hS
 replace hS : St w noX M19 [.box b33 cs35 38, .box b7 cs11 48] w34 := hS
 refine WL_nil (nm_then ?_)
 refine W_seq <|W_reg <|WL_y (Y_move (.int .i64 r5) hT20_0) <|WL_y (Y_fa fa38_1 rfl) ?_
 have hw38 : ([.int .i64 r5] : List Value).length = 1 := Rep.len (show rep M19 [Value.int .i64 r5] (r5 : Int) from rfl)
 have hl38 : (cs35).length = 7 := Rep.len hb35
 obtain ⟨d39, hd38, hz⟩ := bind_ok hz
 have hb38 : rep M19 (pt cs35 (0 + 1) [.int .i64 r5]) d39 := rep_eq (rep_whole (k := 7) (by rw [pt_length (by omega)]; exact hl38) (GFrame.s1 (rep_root (k := 7) rfl hb35) (rep_leaf rfl (show rep M19 [Value.int .i64 r5] (r5 : Int) from rfl) (by omega)) (by omega) (by omega) (by omega))) hd38
 generalize hg38 : (pt cs35 (0 + 1) [.int .i64 r5]) = cs38 at hb38
 refine WL_c (O_st (j := 0) (v := .int .i64 r5) (ws := [.int .i64 r5]) hS rfl (by kernel_rfl) rfl rfl rfl hw38 (Rep.one (show rep M19 [Value.int .i64 r5] (r5 : Int) from rfl)) (by omega) ?_)
 rw [hg38]
 clear hg38
 intro w37 hS
 replace hS : St w noX M19 [.box b33 cs38 38, .box b7 cs11 48] w37 := hS
 refine WL_nil (nm_then ?_)
 refine W_seq <|W_reg ?_
 have ha40 := (rep_root (k := 201) rfl hb11)
 refine WL_y (Y_ldn ta48 hT20_5 (hS.bvB 1 rfl) (Rep.len ha40)) <|WL_y (Y_move (.int .i64 r5) hT20_0) ?_
 have ha41 := (rep_root (k := 7) rfl hb38)
 refine WL_y (Y_ldn ta38 rfl (hS.bvB 0 rfl) (Rep.len ha41)) ?_
 obtain ⟨r44, hr43, hz⟩ := bind_ok hz
 refine WL_c (O_mem (vs := [.agg (sl cs11 (0) 201).toArray, .int .i64 r5, .agg (sl cs38 (0) 7).toArray]) (rv := (fun M' u => ∃ c0 v1, u = .tuple #[.agg c0.toArray, v1, .int .i64 r44.2.2] ∧ rep M' c0 r44.1 ∧ repL M' v1 r44.2.1)) cb17 (args3 rfl rfl rfl) hS (nodeTake_ok hS.agree ha40 ha41 hr43) ?_)
 intro u43 M43 w42 hx43 hu43 hS
 obtain ⟨c43_0, v43_1, hq43, f43_0, f43_1⟩ := hu43
 subst hq43
 replace hvx2 := repL.mono hx43.1 hvx2
 replace hb11 := Rep.mono hx43.1 hb11
 replace hb38 := Rep.mono hx43.1 hb38
 replace ha40 := Rep.mono hx43.1 ha40
 replace ha41 := Rep.mono hx43.1 ha41
 replace hE := Mm.ext.trans hE hx43
 replace hF16 := Mm.ext.trans hF16 hx43
 replace hF28 := Mm.ext.trans hF28 hx43
 refine WL_y (Y_move (.tuple #[.agg c43_0.toArray, v43_1, .int .i64 r44.2.2]) rfl) <|WL_y (Y_extract (v := .agg c43_0.toArray) rfl rfl) <|WL_y (Y_extract (v := v43_1) rfl rfl) <|WL_y (Y_extract (v := .int .i64 r44.2.2) rfl rfl) ?_
 refine WL_c (O_alloc tz48 hS ?_)
 intro b46 w45 hb46 hS
 replace hS : St w noX M43 [.box b46 (Zr.zc GNode) 48, .box b33 cs38 38, .box b7 cs11 48] w45 := hS
 have zb46 : rep M43 (Zr.zc GNode) (Zr.zd : GNode) := Zr.zr
 have hw48 : (c43_0 : List Value).length = 201 := Rep.len f43_0
 have hl48 : ((Zr.zc GNode)).length = 201 := Rep.len zb46
 obtain ⟨d49, hd48, hz⟩ := bind_ok hz
 have hb48 : rep M43 (pt (Zr.zc GNode) (0) c43_0) d49 := rep_eq (rep_whole (k := 201) (by rw [pt_length (by omega)]; exact hl48) (rep_leaf rfl f43_0 (by omega))) hd48
 generalize hg48 : (pt (Zr.zc GNode) (0) c43_0) = cs48 at hb48
 refine WL_c (O_st (j := 0) (v := .agg c43_0.toArray) (ws := c43_0) hS rfl (by kernel_rfl) rfl rfl rfl hw48 (Rep.one f43_0) (by omega) ?_)
 rw [hg48]
 clear hg48
 intro w47 hS
 replace hS : St w noX M43 [.box b46 cs48 48, .box b33 cs38 38, .box b7 cs11 48] w47 := hS
 refine WL_d 2 rfl ?_
 refine WL_nil (nm_then ?_)
 refine W_seq <|W_reg <|WL_y (Y_move (.int .i64 r44.2.2) rfl) <|WL_y (Y_eql rfl rfl) ?_
 refine WL_nil (nm_then ?_)
 refine W_cond rfl (fun hc50 => ?_) (fun hc50 => ?_)
 replace hz := bif_ok_t hz hc50
 refine W_reg ?_
 have ha51 := (rep_root (k := 201) rfl hb48)
 refine WL_y (Y_ldn ta48 rfl (hS.bvB 0 rfl) (Rep.len ha51)) ?_
 have hw53 : ((sl cs48 (0) 201) : List Value).length = 201 := Rep.len ha51
 have hl53 : (cs11).length = 201 := Rep.len hb11
 obtain ⟨d54, hd53, hz⟩ := bind_ok hz
 have hb53 : rep M43 (pt cs11 (0) (sl cs48 (0) 201)) d54 := rep_eq (rep_whole (k := 201) (by rw [pt_length (by omega)]; exact hl53) (rep_leaf rfl ha51 (by omega))) hd53
 generalize hg53 : (pt cs11 (0) (sl cs48 (0) 201)) = cs53 at hb53
 refine WL_c (O_st (j := 2) (v := .agg (sl cs48 (0) 201).toArray) (ws := (sl cs48 (0) 201)) hS rfl (by kernel_rfl) hT20_5 rfl rfl hw53 (Rep.one ha51) (by omega) ?_)
 rw [hg53]
 clear hg53
 intro w52 hS
 replace hS : St w noX M43 [.box b46 cs48 48, .box b33 cs38 38, .box b7 cs53 48] w52 := hS
 refine WL_nil (nm_blk ?_)
 refine (nm_then ?_)
 exact ⟨M43, cs53, d54, hF28, (St.dropB (St.dropB hS hb46) hb33), hb53, hT20_0, hT20_1, hT20_5, hT20_6, hz⟩
 replace hz := bif_ok_f hz hc50
 refine W_skip (nm_blk ?_)
 refine (nm_then ?_)
 exact ⟨M43, cs11, d12, hF28, (St.dropB (St.dropB hS hb46) hb33), hb11, hT20_0, hT20_1, hT20_5, hT20_6, hz⟩
 rintro T24 w22 ⟨M23, cs25, d26, hx27, hS, hb25, hT24_0, hT24_1, hT24_5, hT24_6, hz⟩
 replace hvx2 := repL.mono hx27.1 hvx2
 replace hE := Mm.ext.trans hE hx27
 replace hF16 := Mm.ext.trans hF16 hx27
 rw [nodeSorted_j2] at hz
 refine W_reg <|WL_y (Y_move (.int .i64 y13) hT24_6) <|WL_y (Y_add rfl rfl) <|WL_y (Y_assign (.int .i64 (IntKind.wrap .i64 (y13 + 1))) rfl) ?_
 refine WL_nil (nm_then ?_)
 exact ⟨M23, cs25, d26, (IntKind.wrap .i64 (y13 + 1)), hF16, hS, hb25, hT24_0, hT24_1, hT24_5, rfl, (by rw [← hrec14]; exact hz)⟩
end Go.Proofs.Ytopgdemmdcipcaa
namespace Go.Proofs.Ytopgdemmdcipcaa
open Go.RowKit
open Rep (rep)
theorem keepTakesD_eq {fu : Nat} (hfu : 120 ≤ fu) : keepTakesD fu = some true := by
  unfold keepTakesD
  rw [some_bind, some_bind, some_bind]
  have h : nodeTakeD fu { entries := Zr.zd, order := Zr.zd, values := Zr.zd } 3 { kind := 3, node := 3, id := 4, ops := [{ kind := 2, key := 1, n := 9 }], deps := Zr.zd, at_ := Zr.zd, vals := Zr.zd } = some (takeN zeroN 3 f9) := nodeTakeD_eq zero_good.sizes (by omega) hfu
  rw [h, some_bind, takeN_f9, some_bind]
  have h4 : eat (commN zeroN f9 1).entries 4 = commE zeroN f9 1 := by
    show eat ((Zr.zd : Vector GEntry 32).setIfInBounds 4 _) 4 = _
    rw [eat_setI (by omega), if_pos rfl]
  have hv : idxV (oneZ (commN zeroN f9 1) 4 1).values 1 = some 9 := by
    unfold oneZ
    rw [h4]
    decide +kernel
  have ha : (answers 1 3 4 (oneZ (commN zeroN f9 1) 4 1)).length = 2 := by
    have h5 : eat (oneZ (commN zeroN f9 1) 4 1).entries 4 = doneE (commE zeroN f9 1) [0] [9] := by
      unfold oneZ
      rw [eat_setI (by omega), if_pos rfl, h4]
      rfl
    unfold answers
    rw [show (4 : Int).toNat = 4 from rfl, h5]
    rfl
  rw [ha, hv]
  rfl
theorem takeN_no {s : GNode} {who : Int} {f : GFrame} (h : (takeN s who f).2.2 ≠ 0) : (takeN s who f).1 = s ∧ (takeN s who f).2.1 = [] := by
  unfold takeN at *
  cases hc : (goodN s && (decide (0 ≤ who ∧ who < 6) && f.node == who))
  · exact ⟨rfl, rfl⟩
  · rw [hc, cond_true] at h
    rw [cond_true]
    cases hz : (frameZ f == 0)
    · exact ⟨rfl, rfl⟩
    · rw [hz, cond_true] at h
      rw [cond_true]
      unfold takeK at *
      cases h1 : (f.kind == 1)
      · rw [h1, cond_false] at h
        cases h3 : (f.kind == 3)
        · exact ⟨rfl, rfl⟩
        · rw [h3, cond_true] at h
          exact absurd rfl h
      · rw [h1, cond_true] at h
        cases ht : touchesZ f.ops (ofZ who)
        · exact ⟨rfl, rfl⟩
        · rw [ht, cond_true] at h
          exact absurd rfl h
theorem takeN_of {s : GNode} {who : Int} {f : GFrame} (hs : GoodN s) (hw : 0 ≤ who ∧ who < 6) (hn : f.node = who) (hz : frameZ f = 0) : takeN s who f = takeK s who f := by
  unfold takeN
  rw [goodN_iff.2 hs, hz, dec_t hw, hn]
  simp
theorem takeK_ask {s : GNode} {who : Int} {f : GFrame} (h1 : f.kind = 1) (ht : touchesZ f.ops (ofZ who) = true) : takeK s who f = (askN s f (ofZ who), [toldF who f.id (eat (askN s f (ofZ who)).entries f.id.toNat).first], 0) := by
  unfold takeK
  rw [bif_t (by simp [h1]), ht]
  rfl
theorem takeK_commit {s : GNode} {who : Int} {f : GFrame} (h3 : f.kind = 3) : takeK s who f = (commitN s f (ofZ who), answers (ofZ who) who f.id (commitN s f (ofZ who)), 0) := by
  unfold takeK
  rw [bif_f (by simp [h3]), bif_t (by simp [h3])]
theorem takeN_ok {s : GNode} {who : Int} {f : GFrame} (h : (takeN s who f).2.2 = 0) : GoodN s ∧ (0 ≤ who ∧ who < 6) ∧ f.node = who ∧ frameZ f = 0 ∧ ((f.kind = 1 ∧ touchesZ f.ops (ofZ who) = true) ∨ f.kind = 3) := by
  unfold takeN at h
  cases hc : (goodN s && (decide (0 ≤ who ∧ who < 6) && f.node == who))
  · rw [hc] at h
    exact absurd (show (2 : Int) = 0 from h) (by decide)
  · rw [hc, cond_true] at h
    simp only [Bool.and_eq_true, decide_eq_true_eq, beq_iff_eq] at hc
    cases hz : (frameZ f == 0)
    · rw [hz] at h
      have h : frameZ f = 0 := h
      rw [h] at hz
      cases hz
    · rw [hz, cond_true] at h
      refine ⟨goodN_iff.1 hc.1, hc.2.1, hc.2.2, by simpa using hz, ?_⟩
      unfold takeK at h
      cases h1 : (f.kind == 1)
      · rw [h1, cond_false] at h
        cases h3 : (f.kind == 3)
        · rw [h3] at h
          exact absurd (show (3 : Int) = 0 from h) (by decide)
        · exact .inr (by simpa using h3)
      · rw [h1, cond_true] at h
        cases ht : touchesZ f.ops (ofZ who)
        · rw [ht] at h
          exact absurd (show (4 : Int) = 0 from h) (by decide)
        · exact .inl ⟨by simpa using h1, rfl⟩
structure Ex (s t : GNode) : Prop where
  ent : ∀ k, k < 32 → eat t.entries k = eat s.entries k ∨ ((eat s.entries k).state = 2 ∧ ∃ a b, eat t.entries k = doneE (eat s.entries k) a b)
  order : ∃ L, t.order = s.order ++ L
theorem Ex.refl (s : GNode) : Ex s s := ⟨fun _ _ => .inl rfl, [], by simp⟩
theorem Ex.trans {s t u : GNode} (h : Ex s t) (k : Ex t u) : Ex s u := by
  refine ⟨fun j hj => ?_, ?_⟩
  · rcases h.ent j hj with e | ⟨e2, a, b, e⟩
    · rcases k.ent j hj with e' | ⟨e2', a, b, e'⟩
      · exact .inl (e'.trans e)
      · rw [e] at e2' e'
        exact .inr ⟨e2', a, b, e'⟩
    · rcases k.ent j hj with e' | ⟨e2', _⟩
      · exact .inr ⟨e2, a, b, e'.trans e⟩
      · rw [e] at e2'
        exact absurd (show (3 : Int) = 2 from e2') (by decide)
  · obtain ⟨L, h1⟩ := h.order
    obtain ⟨L', h2⟩ := k.order
    exact ⟨L ++ L', by rw [h2, h1, List.append_assoc]⟩
theorem Ex.one {s : GNode} {n : Nat} (hn : n < 32) (h2 : (eat s.entries n).state = 2) (sh : Int) : Ex s (oneZ s n sh) := by
  refine ⟨fun k hk => ?_, _, rfl⟩
  show eat (s.entries.setIfInBounds n _) k = _ ∨ _ ∧ ∃ a b, eat (s.entries.setIfInBounds n _) k = _
  rw [eat_setI hn]
  by_cases e : n = k
  · subst e
    rw [if_pos rfl]
    exact .inr ⟨h2, _, _, rfl⟩
  · rw [if_neg e]
    exact .inl rfl
theorem Ex.step {s : GNode} {m : Nat} (hm : m < 32) (sh : Int) : Ex s (stepZ sh s m) := by
  unfold stepZ
  cases h2 : ((eat s.entries m).state == 2)
  · exact .refl s
  · exact .one hm (by simpa using h2) sh
theorem Ex.run (sh : Int) : ∀ (l : List Nat) (s : GNode), (∀ m ∈ l, m < 32) → Ex s (runZ sh s l)
  | [], s, _ => .refl s
  | m :: t, _, hl => (Ex.step (hl m List.mem_cons_self) sh).trans (Ex.run sh t _ fun x hx => hl x (List.mem_cons_of_mem _ hx))
theorem Ex.turn {s : GNode} {n : Nat} (hn : n < 32) (g : GGraph) (sh : Int) : Ex s (turnZ g sh s n) := by
  unfold turnZ
  cases ((eat s.entries n).state == 2)
  · exact .refl s
  · exact Ex.run sh _ s (ordL_lt hn)
theorem Ex.turns (g : GGraph) (sh : Int) : ∀ (l : List Nat) (s : GNode), (∀ m ∈ l, m < 32) → Ex s (l.foldl (turnZ g sh) s)
  | [], s, _ => .refl s
  | m :: t, _, hl => (Ex.turn (hl m List.mem_cons_self) g sh).trans (Ex.turns g sh t _ fun x hx => hl x (List.mem_cons_of_mem _ hx))
theorem Ex.exec (s : GNode) (sh : Int) : Ex s (execZ s sh) := Ex.turns _ sh _ s fun m hm => List.mem_range.1 hm
structure Kp (x y : GEntry) : Prop where
  state : x.state ≤ y.state
  first : x.state ≠ 0 → x.first = y.first
  body : 2 ≤ x.state → x.deps = y.deps ∧ x.ops = y.ops
  done : x.state = 3 → x = y
theorem Kp.refl (x : GEntry) : Kp x x := ⟨Int.le_refl _, fun _ => rfl, fun _ => ⟨rfl, rfl⟩, fun _ => rfl⟩
theorem Kp.trans {x y z : GEntry} (h0 : 0 ≤ x.state) (h : Kp x y) (k : Kp y z) : Kp x z := by
  have h1 := h.state
  refine ⟨Int.le_trans h.state k.state, fun hx => (h.first hx).trans (k.first (by omega)), fun hx => ?_, fun hx => ?_⟩
  · obtain ⟨a, b⟩ := h.body hx
    obtain ⟨c, d⟩ := k.body (by omega)
    exact ⟨a.trans c, b.trans d⟩
  · have e := h.done hx
    rw [e]
    exact k.done (by rw [← e]; exact hx)
structure KeepN (s t : GNode) : Prop where
  ent : ∀ k, k < 32 → Kp (eat s.entries k) (eat t.entries k)
  order : ∃ L, t.order = s.order ++ L
theorem KeepN.refl (s : GNode) : KeepN s s := ⟨fun _ _ => .refl _, [], by simp⟩
theorem takeN_good {s : GNode} {who : Int} {f : GFrame} (h : (takeN s who f).2.2 = 0) : GoodN (takeN s who f).1 := by
  obtain ⟨hs, hw, hn, hz, hk⟩ := takeN_ok h
  rw [takeN_of hs hw hn hz]
  rcases hk with ⟨h1, ht⟩ | h3
  · rw [takeK_ask h1 ht]; exact hs.asked hz h1 _
  · rw [takeK_commit h3]; exact hs.commit hz h3 _
end Go.Proofs.Ytopgdemmdcipcaa
namespace Go.Proofs.Ytopgdemmdcipcaa
open Go.RowKit
open Rep (rep)
def Rb (P : Nat → Nat → Bool) (a b : Nat) : Prop := P a b = true → P b a = true ∧ a < b
theorem ringO_pw {P : Nat → Nat → Bool} (hP : Pre P) (c : Nat) : (ringO P c).Pairwise (Rb P) := by
  have h : (ringO P c).Pairwise (· < ·) := List.Pairwise.filter _ List.pairwise_lt_range
  refine h.imp_of_mem fun {a b} ha hb hab => fun _ => ⟨?_, hab⟩
  exact hP.trans _ _ _ (mem_ringO.1 hb).2.2 (mem_ringO.1 ha).2.1
theorem orderF_pw {P : Nat → Nat → Bool} {n : Nat} (hP : Pre P) (hn : n < 32) : ∀ (k : Nat) (out : List Nat), OKO P n out → out.Pairwise (Rb P) → (orderF P n k out).Pairwise (Rb P)
  | 0, out, _, hb => hb
  | k + 1, out, h, hb => by
    unfold orderF
    cases hc : nextO P n out with
    | none => exact hb
    | some c =>
      refine orderF_pw hP hn k _ (h.step hP hn hc) ?_
      obtain ⟨hc32, hcand, _⟩ := nextO_some hc
      rw [candO_iff] at hcand
      refine List.pairwise_append.2 ⟨hb, ringO_pw hP c, fun a ha b hb hab => ?_⟩
      exact absurd (h.dc b (h.dc a ha b hab) c (mem_ringO.1 hb).2.2) hcand.2.1
theorem orderS_pw {P : Nat → Nat → Bool} {n : Nat} (hP : Pre P) (hn : n < 32) : (orderS P n).Pairwise (Rb P) := orderF_pw hP hn 32 [] OKO.nil .nil
structure Srt (s : GNode) : Prop where
  clo : ∀ n : Nat, (n : Int) ∈ s.order → ∀ d, pathB (graphZ s) n d = true → (d : Int) ∈ s.order
  ord : s.order.Pairwise (fun a b => Rb (pathB (graphZ s)) a.toNat b.toNat)
theorem path_eq {E E' : Nat → Nat → Prop} {S : Nat → Prop} (hS : ∀ a b, S a → E a b → S b) (hE : ∀ a b, S a → (E a b ↔ E' a b)) {n d : Nat} (hn : S n) : Path E n d ↔ Path E' n d := by
  constructor
  · intro h
    have : Path E' n d ∧ S d := by
      induction h with
      | refl => exact ⟨.refl n, hn⟩
      | tail _ e ih => exact ⟨.tail ih.1 ((hE _ _ ih.2).1 e), hS _ _ ih.2 e⟩
    exact this.1
  · intro h
    have : Path E n d ∧ S d := by
      induction h with
      | refl => exact ⟨.refl n, hn⟩
      | tail _ e ih =>
        have e' := (hE _ _ ih.2).2 e
        exact ⟨.tail ih.1 e', hS _ _ ih.2 e'⟩
    exact this.1
theorem Srt.of {s t : GNode} (h : Srt s) (hg : GoodN s) (ho : t.order = s.order) (hent : ∀ k : Nat, k < 32 → (k : Int) ∈ s.order → eat t.entries k = eat s.entries k) : Srt t := by
  have hE : ∀ a b, ((a : Nat) : Int) ∈ s.order → (Edge (graphZ s) a b ↔ Edge (graphZ t) a b) := fun a b ha => by
    unfold Edge
    by_cases h32 : a < 32
    · rw [bat_graphZ h32, bat_graphZ h32, depsAt_graphZ h32, depsAt_graphZ h32, hent a h32 ha]
    · exact ⟨fun e => absurd e.1 h32, fun e => absurd e.1 h32⟩
  have hS : ∀ a b, ((a : Nat) : Int) ∈ s.order → Edge (graphZ s) a b → ((b : Nat) : Int) ∈ s.order := fun a b ha e => h.clo a ha b (pathB_iff.2 (.one e))
  have hp : ∀ n d, ((n : Nat) : Int) ∈ s.order → pathB (graphZ t) n d = pathB (graphZ s) n d := fun n d hn => by
    rw [Bool.eq_iff_iff, pathB_iff, pathB_iff]
    exact (path_eq (S := fun k => ((k : Nat) : Int) ∈ s.order) hS hE hn).symm
  refine ⟨fun n hn d hd => ?_, ?_⟩
  · rw [ho] at hn ⊢
    rw [hp n d hn] at hd
    exact h.clo n hn d hd
  · rw [ho]
    refine h.ord.imp_of_mem fun {a b} ha hb hab => ?_
    have ha0 := (hg.inr a ha).1
    have hb0 := (hg.inr b hb).1
    have ha' : ((a.toNat : Nat) : Int) ∈ s.order := by rw [Int.toNat_of_nonneg ha0]; exact ha
    have hb' : ((b.toNat : Nat) : Int) ∈ s.order := by rw [Int.toNat_of_nonneg hb0]; exact hb
    unfold Rb at *
    rw [hp _ _ ha', hp _ _ hb']
    exact hab
theorem Ex.graph {s t : GNode} (h : Ex s t) : graphZ t = graphZ s := by
  have e1 : (fun k : Fin 32 => decide ((eat t.entries k.val).state ≥ 2)) = fun k : Fin 32 => decide ((eat s.entries k.val).state ≥ 2) := funext fun k => by
    rcases h.ent k.val k.isLt with e | ⟨e2, a, b, e⟩
    · rw [e]
    · rw [e, e2]
      rfl
  have e2 : (fun k : Fin 32 => (eat t.entries k.val).deps) = fun k : Fin 32 => (eat s.entries k.val).deps := funext fun k => by
    rcases h.ent k.val k.isLt with e | ⟨e2, a, b, e⟩
    · rw [e]
    · rw [e]
      rfl
  unfold graphZ
  rw [e1, e2]
def openL (s : GNode) (l : List Nat) : List Nat := l.filter fun m => (eat s.entries m).state == 2
theorem run_order (sh : Int) : ∀ (l : List Nat) (s : GNode), l.Nodup → (∀ m ∈ l, m < 32) → (runZ sh s l).order = s.order ++ castL (openL s l)
  | [], s, _, _ => by simp [runZ, openL, castL]
  | m :: t, s, hn, hl => by
    have hm := hl m List.mem_cons_self
    obtain ⟨hnm, hnt⟩ := List.nodup_cons.1 hn
    have ih := run_order sh t (stepZ sh s m) hnt fun x hx => hl x (List.mem_cons_of_mem _ hx)
    show (runZ sh (stepZ sh s m) t).order = _
    rw [ih]
    unfold stepZ openL
    cases h2 : ((eat s.entries m).state == 2)
    · rw [cond_false, List.filter_cons_of_neg (by simp [h2])]
    · rw [cond_true, List.filter_cons_of_pos (by simp [h2])]
      have hf : t.filter (fun x => (eat (oneZ s m sh).entries x).state == 2) = t.filter fun x => (eat s.entries x).state == 2 := by
        refine List.filter_congr fun x hx => ?_
        have hxm : m ≠ x := fun e => hnm (by rw [e]; exact hx)
        show ((eat (s.entries.setIfInBounds m _) x).state == 2) = _
        rw [eat_setI hm, if_neg hxm]
      rw [hf]
      show (s.order ++ [(m : Int)]) ++ _ = _
      rw [List.append_assoc]
      rfl
theorem Srt.turn {s : GNode} (hg : GoodN s) (h : Srt s) {n : Nat} (hn : n < 32) (sh : Int) : Srt (turnZ (graphZ s) sh s n) := by
  unfold turnZ
  cases h2 : ((eat s.entries n).state == 2)
  · exact h
  rw [cond_true]
  by_cases hr : readyZ (graphZ s) (n : Int) = true
  · have hl : ordL (graphZ s) n = orderS (pathB (graphZ s)) n := by rw [ordL, if_pos hr]
    have hP := pathB_pre (graphZ s)
    have hok := orderS_ok hP hn
    have hkn := readyZ_known hn hr
    rw [hl]
    have ho := run_order sh (orderS (pathB (graphZ s)) n) s hok.nodup hok.lt
    have hgr := (Ex.run sh (orderS (pathB (graphZ s)) n) s hok.lt).graph
    have hmem : ∀ k : Nat, (k : Int) ∈ castL (openL s (orderS (pathB (graphZ s)) n)) ↔ k ∈ orderS (pathB (graphZ s)) n ∧ (eat s.entries k).state = 2 := fun k => by
      rw [mem_castL, openL, List.mem_filter]
      simp
    refine ⟨fun k hk d hd => ?_, ?_⟩
    · rw [hgr] at hd
      rw [ho] at hk ⊢
      rcases List.mem_append.1 hk with hk | hk
      · exact List.mem_append_left _ (h.clo k hk d hd)
      · have hk := ((hmem k).1 hk).1
        have hnk := (orderS_mem hP hn k).1 hk
        have hnd := hP.trans _ _ _ hnk hd
        have hd32 := hP.lt n d hn hnd
        have hb := hkn d hnd
        rw [bat_graphZ hd32, decide_eq_true_eq] at hb
        have hst := hg.state hd32
        by_cases h3 : (eat s.entries d).state = 3
        · exact List.mem_append_left _ ((hg.done hd32).1 h3)
        · exact List.mem_append_right _ ((hmem d).2 ⟨(orderS_mem hP hn d).2 hnd, by omega⟩)
    · rw [hgr, ho]
      refine List.pairwise_append.2 ⟨h.ord, ?_, fun a ha b hb => ?_⟩
      · unfold castL
        rw [List.pairwise_map]
        simp only [Int.toNat_natCast]
        exact (orderS_pw hP hn).filter _
      · obtain ⟨m, _, rfl⟩ := List.mem_map.1 hb
        have hb2 := ((hmem m).1 hb).2
        have hb32 := hok.lt m ((hmem m).1 hb).1
        have ha0 := (hg.inr a ha).1
        intro hab
        rw [Int.toNat_natCast] at hab
        have hin := h.clo a.toNat (by rw [Int.toNat_of_nonneg ha0]; exact ha) m hab
        have := (hg.done hb32).2 hin
        omega
  · have hl : ordL (graphZ s) n = [] := by rw [ordL, if_neg hr]
    rw [hl]
    exact h
theorem Srt.turns (sh : Int) {g : GGraph} (l : List Nat) : ∀ {s : GNode}, GoodN s → Srt s → graphZ s = g → (∀ m ∈ l, m < 32) → Srt (l.foldl (turnZ g sh) s) := by
  induction l with
  | nil => intro s _ h _ _; exact h
  | cons m t ih =>
    intro s hg h he hl
    have hm := hl m List.mem_cons_self
    rw [List.foldl_cons]
    refine ih (hg.turn hm g sh) ?_ ((Ex.turn hm g sh).graph.trans he) fun x hx => hl x (List.mem_cons_of_mem _ hx)
    rw [← he]
    exact h.turn hg hm sh
theorem Srt.exec {s : GNode} (hg : GoodN s) (h : Srt s) (sh : Int) : Srt (execZ s sh) := Srt.turns sh _ hg h rfl fun m hm => List.mem_range.1 hm
theorem not_done {s : GNode} (hg : GoodN s) {k : Nat} (hk : k < 32) (hin : (k : Int) ∈ s.order) {n : Nat} (hn : (eat s.entries n).state ≠ 3) : n ≠ k := by
  rintro rfl
  exact hn ((hg.done hk).2 hin)
theorem Srt.take {s : GNode} (h : Srt s) {who : Int} {f : GFrame} : Srt (takeN s who f).1 := by
  by_cases h0 : (takeN s who f).2.2 = 0
  · obtain ⟨hs, hw, hn, hz, hk⟩ := takeN_ok h0
    obtain ⟨_, _, hf⟩ := frameZ_in hz
    have hid : f.id.toNat < 32 := by omega
    rw [takeN_of hs hw hn hz]
    rcases hk with ⟨h1, ht⟩ | h3
    · rw [takeK_ask h1 ht]
      show Srt (askN s f (ofZ who))
      unfold askN
      cases hst : ((eat s.entries f.id.toNat).state == 0)
      · exact h
      · have hst : (eat s.entries f.id.toNat).state = 0 := by simpa using hst
        refine h.of hs rfl fun k hk hin => ?_
        show eat (s.entries.setIfInBounds _ _) k = _
        rw [eat_setI hid, if_neg (not_done hs hk hin (by omega))]
    · rw [takeK_commit h3]
      show Srt (commitN s f (ofZ who))
      unfold commitN
      by_cases h2 : (eat s.entries f.id.toNat).state < 2
      · rw [bif_t (dec_t h2)]
        refine Srt.exec (hs.comm hz h3 h2 _) (h.of hs rfl fun k hk hin => ?_) _
        show eat (s.entries.setIfInBounds _ _) k = _
        rw [eat_setI hid, if_neg (not_done hs hk hin (by omega))]
      · rw [bif_f (dec_f h2)]; exact h
  · rw [(takeN_no h0).1]; exact h
theorem zero_srt : Srt zeroN := ⟨fun n hn _ _ => absurd (show (n : Int) ∈ ([] : List Int) from hn) List.not_mem_nil, (List.Pairwise.nil : List.Pairwise _ ([] : List Int))⟩
def AtOf (s : GNode) (k : Nat) (v : Vector Int 32) : Prop := ∀ m, m < 32 → (iat v m = 0 ∧ ((m : Nat) : Int) ∉ s.order.take k) ∨ ∃ i, i < k ∧ s.order[i]? = some ((m : Nat) : Int) ∧ iat v m = (i : Int) + 1
theorem nodeSorted_j6_eq {fu : Nat} {s : GNode} {v : Vector Int 32} (hg : GoodN s) (h : Srt s) (hv : AtOf s s.order.length v) (hfu : 120 ≤ fu) {k d : Nat} (hk : k < 32) (hd : d < 32) (hkd : d ≠ k) (hin : (k : Int) ∈ s.order) (hp : pathB (graphZ s) k d = true) {rec : Int → Option Bool} :
    nodeSorted_j6 fu (graphZ s) v k d rec = nodeSorted_j5 d rec := by
  have hdin := h.clo k hin d hp
  have hpos : ∀ m : Nat, m < 32 → (m : Int) ∈ s.order → ∃ i : Nat, s.order[i]? = some (m : Int) ∧ iat v m = (i : Int) + 1 := fun m hm hmin => by
    rcases hv m hm with ⟨_, e⟩ | ⟨i, _, e1, e2⟩
    · rw [List.take_of_length_le (Nat.le_refl _)] at e
      exact absurd hmin e
    · exact ⟨i, e1, e2⟩
  obtain ⟨i, hi, hiv⟩ := hpos d hd hdin
  obtain ⟨j, hj, hjv⟩ := hpos k hk hin
  have hij : i ≠ j := by
    rintro rfl
    rw [hi] at hj
    exact hkd (by have := Option.some.inj hj; omega)
  obtain ⟨hil, hi'⟩ := List.getElem?_eq_some_iff.1 hi
  obtain ⟨hjl, hj'⟩ := List.getElem?_eq_some_iff.1 hj
  have hpw := List.pairwise_iff_getElem.1 h.ord
  have hR : reachZ (graphZ s) ((d : Nat) : Int) = reachV (graphZ s) d := by unfold reachZ; rw [if_pos (by omega), Int.toNat_natCast]
  have hb : idxV (reachV (graphZ s) d) ((k : Nat) : Int) = some (pathB (graphZ s) d k) := by
    rw [idxB hk]
    exact congrArg some (by rw [Bool.eq_iff_iff, bat_reachV hk, pathB_iff])
  unfold nodeSorted_j6 nodeSorted_j7
  rw [reachD_eq hg.small (by omega), hR, some_bind, hb, some_bind, inR_ok (by omega) (by omega), some_bind, idxI hd, some_bind, inR_ok (n := 32) (j := ((k : Nat) : Int)) (by omega) (by omega), idxI hk, hiv, hjv, bif_f (by simp; omega)]
  simp only [some_bind]
  cases hbk : pathB (graphZ s) d k
  · have hlt : i < j := by
      rcases Nat.lt_or_ge i j with hlt | hge
      · exact hlt
      · have := hpw j i hjl hil (by omega)
        rw [hi', hj'] at this
        unfold Rb at this
        simp only [Int.toNat_natCast] at this
        rw [hbk] at this
        have := (this hp).1
        cases this
    rw [Bool.not_false, cond_true, dec_f (by omega), cond_false, cond_false]
    rfl
  · rw [Bool.not_true, cond_false, cond_true]
    have : (decide (((d : Nat) : Int) < ((k : Nat) : Int)) == decide ((i : Int) + 1 < (j : Int) + 1)) = true := by
      rcases Nat.lt_or_ge i j with hlt | hge
      · have := hpw i j hil hjl hlt
        rw [hi', hj'] at this
        unfold Rb at this
        simp only [Int.toNat_natCast] at this
        have := (this hbk).2
        rw [dec_t (by omega), dec_t (by omega)]
        rfl
      · have := hpw j i hjl hil (by omega)
        rw [hi', hj'] at this
        unfold Rb at this
        simp only [Int.toNat_natCast] at this
        have := (this hp).2
        rw [dec_f (by omega), dec_f (by omega)]
        rfl
    rw [this]
    rfl
theorem nodeSorted_l4_eq {fu : Nat} {s : GNode} {v : Vector Int 32} (hg : GoodN s) (h : Srt s) (hv : AtOf s s.order.length v) (hfu : 120 ≤ fu) {k : Nat} (hk : k < 32) (hin : (k : Int) ∈ s.order) {rec : Int → Option Bool} : ∀ (n m d : Nat), d + m = 32 → m < n → nodeSorted_l4 fu (graphZ s) v k rec (reachV (graphZ s) k) n d = nodeSorted_j4 k rec
  | 0, m, d, _, h => absurd h (by omega)
  | n + 1, 0, d, hd, _ => by rw [nodeSorted_l4, bif_f (dec_f (by omega))]
  | n + 1, m + 1, d, hd, hn => by
    have hd32 : d < 32 := by omega
    have ih := nodeSorted_l4_eq hg h hv hfu hk hin (rec := rec) n m (d + 1) (by omega) (by omega)
    have hnext : nodeSorted_j5 d (nodeSorted_l4 fu (graphZ s) v k rec (reachV (graphZ s) k) n) = nodeSorted_j4 k rec := by
      rw [nodeSorted_j5, wrs d (by omega)]
      exact ih
    rw [nodeSorted_l4, bif_t (dec_t (by omega)), idxB hd32, some_bind]
    unfold nodeSorted_j8
    cases hb : bat (reachV (graphZ s) k) d
    · rw [Bool.not_false, cond_true, cond_true]
      exact hnext
    · rw [Bool.not_true, cond_false]
      by_cases e : d = k
      · rw [bif_t (by simp [e])]
        exact hnext
      · rw [bif_f (by simp; omega), nodeSorted_j6_eq hg h hv hfu hk hd32 e hin (pathB_iff.2 ((bat_reachV hd32).1 hb))]
        exact hnext
theorem nodeSorted_l3_eq {fu : Nat} {s : GNode} {v : Vector Int 32} (hg : GoodN s) (h : Srt s) (hv : AtOf s s.order.length v) (hfu : 120 ≤ fu) : ∀ (n m k : Nat), k + m = 32 → m < n → nodeSorted_l3 fu (graphZ s) v n k = some true
  | 0, m, k, _, h => absurd h (by omega)
  | n + 1, 0, k, hk, _ => by rw [nodeSorted_l3, bif_f (dec_f (by omega)), keepTakesD_eq (by omega), some_bind]
  | n + 1, m + 1, k, hk, hn => by
    have hk32 : k < 32 := by omega
    have ih := nodeSorted_l3_eq hg h hv hfu n m (k + 1) (by omega) (by omega)
    have hnext : nodeSorted_j4 k (nodeSorted_l3 fu (graphZ s) v n) = some true := by
      rw [nodeSorted_j4, wrs k (by omega)]
      exact ih
    rw [nodeSorted_l3, bif_t (dec_t (by omega)), inR_ok (by omega) (by omega), some_bind, idxI hk32, some_bind]
    rcases hv k hk32 with ⟨e, _⟩ | ⟨i, _, e1, e2⟩
    · rw [bif_t (by simp [e])]
      exact hnext
    · have hR : reachZ (graphZ s) ((k : Nat) : Int) = reachV (graphZ s) k := by unfold reachZ; rw [if_pos (by omega), Int.toNat_natCast]
      rw [bif_f (by rw [e2]; simp; omega), reachD_eq hg.small (by omega), some_bind, hR]
      have hl := nodeSorted_l4_eq hg h hv hfu hk32 (List.mem_of_getElem? e1) (rec := nodeSorted_l3 fu (graphZ s) v n) fu 32 0 (by omega) (by omega)
      exact hl.trans hnext
theorem nodeSorted_l2_eq {fu : Nat} {s : GNode} (hg : GoodN s) (h : Srt s) (hfu : 120 ≤ fu) : ∀ (n m k : Nat) (v : Vector Int 32), s.order.length = k + m → m < n → AtOf s k v → nodeSorted_l2 fu s (graphZ s) n v k = some true
  | 0, m, k, _, _, h, _ => absurd h (by omega)
  | n + 1, 0, k, v, hk, _, hv => by
    rw [nodeSorted_l2, bif_f (dec_f (by omega))]
    exact nodeSorted_l3_eq hg h (by rw [hk]; exact hv) hfu fu 32 0 (by omega) (by omega)
  | n + 1, m + 1, k, v, hk, hn, hv => by
    have hlt : k < s.order.length := by omega
    have hx : s.order[k]? = some s.order[k] := List.getElem?_eq_getElem hlt
    have hr := hg.inr _ (List.getElem_mem hlt)
    have hlen := hg.len
    have hnd := hg.nodup
    obtain ⟨x, hxx⟩ : ∃ x : Nat, s.order[k] = (x : Int) := ⟨s.order[k].toNat, by omega⟩
    rw [hxx] at hx hr
    have hx32 : x < 32 := by omega
    rw [nodeSorted_l2, bif_t (dec_t (by omega)), idx_nat, hx, some_bind, inR_ok (by omega) (by omega), some_bind, idxI hx32, some_bind, setV_ok hx32, some_bind, some_bind, wrs k (by omega)]
    refine nodeSorted_l2_eq hg h hfu n m (k + 1) _ (by omega) (by omega) fun j hj => ?_
    rw [iat_set hx32]
    by_cases e : x = j
    · subst e
      rw [if_pos rfl]
      exact .inr ⟨k, by omega, hx, by omega⟩
    · rw [if_neg e]
      rcases hv j hj with ⟨e1, e2⟩ | ⟨i, hi, e1, e2⟩
      · refine .inl ⟨e1, ?_⟩
        rw [List.take_add_one, hx]
        intro hm
        rcases List.mem_append.1 hm with hm | hm
        · exact e2 hm
        · have := List.mem_singleton.1 (show ((j : Nat) : Int) ∈ [((x : Nat) : Int)] from hm)
          omega
      · exact .inr ⟨i, by omega, e1, e2⟩
theorem nodeSorted_l1_eq {fu : Nat} {l : List GFrame} {who : Int} (hfu : 120 ≤ fu) : ∀ (n m k : Nat) (s : GNode), k + m = 40 → m < n → GoodN s → Srt s → nodeSorted_l1 fu l who n s k = some true := by
  have hend : ∀ (s : GNode) (k : Int) (rec : GNode → Int → Option Bool), GoodN s → Srt s → nodeSorted_j3 fu l who s k rec false = some true := fun s k rec hg h => by
    unfold nodeSorted_j3
    rw [cond_false, nodeGraphD_eq (by omega), some_bind, some_bind]
    exact nodeSorted_l2_eq hg h hfu fu s.order.length 0 _ (by omega) (by have := hg.len; omega) fun m hm => .inl ⟨iat_zero m, by simp⟩
  intro n
  induction n with
  | zero => intro m k s _ h; omega
  | succ n ih =>
    intro m k s hk hn hg h
    rw [nodeSorted_l1]
    by_cases hl : (k : Int) < (l.length : Int)
    · rw [bif_t (dec_t hl)]
      by_cases h40 : (k : Int) < 40
      · obtain ⟨m', rfl⟩ : ∃ m', m = m' + 1 := ⟨m - 1, by omega⟩
        have hlt : k < l.length := by omega
        rw [dec_t h40, nodeSorted_j3, cond_true, nodeSorted_j1, idx_nat, List.getElem?_eq_getElem hlt, some_bind, some_bind, some_bind, nodeTakeD_eq hg.sizes (by omega) (by omega), some_bind, some_bind]
        generalize hf : ({ l[k] with node := who } : GFrame) = f
        unfold nodeSorted_j2
        rw [wrs k (by omega)]
        by_cases h0 : (takeN s who f).2.2 = 0
        · rw [bif_t (by simp [h0]), some_bind]
          exact ih m' (k + 1) _ (by omega) (by omega) (takeN_good h0) h.take
        · rw [bif_f (by simpa using h0)]
          exact ih m' (k + 1) _ (by omega) (by omega) hg h
      · rw [dec_f h40]
        exact hend s k _ hg h
    · rw [bif_f (dec_f hl)]
      exact hend s k _ hg h
theorem nodeSortedD_eq {fu : Nat} {l : List GFrame} {x : Int} (hfu : 120 ≤ fu) : nodeSortedD fu x l = some true := by
  unfold nodeSortedD
  obtain ⟨k, hk, _⟩ := pick_range (x := x) (n := 6) (by omega) (by omega) (fu := fu)
  rw [hk, some_bind]
  exact nodeSorted_l1_eq hfu fu 40 0 zeroN (by omega) (by omega) zero_good zero_srt
end Go.Proofs.Ytopgdemmdcipcaa
namespace Go.Proofs.Ytopgdemmdcipcaa
open Go.RowKit
open Rep (rep)
theorem op3 : Opn Try.prog 3 Int := opn_int Try.underlying3 (by kernel_rfl)
theorem op78 : Opn Try.prog 78 GOp := ⟨by kernel_rfl, fun H enc w fuel cs d p h hw => by
  have hl : cs.length = 3 := by obtain ⟨_, _, _, _, hl, _⟩ := DataW.trod_struct Try.underlying78 h; rw [hl]; kernel_rfl
  obtain ⟨x0, h0⟩ := opn_field (α := Int) (o := 0) (k := 1) Try.underlying78 h hw 0 _ rfl rfl rfl (by kernel_rfl) op3
  obtain ⟨x1, h1⟩ := opn_field (α := Int) (o := 1) (k := 1) Try.underlying78 h hw 1 _ rfl rfl rfl (by kernel_rfl) op3
  obtain ⟨x2, h2⟩ := opn_field (α := Int) (o := 2) (k := 1) Try.underlying78 h hw 2 _ rfl rfl rfl (by kernel_rfl) op3
  exact ⟨⟨x0, x1, x2⟩, GOp.fol ⟨hl, h0, h1, h2⟩⟩⟩
theorem op22 : Opn Try.prog 22 (List (GOp)) := opn_slice Try.underlying22 (by kernel_rfl) op78 (by decide) (by kernel_rfl)
theorem op27 : Opn Try.prog 27 (List (Int)) := opn_slice Try.underlying27 (by kernel_rfl) op3 (by decide) (by kernel_rfl)
theorem op38 : Opn Try.prog 38 GFrame := ⟨by kernel_rfl, fun H enc w fuel cs d p h hw => by
  have hl : cs.length = 7 := by obtain ⟨_, _, _, _, hl, _⟩ := DataW.trod_struct Try.underlying38 h; rw [hl]; kernel_rfl
  obtain ⟨x0, h0⟩ := opn_field (α := Int) (o := 0) (k := 1) Try.underlying38 h hw 0 _ rfl rfl rfl (by kernel_rfl) op3
  obtain ⟨x1, h1⟩ := opn_field (α := Int) (o := 1) (k := 1) Try.underlying38 h hw 1 _ rfl rfl rfl (by kernel_rfl) op3
  obtain ⟨x2, h2⟩ := opn_field (α := Int) (o := 2) (k := 1) Try.underlying38 h hw 2 _ rfl rfl rfl (by kernel_rfl) op3
  obtain ⟨x3, h3⟩ := opn_field (α := List (GOp)) (o := 3) (k := 1) Try.underlying38 h hw 3 _ rfl rfl rfl (by kernel_rfl) op22
  obtain ⟨x4, h4⟩ := opn_field (α := List (Int)) (o := 4) (k := 1) Try.underlying38 h hw 4 _ rfl rfl rfl (by kernel_rfl) op27
  obtain ⟨x5, h5⟩ := opn_field (α := List (Int)) (o := 5) (k := 1) Try.underlying38 h hw 5 _ rfl rfl rfl (by kernel_rfl) op27
  obtain ⟨x6, h6⟩ := opn_field (α := List (Int)) (o := 6) (k := 1) Try.underlying38 h hw 6 _ rfl rfl rfl (by kernel_rfl) op27
  exact ⟨⟨x0, x1, x2, x3, x4, x5, x6⟩, GFrame.fol ⟨hl, h0, h1, h2, h3, h4, h5, h6⟩⟩⟩
theorem op25 : Opn Try.prog 25 (List (GFrame)) := opn_slice Try.underlying25 (by kernel_rfl) op38 (by decide) (by kernel_rfl)
end Go.Proofs.Ytopgdemmdcipcaa
