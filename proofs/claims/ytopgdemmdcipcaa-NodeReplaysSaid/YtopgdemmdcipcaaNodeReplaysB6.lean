/- What the proof of NodeReplays rests on, part 6: rules of walks, what functions compute, and plain laws of it. -/
import Derived.Test.YtopgdemmdcipcaaNodeReplaysB5
import Derived.ProofKit
import Derived.OpenShut
import Derived.ShutString
import Derived.ChangeOld
import Derived.SizedLaws
import Derived.Deep.Slices
namespace Go.Proofs.Ytopgdemmdcipcaa
open Go.RowKit
open Rep (rep)
def iat (v : Vector Int 32) (k : Nat) : Int := v[k]?.getD 0
theorem idxI {v : Vector Int 32} {k : Nat} (hk : k < 32) : idxV v (k : Int) = some (iat v k) := by rw [idxV_ok hk]; simp [iat, hk]
theorem iat_set {v : Vector Int 32} {k j : Nat} {x : Int} (hk : k < 32) : iat (v.set k x) j = if k = j then x else iat v j := by
  unfold iat
  by_cases hj : j < 32
  · simp only [Vector.getElem?_set]
    by_cases e : k = j
    · subst e; simp
    · simp [e]
  · have hkj : k ≠ j := by omega
    simp [hj, hkj]
theorem iat_zero (k : Nat) : iat (Zr.zd : Vector Int 32) k = 0 := by
  show iat (Vector.replicate 32 0) k = 0
  unfold iat
  by_cases hk : k < 32 <;> simp [hk]
def DE (g : GGraph) (a b : Nat) : Prop := a < 32 ∧ (b : Int) ∈ depsAt g a ∧ b < 32
structure Abs (x : GSearch) (l : List Int) (t : Srch) : Prop where
  mark : ∀ k, k < 32 → iat x.mark_ k = (t.mark k : Int)
  low : ∀ k, k < 32 → iat x.low k = (t.low k : Int)
  ring : ∀ k, k < 32 → iat x.ring k = (t.ring k : Int)
  on : ∀ k, k < 32 → bat x.on_ k = decide (k ∈ t.stack)
  stack : l = t.stack.map fun k => ((k : Nat) : Int)
  next : x.next = (t.next : Int)
theorem LI.sub {E : Nat → Nat → Prop} {s t : Srch} {G : List Nat} {n : Nat} {ds ds' : Nat → Prop} (h : LI E s G n t ds) (hs : ∀ d, ds' d → ds d) : LI E s G n t ds' :=
  ⟨h.was, h.white, h.inv, h.ext, h.nmark, h.low_le, h.low_or, h.stack, fun d hd => h.proc d (hs d hd)⟩
def VOk (g : GGraph) (fu n : Nat) : Prop := ∀ (x : GSearch) (l : List Int) (t : Srch) (G : List Nat) (m : Nat), x.g = g → Abs x l t → Inv (DE g) t G → t.mark m = 0 → m < 32 → (∀ a ∈ G, Path (DE g) a m) → wh t.mark ≤ n →
  ∃ x' l' t', visit_r fu n x l m = some (x', l') ∧ x'.g = g ∧ Abs x' l' t' ∧ Post (DE g) t t' m G
theorem stack_len {E : Nat → Nat → Prop} {s : Srch} {G : List Nat} (h : Inv E s G) : s.stack.length ≤ 32 := by
  refine nodup_len 32 s.stack ?_ fun x hx => h.lt x (h.pos x hx)
  rw [List.nodup_iff_pairwise_ne]
  refine h.sorted.imp fun {a b} hab => ?_
  rintro rfl
  omega
theorem cast_inj {a b : Nat} (h : (a : Int) = b) : a = b := by omega
theorem visit_l4_eq {l : List Int} {y174 : Int} {r : Nat} (C : List Nat) (hC : ∀ c ∈ C, c < 32) (hlen : C.length ≤ 32) : ∀ (n m k : Nat) (x : GSearch), C.length = k + m → m < n →
    ∃ x' : GSearch, visit_l4 l y174 r (C.map fun c => ((c : Nat) : Int)) n x k = ((cutL l none (some y174)).bind fun l2 => some ({ x' with stack := Hole.mk }, l2)) ∧ x'.g = x.g ∧ x'.mark_ = x.mark_ ∧ x'.low = x.low ∧ x'.next = x.next ∧
      (∀ j, iat x'.ring j = if j ∈ C.drop k then (r : Int) else iat x.ring j) ∧ (∀ j, bat x'.on_ j = if j ∈ C.drop k then false else bat x.on_ j)
  | 0, m, k, x, _, h => absurd h (by omega)
  | n + 1, 0, k, x, hk, _ => by
    refine ⟨x, ?_, rfl, rfl, rfl, rfl, fun j => ?_, fun j => ?_⟩
    · rw [visit_l4, bif_f (dec_f (by simp; omega))]
      rfl
    · rw [List.drop_of_length_le (by omega)]; simp
    · rw [List.drop_of_length_le (by omega)]; simp
  | n + 1, m + 1, k, x, hk, hn => by
    have hlt : k < C.length := by omega
    have hc := hC C[k] (List.getElem_mem _)
    obtain ⟨x', h1, h2, h3, h4, h5, h6, h7⟩ := visit_l4_eq (l := l) (y174 := y174) (r := r) C hC hlen n m (k + 1) { x with ring := x.ring.set C[k] (r : Int), on_ := x.on_.set C[k] false } (by omega) (by omega)
    refine ⟨x', ?_, h2, h3, h4, h5, fun j => ?_, fun j => ?_⟩
    · rw [visit_l4, bif_t (dec_t (by simp; omega)), idx_nat, List.getElem?_map, List.getElem?_eq_getElem hlt]
      simp only [Option.map_some, some_bind, inR_ok (show (0 : Int) ≤ ((C[k] : Nat) : Int) by omega) (show ((C[k] : Nat) : Int) < 32 by omega), idxI hc, idxB hc, setV_ok hc, wrs k (show k ≤ 17592186043904 by omega)]
      exact h1
    · rw [h6 j, List.drop_eq_getElem_cons hlt]
      show (if j ∈ C.drop (k + 1) then (r : Int) else iat (x.ring.set C[k] (r : Int)) j) = _
      rw [iat_set hc]
      simp only [List.mem_cons]
      by_cases e : C[k] = j
      · rw [if_pos e, if_pos (show j = C[k] ∨ j ∈ C.drop (k + 1) from .inl e.symm)]; split <;> rfl
      · have e2 : ¬ j = C[k] := fun h => e h.symm
        rw [if_neg e]
        simp only [e2, false_or]
    · rw [h7 j, List.drop_eq_getElem_cons hlt]
      show (if j ∈ C.drop (k + 1) then false else bat (x.on_.set C[k] false) j) = _
      rw [bat_set hc]
      simp only [List.mem_cons]
      by_cases e : C[k] = j
      · rw [if_pos e, if_pos (show j = C[k] ∨ j ∈ C.drop (k + 1) from .inl e.symm)]; split <;> rfl
      · have e2 : ¬ j = C[k] := fun h => e h.symm
        rw [if_neg e]
        simp only [e2, false_or]
theorem visit_l3_eq {fu : Nat} {x : GSearch} {l l2 : List Int} {y174 : Int} (hcut : cutL l (some y174) none = some l2) (C : List Nat) (hlen : C.length ≤ 32) : ∀ (n m k r : Nat), C.length = k + m → m < n → r ∈ C → (∀ i v, i < k → C[i]? = some v → r ≤ v) →
    ∃ r' : Nat, visit_l3 fu x l y174 (C.map fun c => ((c : Nat) : Int)) n r k = visit_l4 l y174 (r' : Int) l2 fu x 0 ∧ r' ∈ C ∧ ∀ v ∈ C, r' ≤ v
  | 0, m, k, r, _, h, _, _ => absurd h (by omega)
  | n + 1, 0, k, r, hk, _, hr, hmin => by
    refine ⟨r, ?_, hr, fun v hv => ?_⟩
    · rw [visit_l3, bif_f (dec_f (by simp; omega)), hcut, some_bind]
    · obtain ⟨i, hi, rfl⟩ := List.getElem_of_mem hv
      exact hmin i _ (by omega) (List.getElem?_eq_getElem hi)
  | n + 1, m + 1, k, r, hk, hn, hr, hmin => by
    have hlt : k < C.length := by omega
    have hmn : min (r : Int) (C[k] : Int) = ((min r C[k] : Nat) : Int) := by
      by_cases h : r ≤ C[k]
      · rw [Nat.min_eq_left h, Int.min_eq_left (by omega)]
      · rw [Nat.min_eq_right (by omega), Int.min_eq_right (by omega)]
    obtain ⟨r', h1, h2, h3⟩ := visit_l3_eq (fu := fu) (x := x) hcut C hlen n m (k + 1) (min r C[k]) (by omega) (by omega) (by
        by_cases h : r ≤ C[k]
        · rw [Nat.min_eq_left h]; exact hr
        · rw [Nat.min_eq_right (by omega)]; exact List.getElem_mem _) (fun i v hi hv => by
        by_cases e : i = k
        · subst e
          rw [List.getElem?_eq_getElem hlt] at hv
          cases hv
          exact Nat.min_le_right _ _
        · exact Nat.le_trans (Nat.min_le_left _ _) (hmin i v (by omega) hv))
    refine ⟨r', ?_, h2, h3⟩
    rw [visit_l3, bif_t (dec_t (by simp; omega)), idx_nat, List.getElem?_map, List.getElem?_eq_getElem hlt]
    simp only [Option.map_some, some_bind]
    rw [hmn, wrs k (by omega)]
    exact h1
theorem visit_l2_eq {fu : Nat} {x : GSearch} {S : List Nat} {m p : Nat} (hlen : S.length ≤ 32) (hp : S[p]? = some m) (hno : ∀ i, p < i → S[i]? ≠ some m) : ∀ (n d : Nat), d < n → p + d < S.length →
    visit_l2 fu m x (S.map fun c => ((c : Nat) : Int)) n ((p + d : Nat) : Int) = (cutL (S.map fun c => ((c : Nat) : Int)) (some (p : Int)) none).bind fun l2 => visit_l3 fu x (S.map fun c => ((c : Nat) : Int)) p l2 fu m 0
  | 0, d, h, _ => absurd h (by omega)
  | n + 1, 0, _, hd => by
    rw [visit_l2, idx_nat, List.getElem?_map, Nat.add_zero, hp]
    simp only [Option.map_some, some_bind]
    rw [bif_f (by simp)]
  | n + 1, d + 1, hn, hd => by
    have ih := visit_l2_eq (fu := fu) (x := x) hlen hp hno n d (by omega) (by omega)
    have hlt : p + (d + 1) < S.length := hd
    have hne := hno (p + (d + 1)) (by omega)
    rw [List.getElem?_eq_getElem hlt] at hne
    rw [visit_l2, idx_nat, List.getElem?_map, List.getElem?_eq_getElem hlt]
    simp only [Option.map_some, some_bind]
    rw [bif_t (by simp only [bne_iff_ne, ne_eq]; exact fun h => hne (by rw [cast_inj h])), wr64 (by omega) (by omega), show (((p + (d + 1) : Nat) : Int) - 1) = ((p + d : Nat) : Int) from by omega]
    exact ih
theorem cutL_drop {α : Type} {l : List α} {p : Nat} (hp : p ≤ l.length) : cutL l (some (p : Int)) none = some (l.drop p) := by
  unfold cutL cutOk
  simp only [Option.getD_some, Option.getD_none]
  rw [if_pos (by omega)]
  simp
theorem cutL_take {α : Type} {l : List α} {p : Nat} (hp : p ≤ l.length) : cutL l none (some (p : Int)) = some (l.take p) := by
  unfold cutL cutOk
  simp only [Option.getD_some, Option.getD_none]
  rw [if_pos (by omega)]
  simp
theorem visit_end {fu n : Nat} (hfu : 40 ≤ fu) {g : GGraph} {x : GSearch} {l : List Int} {s t : Srch} {G : List Nat} {m : Nat} {ds : Nat → Prop} (hm : m < 32) (hg : x.g = g) (hA : Abs x l t) (h : LI (DE g) s G m t ds) (hall : ∀ d, DE g m d → ds d) {rec0 : GSearch → List Int → Int → Option (GSearch × List Int)} {xs : List Int} {k : Int} (hk : ¬ k < (xs.length : Int)) :
    ∃ x' l' t', visit_l1 fu m rec0 xs (n + 1) x l k = some (x', l') ∧ x'.g = g ∧ Abs x' l' t' ∧ Post (DE g) s t' m G := by
  rw [visit_l1, bif_f (dec_f hk), inR_ok (by omega) (by omega), some_bind, idxI hm, some_bind, some_bind, idxI hm, some_bind, hA.low m hm, hA.mark m hm]
  by_cases hlow : t.low m = t.mark m
  · rw [bif_f (by simp [hlow])]
    obtain ⟨new, hst, hnew⟩ := h.stack
    have hlen := stack_len h.inv
    have hsl : t.stack.length = s.stack.length + (new.length + 1) := by rw [hst]; simp
    have hp : t.stack[s.stack.length]? = some m := by rw [hst]; simp
    have hno : ∀ i, s.stack.length < i → t.stack[i]? ≠ some m := fun i hi he => by
      obtain ⟨h1, h2⟩ := List.getElem?_eq_some_iff.1 he
      obtain ⟨h3, h4⟩ := List.getElem?_eq_some_iff.1 hp
      have := List.pairwise_iff_getElem.1 h.inv.sorted s.stack.length i h3 h1 hi
      rw [h2, h4] at this
      omega
    have hlm : l = t.stack.map fun c => ((c : Nat) : Int) := hA.stack
    subst hlm
    have e1 := visit_l2_eq (fu := fu) (x := x) (S := t.stack) (m := m) (p := s.stack.length) hlen hp hno fu new.length (by omega) (by omega)
    have e0 : IntKind.wrap .i64 (((t.stack.map fun c => ((c : Nat) : Int)).length : Int) - 1) = ((s.stack.length + new.length : Nat) : Int) := by
      rw [List.length_map, wr64 (by omega) (by omega)]; omega
    have hcut : cutL (t.stack.map fun c => ((c : Nat) : Int)) (some (s.stack.length : Int)) none = some ((m :: new).map fun c => ((c : Nat) : Int)) := by
      rw [cutL_drop (by rw [List.length_map]; omega), hst, ← List.map_drop, List.drop_left]
    have hC : ∀ c ∈ m :: new, c < 32 := fun c hc => h.inv.lt c (h.inv.pos c (by rw [hst]; exact List.mem_append_right _ hc))
    have hCl : (m :: new).length ≤ 32 := by rw [List.length_cons]; omega
    rw [e0, e1, hcut, some_bind]
    obtain ⟨r, h3, h4, h5⟩ := visit_l3_eq (fu := fu) (x := x) hcut (m :: new) hCl fu (m :: new).length 0 m (by omega) (by omega) List.mem_cons_self (fun i v hi => by omega)
    have h3 : visit_l3 fu x (t.stack.map fun c => ((c : Nat) : Int)) (s.stack.length : Int) ((m :: new).map fun c => ((c : Nat) : Int)) fu m 0 = _ := h3
    rw [h3]
    obtain ⟨x', k1, k2, k3, k4, k5, k6, k7⟩ := visit_l4_eq (l := t.stack.map fun c => ((c : Nat) : Int)) (y174 := (s.stack.length : Int)) (r := r) (m :: new) hC hCl fu (m :: new).length 0 x (by omega) (by omega)
    have k1 : visit_l4 (t.stack.map fun c => ((c : Nat) : Int)) (s.stack.length : Int) r ((m :: new).map fun c => ((c : Nat) : Int)) fu x 0 = _ := k1
    rw [k1, cutL_take (by rw [List.length_map]; omega), some_bind]
    rw [List.drop_zero] at k6 k7
    refine ⟨_, _, { t with ring := fun v => if v ∈ m :: new then r else t.ring v, stack := s.stack }, rfl, k2.trans hg, ⟨fun j hj => ?_, fun j hj => ?_, fun j hj => ?_, fun j hj => ?_, ?_, ?_⟩, ?_⟩
    · show iat x'.mark_ j = _
      rw [k3]; exact hA.mark j hj
    · show iat x'.low j = _
      rw [k4]; exact hA.low j hj
    · show iat x'.ring j = ((if j ∈ m :: new then r else t.ring j : Nat) : Int)
      rw [k6 j, hA.ring j hj]
      split <;> rfl
    · show bat x'.on_ j = decide (j ∈ s.stack)
      rw [k7 j, hA.on j hj, hst]
      by_cases hj2 : j ∈ m :: new
      · rw [if_pos hj2]
        symm
        rw [decide_eq_false_iff_not]
        intro hs
        have := h.new hst hj2
        have := h.old hs
        omega
      · rw [if_neg hj2]
        congr 1
        rw [List.mem_append]
        simp [hj2]
    · show (t.stack.map fun c => ((c : Nat) : Int)).take s.stack.length = _
      rw [hst, List.map_append, List.take_left' (by simp)]
    · show x'.next = _
      rw [k5]; exact hA.next
    · exact h.pop hall hlow hst (fun v hv => if_pos hv) (fun v hv => if_neg hv) h4 h5
  · rw [bif_t (by simp only [bne_iff_ne, ne_eq]; exact fun e => hlow (cast_inj e))]
    exact ⟨x, l, t, rfl, hg, hA, h.keep hall hlow⟩
theorem visit_l1_eq {fu n N : Nat} {g : GGraph} (hN : Small g N) (hfu : N + 40 ≤ fu) (hV : VOk g fu n) {s : Srch} {G : List Nat} {m : Nat} (hm : m < 32) (hwh : wh s.mark ≤ n + 1) : ∀ (q r k : Nat) (x : GSearch) (l : List Int) (t : Srch), (depsAt g m).length = k + r → r < q → x.g = g → Abs x l t →
    LI (DE g) s G m t (fun d => d < 32 ∧ (d : Int) ∈ (depsAt g m).take k) → ∃ x' l' t', visit_l1 fu m (visit_r fu n) (depsAt g m) q x l k = some (x', l') ∧ x'.g = g ∧ Abs x' l' t' ∧ Post (DE g) s t' m G
  | 0, r, k, x, l, t, _, h, _, _, _ => absurd h (by omega)
  | q + 1, 0, k, x, l, t, hk, _, hg, hA, hL => visit_end (by omega) hm hg hA hL (fun d hd => ⟨hd.2.2, by rw [List.take_of_length_le (by omega)]; exact hd.2.1⟩) (by omega)
  | q + 1, r + 1, k, x, l, t, hk, hq, hg, hA, hL => by
    have hlt : k < (depsAt g m).length := by omega
    have hlen := (hN m).2
    have ih := fun x l t h1 h2 h3 => visit_l1_eq (s := s) (G := G) hN hfu hV hm hwh q r (k + 1) x l t (by omega) (by omega) h1 h2 h3
    have htake : (depsAt g m).take (k + 1) = (depsAt g m).take k ++ [(depsAt g m)[k]] := List.take_succ_eq_append_getElem hlt
    have hmem : (depsAt g m)[k] ∈ depsAt g m := List.getElem_mem _
    rw [visit_l1, bif_t (dec_t (by omega)), idx_nat, List.getElem?_eq_getElem hlt, some_bind]
    simp only [visit_j2, visit_j1, wrs k (by omega)]
    rw [htake] at ih
    generalize (depsAt g m)[k] = y at ih hmem ⊢
    rcases int_cases y with ⟨d, hd, rfl⟩ | hy
    · have hset : ∀ v : Nat, (v < 32 ∧ (v : Int) ∈ (depsAt g m).take k ++ [(d : Int)]) → ((v < 32 ∧ (v : Int) ∈ (depsAt g m).take k) ∨ v = d) := fun v ⟨h1, h2⟩ => by
        rcases List.mem_append.1 h2 with h3 | h3
        · exact .inl ⟨h1, h3⟩
        · exact .inr (cast_inj (by simpa using h3))
      have hE : DE g m d := ⟨hm, hmem, hd⟩
      rw [bif_f (dec_f (by omega)), bif_f (dec_f (by omega)), inR_ok (by omega) (by omega), some_bind, idxI hd, some_bind, hA.mark d hd]
      by_cases h0 : t.mark d = 0
      · rw [bif_t (by simp [h0])]
        have hmm : m ∈ t.stack := by obtain ⟨new, hst, _⟩ := hL.stack; rw [hst]; simp
        have hw2 : wh t.mark ≤ n := by
          have h1 := wh_updN (x := 1) hm hL.white (by omega)
          have h2 : wh t.mark ≤ wh (updN s.mark m 1) := wh_mono fun v hv => by
            by_cases e : v = m
            · subst e; rw [hL.nmark]; omega
            · rw [updN_other _ _ e] at hv
              rw [hL.ext.mark_old v hv]; exact hv
          omega
        obtain ⟨x', l', t', h1, h2, h3, h4⟩ := hV x l t (m :: G) d hg hA hL.inv h0 hd (fun a ha => by
          rcases List.mem_cons.1 ha with rfl | ha
          · exact Path.one hE
          · have h5 := hL.old (hL.was.gray a ha)
            exact (hL.inv.reach a (List.mem_cons_of_mem _ ha) m hmm (by omega)).tail hE) hw2
        rw [h1, some_bind]
        simp only
        simp only [inR_ok (show (0 : Int) ≤ (m : Int) by omega) (show (m : Int) < 32 by omega), idxI hm, idxI hd, setV_ok hm, some_bind]
        have hL2 := (hL.visit h0 hE h4).sub hset
        refine ih _ _ { t' with low := updN t'.low m (min (t'.low m) (t'.low d)) } h2 ⟨h3.mark, fun j hj => ?_, h3.ring, h3.on, h3.stack, h3.next⟩ hL2
        show iat (x'.low.set m _) j = ((updN t'.low m (min (t'.low m) (t'.low d)) j : Nat) : Int)
        rw [iat_set hm, h3.low m hm, h3.low d hd]
        by_cases e : m = j
        · subst e
          rw [if_pos rfl, updN_same]
          by_cases h : t'.low m ≤ t'.low d
          · rw [Nat.min_eq_left h, Int.min_eq_left (by omega)]
          · rw [Nat.min_eq_right (by omega), Int.min_eq_right (by omega)]
        · rw [if_neg e, updN_other _ _ (fun h => e h.symm)]
          exact h3.low j hj
      · rw [bif_f (by simp; omega), some_bind, idxB hd, some_bind, hA.on d hd]
        by_cases hs : d ∈ t.stack
        · rw [bif_t (dec_t hs)]
          simp only [inR_ok (show (0 : Int) ≤ (m : Int) by omega) (show (m : Int) < 32 by omega), idxI hm, setV_ok hm, some_bind]
          have hL2 := (hL.on hs hE).sub hset
          refine ih _ _ { t with low := updN t.low m (min (t.low m) (t.mark d)) } hg ⟨hA.mark, fun j hj => ?_, hA.ring, hA.on, hA.stack, hA.next⟩ hL2
          show iat (x.low.set m _) j = ((updN t.low m (min (t.low m) (t.mark d)) j : Nat) : Int)
          rw [iat_set hm, hA.low m hm]
          by_cases e : m = j
          · subst e
            rw [if_pos rfl, updN_same]
            by_cases h : t.low m ≤ t.mark d
            · rw [Nat.min_eq_left h, Int.min_eq_left (by omega)]
            · rw [Nat.min_eq_right (by omega), Int.min_eq_right (by omega)]
          · rw [if_neg e, updN_other _ _ (fun h => e h.symm)]
            exact hA.low j hj
        · rw [bif_f (dec_f hs)]
          exact ih _ _ _ hg hA ((hL.skip (by omega) hs).sub hset)
    · have hset : ∀ v : Nat, (v < 32 ∧ (v : Int) ∈ (depsAt g m).take k ++ [y]) → (v < 32 ∧ (v : Int) ∈ (depsAt g m).take k) := fun v ⟨h1, h2⟩ => by
        rcases List.mem_append.1 h2 with h3 | h3
        · exact ⟨h1, h3⟩
        · have : (v : Int) = y := by simpa using h3
          exact absurd (show 0 ≤ y ∧ y < 32 by omega) hy
      have := ih x l t hg hA (hL.sub hset)
      by_cases h0 : y < 0
      · rw [bif_t (dec_t h0)]; exact this
      · rw [bif_f (dec_f h0), bif_t (dec_t (by omega))]; exact this
theorem visit_ok_all {fu N : Nat} {g : GGraph} (hN : Small g N) (hfu : N + 40 ≤ fu) : ∀ n, VOk g fu n
  | 0 => fun x l t G m _ _ _ h0 hm _ hw => by
    have := wh_updN (x := 1) hm h0 (by omega)
    omega
  | n + 1 => fun x l t G m hg hA hI h0 hm hG hw => by
    have hc := hI.cnt
    have hw1 := wh_updN (x := 1) hm h0 (by omega)
    have hn : IntKind.wrap .i64 (x.next + 1) = ((t.next + 1 : Nat) : Int) := by rw [hA.next, wr64 (by omega) (by omega)]; omega
    have hsl := stack_len hI
    have hll : l.length = t.stack.length := by rw [hA.stack]; simp
    have hin : inR (m : Int) 32 = some () := inR_ok (by omega) (by omega)
    have happ : app l [(m : Int)] = some (l ++ [(m : Int)]) := app_ok (a := l) (b := [(m : Int)]) (len_bytes (show l.length ≤ 100 by omega))
    rw [visit_r]
    simp only [some_bind, hin, idxI hm, hn, setV_ok hm, happ, idxB hm]
    rw [hg, idxD hm, some_bind]
    have hL := LI.start hI hm h0 hG
    refine visit_l1_eq hN hfu (visit_ok_all hN hfu n) hm hw fu (depsAt g m).length 0 _ _ (startT t m) (by omega) (by have := (hN m).1; omega) rfl ⟨fun j hj => ?_, fun j hj => ?_, hA.ring, fun j hj => ?_, ?_, rfl⟩ (hL.sub fun d hd => by simp at hd)
    · show iat (x.mark_.set m _) j = ((updN t.mark m (t.next + 1) j : Nat) : Int)
      rw [iat_set hm]
      by_cases e : m = j
      · subst e; rw [if_pos rfl, updN_same]
      · rw [if_neg e, updN_other _ _ (fun h => e h.symm)]; exact hA.mark j hj
    · show iat (x.low.set m _) j = ((updN t.low m (t.next + 1) j : Nat) : Int)
      rw [iat_set hm]
      by_cases e : m = j
      · subst e; rw [if_pos rfl, updN_same]
      · rw [if_neg e, updN_other _ _ (fun h => e h.symm)]; exact hA.low j hj
    · show bat (x.on_.set m true) j = decide (j ∈ t.stack ++ [m])
      rw [bat_set hm, hA.on j hj]
      by_cases e : m = j
      · subst e; simp
      · have e2 : ¬ j = m := fun h => e h.symm
        simp [e, e2]
    · show l ++ [(m : Int)] = (t.stack ++ [m]).map _
      rw [hA.stack]; simp
theorem visitD_eq {fu N : Nat} {g : GGraph} (hN : Small g N) (hfu : N + 40 ≤ fu) {m : Nat} (hm : m < 32) : ∃ x' l', visitD fu { g := g, mark_ := Zr.zd, low := Zr.zd, on_ := Zr.zd, stack := Zr.zd, ring := Zr.zd, next := Zr.zd } [] m = some (x', l') ∧ x'.g = g ∧
    (∀ k, k < 32 → (0 < iat x'.mark_ k ↔ Path (DE g) m k)) ∧ (∀ k, k < 32 → 0 ≤ iat x'.mark_ k) ∧ ∀ k, k < 32 → Path (DE g) m k → ∃ r : Nat, iat x'.ring k = r ∧ Least (DE g) k r := by
  let t0 : Srch := ⟨fun _ => 0, fun _ => 0, fun _ => 0, [], 0⟩
  have hI : Inv (DE g) t0 [] := Inv.empty (fun _ => rfl) rfl rfl
  have hw : wh t0.mark ≤ fu := by have := hI.cnt; omega
  obtain ⟨x', l', t', h1, h2, h3, h4⟩ := visit_ok_all hN hfu fu { g := g, mark_ := Zr.zd, low := Zr.zd, on_ := Zr.zd, stack := Zr.zd, ring := Zr.zd, next := Zr.zd } [] t0 [] m rfl
    ⟨fun k _ => iat_zero k, fun k _ => iat_zero k, fun k _ => iat_zero k, fun k _ => by rw [bat_zero]; rfl, rfl, rfl⟩ hI rfl hm (by simp) hw
  obtain ⟨h5, h6⟩ := h4.final fun _ => rfl
  refine ⟨x', l', h1, h2, fun k hk => ?_, fun k hk => ?_, fun k hk hp => ⟨t'.ring k, h3.ring k hk, h6 k hp⟩⟩
  · rw [h3.mark k hk, ← h5 k]; omega
  · rw [h3.mark k hk]; omega
end Go.Proofs.Ytopgdemmdcipcaa
namespace Go.Proofs.Ytopgdemmdcipcaa
open Go.RowKit
open Rep (rep)
open Classical in
noncomputable def pathB (g : GGraph) (a b : Nat) : Bool := decide (Path (Edge g) a b)
theorem pathB_iff {g : GGraph} {a b : Nat} : pathB g a b = true ↔ Path (Edge g) a b := by simp [pathB]
theorem pathB_pre (g : GGraph) : Pre (pathB g) :=
  ⟨fun a _ => pathB_iff.2 (.refl a), fun a b c h1 h2 => pathB_iff.2 ((pathB_iff.1 h1).trans (pathB_iff.1 h2)), fun a b ha h => path_lt (pathB_iff.1 h) ha⟩
noncomputable def orderZ (g : GGraph) (x : Int) : List Int := if readyZ g x = true then (orderS (pathB g) x.toNat).map (fun k => ((k : Nat) : Int)) else []
def castL (l : List Nat) : List Int := l.map fun k => ((k : Nat) : Int)
theorem castL_len (l : List Nat) : (castL l).length = l.length := by simp [castL]
theorem castL_snoc (l : List Nat) (k : Nat) : castL l ++ [(k : Int)] = castL (l ++ [k]) := by simp [castL]
theorem mem_castL {l : List Nat} {k : Nat} : (k : Int) ∈ castL l ↔ k ∈ l := by
  unfold castL
  rw [List.mem_map]
  constructor
  · rintro ⟨a, ha, e⟩
    have : a = k := cast_inj e
    subst this; exact ha
  · exact fun h => ⟨k, h, rfl⟩
theorem hasZ_castL {l : List Nat} {k : Nat} : hasZ (castL l) (k : Int) = decide (k ∈ l) := by
  rw [Bool.eq_iff_iff, decide_eq_true_eq, ← mem_castL]
  unfold hasZ
  simp
structure Rings (g : GGraph) (n : Nat) (x : GSearch) : Prop where
  same : x.g = g
  known : ∀ k, pathB g n k = true → bat g.known k = true
  mark : ∀ k, k < 32 → (0 < iat x.mark_ k ↔ pathB g n k = true)
  nonneg : ∀ k, k < 32 → 0 ≤ iat x.mark_ k
  ring : ∀ k, k < 32 → pathB g n k = true → ∃ r : Nat, iat x.ring k = r ∧ Least (Edge g) k r
theorem path_same {g : GGraph} {n : Nat} (hk : ∀ k, pathB g n k = true → bat g.known k = true) {a b : Nat} (ha : pathB g n a = true) : Path (DE g) a b ↔ Path (Edge g) a b := by
  constructor
  · intro h
    induction h with
    | refl => exact .refl _
    | tail _ e ih => exact ih.tail ⟨e.1, hk _ (pathB_iff.2 ((pathB_iff.1 ha).trans ih)), e.2.1, e.2.2⟩
  · intro h
    induction h with
    | refl => exact .refl _
    | tail _ e ih => exact ih.tail ⟨e.1, e.2.2.1, e.2.2.2⟩
theorem least_uniq {E : Nat → Nat → Prop} {u v r q : Nat} (hr : Least E u r) (hq : Least E v q) (h1 : Path E u v) (h2 : Path E v u) : r = q := by
  have a := hr.2.2 q (h1.trans hq.1) (hq.2.1.trans h2)
  have b := hq.2.2 r (h2.trans hr.1) (hr.2.1.trans h1)
  omega
section
variable {g : GGraph} {n : Nat} {x : GSearch} {out : List Nat} {placed : Vector Bool 32}
theorem Rings.least (h : Rings g n x) (hn : n < 32) {k : Nat} (hk : pathB g n k = true) {r : Nat} (hr : iat x.ring k = r) : Least (Edge g) k r := by
  obtain ⟨q, h1, h2⟩ := h.ring k (path_lt (pathB_iff.1 hk) hn) hk
  rw [hr] at h1
  rw [cast_inj h1]; exact h2
def Free (g : GGraph) (x : GSearch) (y : Int) (placed : Vector Bool 32) (k : Nat) : Prop := ∀ m, k ≤ m → m < 32 → iat x.mark_ m ≠ 0 → iat x.ring m = y → ∀ d : Nat, d < 32 → (d : Int) ∈ depsAt g m → iat x.ring d ≠ y → bat placed d = true
theorem free_l2_eq {y9 : Int} {y : Int} {rec : Int → Option Bool} {ds : List Int} (hds : ds.length ≤ 17592186043904) : ∀ (q r k : Nat), ds.length = k + r → r < q →
    (free_l2 x y placed y9 rec ds q k = rec (IntKind.wrap .i64 (y9 + 1)) ∧ ∀ d : Nat, d < 32 → (d : Int) ∈ ds.drop k → iat x.ring d ≠ y → bat placed d = true) ∨
    (free_l2 x y placed y9 rec ds q k = some false ∧ ∃ d : Nat, d < 32 ∧ (d : Int) ∈ ds.drop k ∧ iat x.ring d ≠ y ∧ bat placed d = false)
  | 0, r, k, _, h => absurd h (by omega)
  | q + 1, 0, k, hk, _ => by
    left
    refine ⟨by rw [free_l2, bif_f (dec_f (by omega))]; rfl, fun d _ hm => ?_⟩
    rw [List.drop_of_length_le (by omega)] at hm; simp at hm
  | q + 1, r + 1, k, hk, hq => by
    have hlt : k < ds.length := by omega
    have ih := free_l2_eq (y9 := y9) (y := y) (rec := rec) hds q r (k + 1) (by omega) (by omega)
    rw [free_l2, bif_t (dec_t (by omega)), idx_nat, List.getElem?_eq_getElem hlt, some_bind, drop_mem hlt]
    simp only [free_j4, free_j3, wrs k (by omega)]
    generalize ds[k] = z
    have more : (∀ d : Nat, d < 32 → z = (d : Int) → iat x.ring d ≠ y → bat placed d = true) →
        (free_l2 x y placed y9 rec ds q ((k + 1 : Nat) : Int) = rec (IntKind.wrap .i64 (y9 + 1)) ∧ ∀ d : Nat, d < 32 → (d : Int) ∈ z :: ds.drop (k + 1) → iat x.ring d ≠ y → bat placed d = true) ∨
        (free_l2 x y placed y9 rec ds q ((k + 1 : Nat) : Int) = some false ∧ ∃ d : Nat, d < 32 ∧ (d : Int) ∈ z :: ds.drop (k + 1) ∧ iat x.ring d ≠ y ∧ bat placed d = false) := fun hz => by
      rcases ih with ⟨h1, h2⟩ | ⟨h1, d, h2, h3, h4, h5⟩
      · refine .inl ⟨h1, fun d hd hm hr => ?_⟩
        rcases List.mem_cons.1 hm with e | hm
        · exact hz d hd e.symm hr
        · exact h2 d hd hm hr
      · exact .inr ⟨h1, d, h2, List.mem_cons_of_mem _ h3, h4, h5⟩
    rcases int_cases z with ⟨d, hd, rfl⟩ | hz
    · rw [bif_t (dec_t (by omega)), bif_t (dec_t (by omega)), inR_ok (by omega) (by omega), some_bind, idxI hd, some_bind]
      by_cases hr : iat x.ring d = y
      · rw [bif_f (by simp [hr])]
        exact more fun c _ e hne => by
          have : d = c := cast_inj e
          subst this
          exact absurd hr hne
      · rw [bif_t (by simp [hr]), some_bind, idxB hd, some_bind]
        cases hp : bat placed d with
        | true =>
          exact more fun c _ e _ => by
            have : d = c := cast_inj e
            subst this
            exact hp
        | false => exact .inr ⟨rfl, d, hd, List.mem_cons_self, hr, hp⟩
    · have := more fun d hd e _ => absurd (show 0 ≤ z ∧ z < 32 by omega) hz
      by_cases h0 : z ≥ 0
      · rw [bif_t (dec_t h0), bif_f (dec_f (by omega))]; exact this
      · rw [bif_f (dec_f h0)]; exact this
theorem free_l1_eq {fu N : Nat} (hN : Small g N) (hfu : N ≤ fu) (hg : x.g = g) {y : Int} : ∀ (q r k : Nat), k + r = 32 → r < q → ∃ b, free_l1 fu x y placed q k = some b ∧ (b = true ↔ Free g x y placed k)
  | 0, r, k, _, h => absurd h (by omega)
  | q + 1, 0, k, hk, _ => ⟨true, by rw [free_l1, bif_f (dec_f (by omega))], by simp only [true_iff]; intro m h1 h2; omega⟩
  | q + 1, r + 1, k, hk, hq => by
    have hk32 : k < 32 := by omega
    obtain ⟨b, h1, h2⟩ := free_l1_eq hN hfu hg q r (k + 1) (by omega) (by omega)
    have step : (iat x.mark_ k ≠ 0 → iat x.ring k = y → ∀ d : Nat, d < 32 → (d : Int) ∈ depsAt g k → iat x.ring d ≠ y → bat placed d = true) → (b = true ↔ Free g x y placed k) := fun hs => by
      rw [h2]
      constructor
      · intro h m hm
        by_cases e : m = k
        · subst e; intro _; exact hs
        · exact h m (by omega)
      · intro h m hm
        exact h m (by omega)
    rw [free_l1, bif_t (dec_t (by omega)), inR_ok (by omega) (by omega), some_bind, idxI hk32, some_bind]
    simp only [free_j5, free_j1, wrs k (by omega)]
    by_cases h0 : iat x.mark_ k = 0
    · rw [bif_t (by simp [h0])]
      exact ⟨b, h1, step fun h => absurd h0 h⟩
    · rw [bif_f (by simp [h0]), some_bind, idxI hk32, some_bind]
      by_cases hr : iat x.ring k = y
      · rw [bif_f (by simp [hr]), free_j2, inR_ok (by omega) (by omega), some_bind, hg, idxD hk32, some_bind]
        have := free_l2_eq (x := x) (placed := placed) (y9 := (k : Int)) (y := y) (rec := free_l1 fu x y placed q) (hN k).2 fu (depsAt g k).length 0 (by omega) (by have := (hN k).1; omega)
        rw [List.drop_zero, wrs k (by omega)] at this
        rcases this with ⟨h3, h4⟩ | ⟨h3, d, hd, h4, h5, h6⟩
        · have h3 : free_l2 x y placed (k : Int) (free_l1 fu x y placed q) (depsAt g k) fu 0 = _ := h3
          exact ⟨b, by rw [h3]; exact h1, step fun _ _ => h4⟩
        · have h3 : free_l2 x y placed (k : Int) (free_l1 fu x y placed q) (depsAt g k) fu 0 = _ := h3
          refine ⟨false, h3, ?_⟩
          simp only [Bool.false_eq_true, false_iff]
          intro hf
          have := hf k (Nat.le_refl _) hk32 h0 hr d hd h4 h5
          rw [h6] at this; cases this
      · rw [bif_t (by simp [hr])]
        exact ⟨b, h1, step fun _ h => absurd h hr⟩
def Test (g : GGraph) (n : Nat) (x : GSearch) (out : List Nat) (placed : Vector Bool 32) (y : Nat) : Prop := pathB g n y = true ∧ y ∉ out ∧ iat x.ring y = (y : Int) ∧ Free g x y placed 0
theorem Test.cand (hR : Rings g n x) (hn : n < 32) (hO : OKO (pathB g) n out) (hP : ∀ k, k < 32 → bat placed k = decide (k ∈ out)) {y : Nat} (h : Test g n x out placed y) : candO (pathB g) n out y = true := by
  obtain ⟨h1, h2, h3, h4⟩ := h
  have hpre := pathB_pre g
  have hy32 := hpre.lt _ _ hn h1
  rw [candO_iff]
  refine ⟨h1, h2, fun d hd hyd => ?_⟩
  have hcl : ∀ a b, ((pathB g y a = true ∧ pathB g a y = true) ∨ a ∈ out) → Edge g a b → ((pathB g y b = true ∧ pathB g b y = true) ∨ b ∈ out) := by
    intro a b ha hab
    rcases ha with ⟨ha1, ha2⟩ | ha
    · have hyb := hpre.trans _ _ _ ha1 (pathB_iff.2 (Path.one hab))
      cases hby : pathB g b y with
      | true => exact .inl ⟨hyb, rfl⟩
      | false =>
        right
        have hna := hpre.trans _ _ _ h1 ha1
        have ha32 := hpre.lt _ _ hn hna
        obtain ⟨r, hr1, hr2⟩ := hR.ring a ha32 hna
        have hra : iat x.ring a = (y : Int) := by
          rw [hr1, least_uniq hr2 (hR.least hn h1 h3) (pathB_iff.1 ha2) (pathB_iff.1 ha1)]
        have hma : iat x.mark_ a ≠ 0 := by have := (hR.mark a ha32).2 hna; omega
        have hnb := hpre.trans _ _ _ h1 hyb
        have hrb : iat x.ring b ≠ (y : Int) := fun e => by
          have := (hR.least hn hnb e).1
          rw [pathB_iff.2 this] at hby; cases hby
        have := h4 a (Nat.zero_le _) ha32 hma hra b hab.2.2.2 hab.2.2.1 hrb
        rw [hP b hab.2.2.2] at this
        simpa using this
    · exact .inr (hO.dc a ha b (pathB_iff.2 (Path.one hab)))
  have := Path.closed (S := fun a => (pathB g y a = true ∧ pathB g a y = true) ∨ a ∈ out) hcl (pathB_iff.1 hyd) (.inl ⟨hpre.refl y hy32, hpre.refl y hy32⟩)
  rcases this with h5 | h5
  · exact .inl h5.2
  · exact .inr h5
theorem Test.of_next (hR : Rings g n x) (hn : n < 32) (hO : OKO (pathB g) n out) (hP : ∀ k, k < 32 → bat placed k = decide (k ∈ out)) {c : Nat} (h : nextO (pathB g) n out = some c) : Test g n x out placed c := by
  have hpre := pathB_pre g
  obtain ⟨hc32, hcand, hmin⟩ := nextO_some h
  have hcand' := candO_iff.1 hcand
  obtain ⟨h1, h2, h3⟩ := hcand'
  obtain ⟨r, hr1, hr2⟩ := hR.ring c hc32 h1
  have hcr : pathB g c r = true := pathB_iff.2 hr2.1
  have hrc : pathB g r c = true := pathB_iff.2 hr2.2.1
  have hrle : r ≤ c := hr2.2.2 c (.refl _) (.refl _)
  have hr : r = c := by
    rcases Nat.lt_or_ge r c with hlt | hge
    · have hno := hmin r hlt
      have hy : candO (pathB g) n out r = true := by
        rw [candO_iff]
        refine ⟨hpre.trans _ _ _ h1 hcr, fun hro => h2 (hO.dc r hro c hrc), fun d hd hrd => ?_⟩
        · rcases h3 d hd (hpre.trans _ _ _ hcr hrd) with h4 | h4
          · exact .inl (hpre.trans _ _ _ h4 hcr)
          · exact .inr h4
      rw [hy] at hno; cases hno
    · omega
  subst hr
  refine ⟨h1, h2, hr1, fun a _ ha32 hma hra d hd hmd hrd => ?_⟩
  have hna := (hR.mark a ha32).1 (by have := hR.nonneg a ha32; omega)
  have hl := hR.least hn hna hra
  have had : pathB g a d = true := pathB_iff.2 (Path.one ⟨ha32, hR.known a hna, hmd, hd⟩)
  have hcd := hpre.trans _ _ _ (pathB_iff.2 hl.2.1) had
  rw [hP d hd]
  rcases h3 d hd hcd with h4 | h4
  · exfalso
    have hnd := hpre.trans _ _ _ h1 hcd
    obtain ⟨q, hq1, hq2⟩ := hR.ring d hd hnd
    refine hrd ?_
    rw [hq1, least_uniq hq2 hr2 (pathB_iff.1 h4) (pathB_iff.1 hcd)]
  · exact dec_t h4
def optI : Option Nat → Int
  | some a => a
  | none => -1
def PlacedBy (placed : Vector Bool 32) (out : List Nat) : Prop := ∀ k, k < 32 → bat placed k = decide (k ∈ out)
theorem ring_mem (hR : Rings g n x) (hn : n < 32) {c : Nat} (hc : pathB g n c = true) (hrc : iat x.ring c = (c : Int)) {k : Nat} (hk : k < 32) : (0 < iat x.mark_ k ∧ iat x.ring k = (c : Int)) ↔ (pathB g c k = true ∧ pathB g k c = true) := by
  have hpre := pathB_pre g
  constructor
  · rintro ⟨h1, h2⟩
    have hl := hR.least hn ((hR.mark k hk).1 h1) h2
    exact ⟨pathB_iff.2 hl.2.1, pathB_iff.2 hl.1⟩
  · rintro ⟨h1, h2⟩
    have hnk := hpre.trans _ _ _ hc h1
    refine ⟨(hR.mark k hk).2 hnk, ?_⟩
    obtain ⟨r, hr1, hr2⟩ := hR.ring k hk hnk
    rw [hr1, least_uniq hr2 (hR.least hn hc hrc) (pathB_iff.1 h2) (pathB_iff.1 h1)]
theorem gorder_l2_eq {rec : Vector Bool 32 → GSearch → List Int → Option (List Int)} (hR : Rings g n x) (hn : n < 32) {c : Nat} (hc : pathB g n c = true) (hrc : iat x.ring c = (c : Int)) : ∀ (q r k : Nat) (placed : Vector Bool 32) (o : List Nat), k + r = 32 → r < q → o.length ≤ k + 32 →
    PlacedBy placed o → ∃ placed', gorder_l2 rec x (c : Int) q placed (castL o) k = rec placed' x (castL (o ++ ((List.range 32).drop k).filter fun m => pathB g c m && pathB g m c)) ∧ PlacedBy placed' (o ++ ((List.range 32).drop k).filter fun m => pathB g c m && pathB g m c)
  | 0, r, k, placed, o, _, h, _, _ => absurd h (by omega)
  | q + 1, 0, k, placed, o, hk, _, _, hP => ⟨placed, by
      rw [gorder_l2, bif_f (dec_f (by omega)), List.drop_of_length_le (by simp; omega), List.filter_nil, List.append_nil], by
      rw [List.drop_of_length_le (by simp; omega), List.filter_nil, List.append_nil]; exact hP⟩
  | q + 1, r + 1, k, placed, o, hk, hq, ho, hP => by
    have hk32 : k < 32 := by omega
    have ih := fun placed o h1 h2 => gorder_l2_eq (rec := rec) hR hn hc hrc q r (k + 1) placed o (by omega) (by omega) h1 h2
    have hmem := ring_mem hR hn hc hrc hk32
    have hdrop : (List.range 32).drop k = k :: (List.range 32).drop (k + 1) := by
      rw [List.drop_eq_getElem_cons (by simp; omega)]
      simp
    rw [gorder_l2, bif_t (dec_t (by omega)), hdrop, List.filter_cons]
    simp only [inR_ok (show (0 : Int) ≤ (k : Int) by omega) (show (k : Int) < 32 by omega), some_bind, idxI hk32, gorder_j3, gorder_j2, wrs k (by omega)]
    have hno : ¬ (0 < iat x.mark_ k ∧ iat x.ring k = (c : Int)) → (pathB g c k && pathB g k c) = false := fun h => by
      cases h1 : (pathB g c k && pathB g k c) with
      | false => rfl
      | true => exact absurd (hmem.2 (by simpa using h1)) h
    by_cases h1 : 0 < iat x.mark_ k
    · rw [bif_t (dec_t h1)]
      by_cases h2 : iat x.ring k = (c : Int)
      · have h3 := hmem.1 ⟨h1, h2⟩
        rw [bif_t (by simp [h2]), idxB hk32]
        simp only [some_bind, setV_ok hk32]
        rw [app_ok (a := castL o) (b := [(k : Int)]) (len_bytes (show (castL o).length ≤ 100 by rw [castL_len]; omega)), some_bind, castL_snoc, h3.1, h3.2]
        obtain ⟨p', e1, e2⟩ := ih (placed.set k true) (o ++ [k]) (by simp; omega) (fun j hj => by
          rw [bat_set hk32, hP j hj]
          by_cases e : k = j
          · subst e; simp
          · have e2 : ¬ j = k := fun h => e h.symm
            simp [e, e2])
        refine ⟨p', ?_, ?_⟩
        · rw [e1]; simp
        · simpa using e2
      · rw [bif_f (by simp [h2]), hno (fun h => h2 h.2)]
        exact ih placed o (by omega) hP
    · rw [bif_f (dec_f h1), bif_f rfl, hno (fun h => h1 h.1)]
      exact ih placed o (by omega) hP
theorem gorder_l3_eq {fu N : Nat} (hN : Small g N) (hfu : N + 40 ≤ fu) {rec : Vector Bool 32 → GSearch → List Int → Option (List Int)} (hR : Rings g n x) (hn : n < 32) (hO : OKO (pathB g) n out) (hP : PlacedBy placed out) : ∀ (q r k : Nat), k + r = 32 → r < q → (∀ j, j < k → candO (pathB g) n out j = true → nextO (pathB g) n out ≠ some j) →
    gorder_l3 fu placed (castL out) rec q x (-1) k = gorder_j1 fu placed (castL out) rec x (optI (nextO (pathB g) n out))
  | 0, r, k, _, h, _ => absurd h (by omega)
  | q + 1, 0, k, hk, _, hno => by
    rw [gorder_l3, bif_f (dec_f (by omega))]
    cases hc : nextO (pathB g) n out with
    | none => rfl
    | some c =>
      have := nextO_some hc
      exact absurd hc (hno c (by omega) this.2.1)
  | q + 1, r + 1, k, hk, hq, hno => by
    have hk32 : k < 32 := by omega
    have ih := fun h => gorder_l3_eq hN hfu (rec := rec) hR hn hO hP q r (k + 1) (by omega) (by omega) h
    have step : ¬ Test g n x out placed k → (∀ j, j < k + 1 → candO (pathB g) n out j = true → nextO (pathB g) n out ≠ some j) := fun ht j hj hcj he => by
      by_cases e : j = k
      · subst e
        exact ht (Test.of_next hR hn hO hP he)
      · exact hno j (by omega) hcj he
    rw [gorder_l3, bif_t (dec_t (by omega))]
    simp only [inR_ok (show (0 : Int) ≤ (k : Int) by omega) (show (k : Int) < 32 by omega), some_bind, idxI hk32, idxB hk32, gorder_j5, gorder_j4, wrs k (by omega)]
    by_cases h1 : 0 < iat x.mark_ k
    · have hnk := (hR.mark k hk32).1 h1
      rw [bif_t (dec_t h1), hP k hk32]
      by_cases h2 : k ∈ out
      · rw [dec_t h2, bif_f (c := !true) rfl]
        exact ih (step fun ht => ht.2.1 h2)
      · rw [dec_f h2, bif_t (c := !false) rfl]
        by_cases h3 : iat x.ring k = (k : Int)
        · rw [bif_t (by simp [h3])]
          obtain ⟨b, h4, h5⟩ := free_l1_eq (placed := placed) hN (show N ≤ fu by omega) hR.same (y := (k : Int)) fu 32 0 (by omega) (by omega)
          have h4 : freeD fu x (k : Int) placed = some b := h4
          rw [h4, some_bind]
          cases hb : b with
          | true =>
            rw [bif_t rfl]
            have ht : Test g n x out placed k := ⟨hnk, h2, h3, h5.1 hb⟩
            have hcand := ht.cand hR hn hO hP
            have hnext : nextO (pathB g) n out = some k := by
              cases hc : nextO (pathB g) n out with
              | none => rw [nextO_none.1 hc k hk32] at hcand; cases hcand
              | some c =>
                obtain ⟨c1, c2, c3⟩ := nextO_some hc
                rcases Nat.lt_trichotomy c k with h | h | h
                · exact absurd hc (hno c h c2)
                · rw [h]
                · rw [c3 k h] at hcand; cases hcand
            rw [hnext]; rfl
          | false =>
            rw [bif_f rfl]
            refine ih (step fun ht => ?_)
            rw [h5.2 ht.2.2.2] at hb
            cases hb
        · rw [bif_f (by simp [h3]), bif_f rfl]
          exact ih (step fun ht => h3 ht.2.2.1)
    · rw [bif_f (dec_f h1), bif_f rfl]
      exact ih (step fun ht => h1 ((hR.mark k hk32).2 ht.1))
theorem gorder_l1_eq {fu N : Nat} (hN : Small g N) (hfu : N + 40 ≤ fu) (hR : Rings g n x) (hn : n < 32) : ∀ (q k : Nat) (out : List Nat) (placed : Vector Bool 32), OKO (pathB g) n out → PlacedBy placed out → k < q → 32 ≤ k + out.length →
    gorder_l1 fu q placed x (castL out) = some (castL (orderF (pathB g) n k out))
  | 0, k, out, placed, _, _, h, _ => absurd h (by omega)
  | q + 1, k, out, placed, hO, hP, hq, hk => by
    have hpre := pathB_pre g
    have h3 := gorder_l3_eq hN hfu (rec := gorder_l1 fu q) hR hn hO hP fu 32 0 (by omega) (by omega) (fun j hj => absurd hj (by omega))
    have h3 : gorder_l3 fu placed (castL out) (gorder_l1 fu q) fu x (-1) 0 = _ := h3
    rw [gorder_l1, h3, gorder_j1]
    cases hc : nextO (pathB g) n out with
    | none =>
      rw [bif_t (by rfl)]
      cases k with
      | zero => rfl
      | succ k => simp [orderF, hc]
    | some c =>
      obtain ⟨hc32, hcand, _⟩ := nextO_some hc
      have ht := Test.of_next hR hn hO hP hc
      have hle := hO.len
      show (bif decide ((c : Int) < 0) then _ else _) = _
      rw [bif_f (dec_f (by omega))]
      obtain ⟨p', e1, e2⟩ := gorder_l2_eq (rec := gorder_l1 fu q) hR hn ht.1 ht.2.2.1 fu 32 0 placed out (by omega) (by omega) (by omega) hP
      have e1 : gorder_l2 (gorder_l1 fu q) x (c : Int) fu placed (castL out) 0 = _ := e1
      show gorder_l2 (gorder_l1 fu q) x (c : Int) fu placed (castL out) 0 = _
      rw [e1]
      rw [List.drop_zero] at e2 ⊢
      have hstep := hO.step hpre hn hc
      have hlen := List.length_pos_of_mem (ringO_self hpre hc32)
      cases k with
      | zero => rw [hO.full (by omega)] at hc; cases hc
      | succ k =>
        have := gorder_l1_eq hN hfu hR hn q k (out ++ ringO (pathB g) c) p' hstep e2 (by omega) (by rw [List.length_append]; omega)
        rw [orderF, hc]
        exact this
end
theorem readyZ_known {g : GGraph} {s : Nat} (hs : s < 32) (h : readyZ g (s : Int) = true) : ∀ k, pathB g s k = true → bat g.known k = true := by
  intro k hk
  have h1 := (readyZ_iff.1 h).2 k (Nat.zero_le _) (path_lt (pathB_iff.1 hk) hs)
  refine h1 ?_
  unfold reachZ
  rw [if_pos (by omega)]
  exact (bat_reachV (path_lt (pathB_iff.1 hk) hs)).2 (pathB_iff.1 hk)
theorem gorderD_eq {fu N : Nat} {g : GGraph} (hN : Small g N) (hfu : N + 80 ≤ fu) (x : Int) : gorderD fu g x = some (orderZ g x) := by
  unfold gorderD orderZ
  rw [readyD_eq hN (by omega), some_bind]
  cases hr : readyZ g x with
  | false => rw [bif_t (c := !false) rfl, if_neg (by simp)]
  | true =>
    rw [bif_f (c := !true) rfl, if_pos rfl, some_bind]
    obtain ⟨hx, _⟩ := readyZ_iff.1 hr
    obtain ⟨s, hs, rfl⟩ : ∃ s : Nat, s < 32 ∧ x = s := ⟨x.toNat, by omega, by omega⟩
    have hkn := readyZ_known hs hr
    obtain ⟨x', l', h1, h2, h3, h4, h5⟩ := visitD_eq hN (show N + 40 ≤ fu by omega) hs
    rw [h1, some_bind]
    have hself : pathB g s s = true := (pathB_pre g).refl s hs
    have hR : Rings g s x' := ⟨h2, hkn, fun k hk => by rw [h3 k hk, path_same hkn hself, pathB_iff], h4, fun k hk hp => by
      obtain ⟨r, e1, e2, e3, e4⟩ := h5 k hk ((path_same hkn hself).2 (pathB_iff.1 hp))
      have hnr : pathB g s r = true := pathB_iff.2 ((pathB_iff.1 hp).trans ((path_same hkn hp).1 e2))
      refine ⟨r, e1, (path_same hkn hp).1 e2, (path_same hkn hnr).1 e3, fun w hw1 hw2 => e4 w ((path_same hkn hp).2 hw1) ?_⟩
      exact (path_same hkn (pathB_iff.2 ((pathB_iff.1 hp).trans hw1))).2 hw2⟩
    exact gorder_l1_eq hN (by omega) hR hs fu 32 [] (Zr.zd : Vector Bool 32) OKO.nil (fun k _ => by rw [bat_zero]; simp) (by omega) (by simp)
section
variable {g : GGraph} {n : Nat} {out : List Nat} {R : Vector (Vector Bool 32) 32}
theorem idxR {m : Nat} (hm : m < 32) : idxV R (m : Int) = some R[m] := idxV_ok hm
def Reaches (g : GGraph) (R : Vector (Vector Bool 32) 32) : Prop := ∀ m (h : m < 32), ∀ d, d < 32 → bat R[m] d = pathB g m d
theorem orderOf_l4_eq (hR : Reaches g R) {y59 : Int} {rec : Int → Int → Option (List Int)} {m : Nat} (hm : m < 32) : ∀ (q r k : Nat) (c : Bool), k + r = 32 → r < q →
    orderOf_l4 R (castL out) y59 m rec q c k = rec (bif (c && ((List.range 32).drop k).all fun d => !pathB g m d || (pathB g d m || out.contains d)) then (m : Int) else y59) (IntKind.wrap .i64 ((m : Int) - 1))
  | 0, r, k, c, _, h => absurd h (by omega)
  | q + 1, 0, k, c, hk, _ => by
    rw [orderOf_l4, bif_f (dec_f (by omega)), List.drop_of_length_le (by simp; omega)]
    cases c <;> rfl
  | q + 1, r + 1, k, c, hk, hq => by
    have hk32 : k < 32 := by omega
    have ih := fun c => orderOf_l4_eq hR (y59 := y59) (rec := rec) hm q r (k + 1) c (by omega) (by omega)
    have hdrop : (List.range 32).drop k = k :: (List.range 32).drop (k + 1) := by
      rw [List.drop_eq_getElem_cons (by simp; omega)]
      simp
    rw [orderOf_l4, bif_t (dec_t (by omega)), hdrop, List.all_cons]
    have i1 : inR (k : Int) 32 = some () := inR_ok (by omega) (by omega)
    have i2 : inR (m : Int) 32 = some () := inR_ok (by omega) (by omega)
    simp only [orderOf_j4, wrs k (by omega), i1, i2, some_bind, idxR hm, idxR hk32, idxB hk32, idxB hm, hR m hm k hk32, hR k hk32 m hm, hasZ_castL, ih]
    cases c with
    | false => rfl
    | true =>
      cases hp : pathB g m k with
      | false => rfl
      | true =>
        cases hq : pathB g k m with
        | true => rfl
        | false =>
          simp only [Bool.not_true, cond_false, cond_true, Bool.false_or, Bool.true_and, List.contains_eq_mem]
theorem orderOf_l3_eq (hR : Reaches g R) (hn : n < 32) {fu : Nat} (hfu : 40 ≤ fu) {rec : List Int → Option (List Int)} : ∀ (q k : Nat) (c : Option Nat), k ≤ 32 → k < q → (∀ a, c = some a → k ≤ a ∧ a < 32 ∧ candO (pathB g) n out a = true ∧ ∀ j, k ≤ j → j < a → candO (pathB g) n out j = false) → (c = none → ∀ j, k ≤ j → j < 32 → candO (pathB g) n out j = false) →
    orderOf_l3 fu n R (castL out) rec q (optI c) ((k : Int) - 1) =
      match nextO (pathB g) n out with | none => some (castL out) | some a => orderOf_l5 R rec a fu (castL out) 0
  | 0, k, c, _, h, _, _ => absurd h (by omega)
  | q + 1, 0, c, _, _, hs, hnn => by
    rw [orderOf_l3, bif_f (dec_f (by omega))]
    cases c with
    | none =>
      rw [nextO_none.2 fun j hj => hnn rfl j (by omega) hj]
      rw [bif_t (by rfl)]; rfl
    | some a =>
      obtain ⟨_, h1, h2, h3⟩ := hs a rfl
      rw [nextO_of h1 h2 fun j hj => h3 j (by omega) hj]
      show (bif decide ((a : Int) < 0) then _ else _) = _
      rw [bif_f (dec_f (by omega))]
      rfl
  | q + 1, k + 1, c, hk, hq, hs, hnn => by
    have hk32 : k < 32 := by omega
    have e0 : (((k + 1 : Nat) : Int) - 1) = (k : Int) := by omega
    have e1 : IntKind.wrap .i64 ((k : Int) - 1) = (k : Int) - 1 := wr64 (by omega) (by omega)
    have ih := fun c h1 h2 => orderOf_l3_eq hR hn hfu (rec := rec) q k c (by omega) (by omega) h1 h2
    have i1 : inR (k : Int) 32 = some () := inR_ok (by omega) (by omega)
    have i2 : inR (n : Int) 32 = some () := inR_ok (by omega) (by omega)
    rw [e0, orderOf_l3, bif_t (dec_t (by omega))]
    simp only [i1, i2, some_bind, idxR hn, idxB hk32, hR n hn k hk32, hasZ_castL, orderOf_j5, orderOf_j2, orderOf_j3, e1]
    have hno : candO (pathB g) n out k = false → orderOf_l3 fu n R (castL out) rec q (optI c) ((k : Int) - 1) =
        match nextO (pathB g) n out with | none => some (castL out) | some a => orderOf_l5 R rec a fu (castL out) 0 := fun hc => by
      refine ih c (fun a ha => ?_) (fun hcn j hj hj2 => ?_)
      · obtain ⟨h1, h2, h3, h4⟩ := hs a ha
        refine ⟨by omega, h2, h3, fun j hj hj2 => ?_⟩
        by_cases e : j = k
        · subst e; exact hc
        · exact h4 j (by omega) hj2
      · by_cases e : j = k
        · subst e; exact hc
        · exact hnn hcn j (by omega) hj2
    cases hp : pathB g n k with
    | false =>
      rw [bif_t (c := !false) rfl, bif_t rfl]
      exact hno (by simp [candO, hp])
    | true =>
      rw [bif_f (c := !true) rfl]
      by_cases hm : k ∈ out
      · rw [dec_t hm, bif_t rfl]
        exact hno (by simp [candO, hm])
      · rw [dec_f hm, bif_f rfl]
        have h4 := orderOf_l4_eq (out := out) hR (y59 := (optI c)) (rec := orderOf_l3 fu n R (castL out) rec q) hk32 fu 32 0 true (by omega) (by omega)
        have h4 : orderOf_l4 R (castL out) (optI c) (k : Int) (orderOf_l3 fu n R (castL out) rec q) fu true 0 = _ := h4
        rw [h4, e1, List.drop_zero, Bool.true_and]
        have hcand : candO (pathB g) n out k = (List.range 32).all fun d => !pathB g k d || (pathB g d k || out.contains d) := by
          unfold candO
          rw [hp]
          simp [hm]
        cases hall : (List.range 32).all fun d => !pathB g k d || (pathB g d k || out.contains d) with
        | false =>
          rw [bif_f rfl]
          exact hno (by rw [hcand, hall])
        | true =>
          rw [bif_t rfl]
          refine ih (some k) (fun a ha => ?_) (fun h => by cases h)
          cases ha
          exact ⟨Nat.le_refl _, hk32, by rw [hcand, hall], fun j hj hj2 => by omega⟩
theorem orderOf_l5_eq (hR : Reaches g R) {rec : List Int → Option (List Int)} {c : Nat} (hc : c < 32) : ∀ (q r k : Nat) (o : List Nat), k + r = 32 → r < q → o.length ≤ k + 32 →
    orderOf_l5 R rec c q (castL o) k = rec (castL (o ++ ((List.range 32).drop k).filter fun m => pathB g c m && pathB g m c))
  | 0, r, k, o, _, h, _ => absurd h (by omega)
  | q + 1, 0, k, o, hk, _, _ => by
    rw [orderOf_l5, bif_f (dec_f (by omega)), List.drop_of_length_le (by simp; omega), List.filter_nil, List.append_nil]
  | q + 1, r + 1, k, o, hk, hq, ho => by
    have hk32 : k < 32 := by omega
    have ih := fun o h => orderOf_l5_eq hR (rec := rec) hc q r (k + 1) o (by omega) (by omega) h
    have hdrop : (List.range 32).drop k = k :: (List.range 32).drop (k + 1) := by
      rw [List.drop_eq_getElem_cons (by simp; omega)]
      simp
    have i1 : inR (k : Int) 32 = some () := inR_ok (by omega) (by omega)
    have i2 : inR (c : Int) 32 = some () := inR_ok (by omega) (by omega)
    rw [orderOf_l5, bif_t (dec_t (by omega)), hdrop, List.filter_cons]
    simp only [i1, i2, some_bind, idxR hc, idxR hk32, idxB hk32, idxB hc, hR c hc k hk32, hR k hk32 c hc, orderOf_j7, orderOf_j6, wrs k (by omega)]
    have i0 := ih o (by omega)
    have i3 := ih (o ++ [k]) (by simp; omega)
    cases pathB g k c <;> cases pathB g c k
    · exact i0
    · exact i0
    · exact i0
    · simp only [cond_true, Bool.and_self, if_true]
      rw [app_ok (a := castL o) (b := [(k : Int)]) (len_bytes (show (castL o).length ≤ 100 by rw [castL_len]; omega)), some_bind, castL_snoc, i3]
      simp
theorem orderOf_l2_eq (hR : Reaches g R) (hn : n < 32) {fu : Nat} (hfu : 40 ≤ fu) : ∀ (q k : Nat) (out : List Nat), OKO (pathB g) n out → k < q → 32 ≤ k + out.length → orderOf_l2 fu n R q (castL out) = some (castL (orderF (pathB g) n k out))
  | 0, k, out, _, h, _ => absurd h (by omega)
  | q + 1, k, out, hO, hq, hk => by
    have hpre := pathB_pre g
    rw [orderOf_l2, castL_len]
    by_cases hl : out.length < 32
    · rw [bif_t (dec_t (by omega))]
      have h3 := orderOf_l3_eq (out := out) hR hn hfu (rec := orderOf_l2 fu n R q) fu 32 none (by omega) (by omega) (fun a h => by cases h) (fun _ j h1 h2 => by omega)
      have h3 : orderOf_l3 fu n R (castL out) (orderOf_l2 fu n R q) fu (-1) 31 = _ := h3
      rw [h3]
      obtain ⟨k, rfl⟩ : ∃ a, k = a + 1 := ⟨k - 1, by omega⟩
      rw [orderF]
      cases hc : nextO (pathB g) n out with
      | none => rfl
      | some c =>
        obtain ⟨hc32, hcand, _⟩ := nextO_some hc
        have hstep := hO.step hpre hn hc
        have hlen := List.length_pos_of_mem (ringO_self hpre hc32)
        have h5 := orderOf_l5_eq hR (rec := orderOf_l2 fu n R q) hc32 fu 32 0 out (by omega) (by omega) (by omega)
        have h5 : orderOf_l5 R (orderOf_l2 fu n R q) (c : Int) fu (castL out) 0 = _ := h5
        show orderOf_l5 R (orderOf_l2 fu n R q) (c : Int) fu (castL out) 0 = some (castL (orderF (pathB g) n k (out ++ ringO (pathB g) c)))
        rw [h5, List.drop_zero]
        exact orderOf_l2_eq hR hn hfu q k (out ++ ringO (pathB g) c) hstep (by omega) (by rw [List.length_append]; omega)
    · rw [bif_f (dec_f (by omega))]
      have hfull := hO.full (by omega)
      cases k with
      | zero => rfl
      | succ k => simp [orderF, hfull, orderOf_j1]
end
theorem orderOf_l1_eq {fu N : Nat} {g : GGraph} (hN : Small g N) (hfu : N + 40 ≤ fu) {s : Nat} (hs : s < 32) : ∀ (q r k : Nat) (R : Vector (Vector Bool 32) 32), k + r = 32 → r < q → (∀ m (h : m < 32), m < k → ∀ d, d < 32 → bat R[m] d = pathB g m d) →
    orderOf_l1 fu g s q R k = some (castL (orderS (pathB g) s))
  | 0, r, k, R, _, h, _ => absurd h (by omega)
  | q + 1, 0, k, R, hk, _, hR => by
    rw [orderOf_l1, bif_f (dec_f (by omega))]
    exact orderOf_l2_eq (fun m h d hd => hR m h (by omega) d hd) hs (by omega) fu 32 [] OKO.nil (by omega) (by simp)
  | q + 1, r + 1, k, R, hk, hq, hR => by
    have hk32 : k < 32 := by omega
    rw [orderOf_l1, bif_t (dec_t (by omega)), reachesD_eq hN hfu, some_bind, inR_ok (by omega) (by omega), some_bind, idxV_ok hk32, some_bind, setV_ok hk32, some_bind, some_bind, wrs k (by omega)]
    refine orderOf_l1_eq hN hfu hs q r (k + 1) _ (by omega) (by omega) fun m h hm d hd => ?_
    rw [Vector.getElem_set]
    by_cases e : k = m
    · subst e
      rw [if_pos rfl]
      unfold reachZ
      rw [if_pos (by omega), Bool.eq_iff_iff, bat_reachV hd, pathB_iff]
      rfl
    · rw [if_neg e]
      exact hR m h (by omega) d hd
theorem orderOfD_eq {fu N : Nat} {g : GGraph} (hN : Small g N) (hfu : N + 80 ≤ fu) (x : Int) : orderOfD fu g x = some (orderZ g x) := by
  unfold orderOfD orderZ
  rw [readyInD_eq hN (by omega), some_bind]
  cases hr : readyZ g x with
  | false => rw [bif_t (c := !false) rfl, if_neg (by simp)]
  | true =>
    rw [bif_f (c := !true) rfl, if_pos rfl]
    obtain ⟨hx, _⟩ := readyZ_iff.1 hr
    obtain ⟨s, hs, rfl⟩ : ∃ s : Nat, s < 32 ∧ x = s := ⟨x.toNat, by omega, by omega⟩
    exact orderOf_l1_eq hN (by omega) hs fu 32 0 _ (by omega) (by omega) fun m h hm => absurd hm (by omega)
end Go.Proofs.Ytopgdemmdcipcaa
namespace Go.Proofs.Ytopgdemmdcipcaa
open Go.RowKit
theorem i64_or_nat (a b : Nat) (ha : a < 4611686018427387904) (hb : b < 4611686018427387904) (h : a ||| b < 9223372036854775808) : bits .or .i64 (a : Int) (b : Int) = ((a ||| b : Nat) : Int) := by
  show IntKind.i64.wrap ((BitVec.ofInt 64 (a : Int) ||| BitVec.ofInt 64 (b : Int)).toNat : Int) = _
  rw [BitVec.ofInt_natCast, BitVec.ofInt_natCast, BitVec.toNat_or, BitVec.toNat_ofNat, BitVec.toNat_ofNat, Nat.mod_eq_of_lt (by omega), Nat.mod_eq_of_lt (by omega)]
  exact IntWalk.i64_in _ (by omega)
theorem or_bytes (a b : Nat) (ha : a < 4611686018427387904 / 256) (hb : b < 256) : bits .or .i64 ((a : Int) * 256) (b : Int) = (a : Int) * 256 + b := by
  have h := Nat.two_pow_add_eq_or_of_lt (i := 8) (b := b) (by omega) a
  have e : ((a * 256 : Nat) : Int) = (a : Int) * 256 := by omega
  rw [← e, i64_or_nat _ _ (by omega) (by omega) (by rw [Nat.mul_comm]; rw [show (256 : Nat) = 2 ^ 8 from rfl, ← h]; omega)]
  rw [Nat.mul_comm, show (256 : Nat) = 2 ^ 8 from rfl, ← h]
  omega
end Go.Proofs.Ytopgdemmdcipcaa
namespace Go.Proofs.Ytopgdemmdcipcaa
open Go.RowKit
open Rep (rep)
theorem rising_ge {l : List Int} (h : risingZ l = true) : ∀ i, i < l.length → (i : Int) ≤ l.getD i 0 ∧ l.getD i 0 < 32 := by
  unfold risingZ at h
  rw [allTo_iff] at h
  intro i
  induction i with
  | zero =>
    intro hi
    have := h 0 hi
    unfold riseAt at this
    simp only [Bool.and_eq_true, decide_eq_true_eq] at this
    exact ⟨by have := this.1.1; simpa using this, this.1.2⟩
  | succ i ih =>
    intro hi
    have h1 := ih (by omega)
    have := h (i + 1) hi
    unfold riseAt at this
    simp only [Bool.and_eq_true, decide_eq_true_eq, Bool.or_eq_true, beq_iff_eq, Nat.add_sub_cancel] at this
    refine ⟨?_, this.1.2⟩
    rcases this.2 with h2 | h2
    · omega
    · push_cast
      omega
theorem rising_len {l : List Int} (h : risingZ l = true) : l.length ≤ 32 := by
  rcases Nat.lt_or_ge 32 l.length with h1 | h1
  · have := rising_ge h 32 h1
    omega
  · exact h1
theorem goodOps_len {l : List GOp} (h : goodOpsZ l = true) : 0 < l.length ∧ l.length ≤ 4 := by
  unfold goodOpsZ at h
  simp only [Bool.and_eq_true, decide_eq_true_eq] at h
  omega
theorem goodOps_mem {l : List GOp} (h : goodOpsZ l = true) : ∀ o ∈ l, 1 ≤ o.kind ∧ o.kind ≤ 3 ∧ 0 ≤ o.key ∧ o.key < 8 ∧ -1099511627776 ≤ o.n ∧ o.n ≤ 1099511627776 := by
  intro o ho
  unfold goodOpsZ at h
  simp only [Bool.and_eq_true] at h
  have h1 := (allTo_iff _ _).1 h.1
  obtain ⟨i, hi, rfl⟩ := List.getElem_of_mem ho
  have := h1 i hi
  unfold opAt at this
  rw [List.getD_eq_getElem?_getD, List.getElem?_eq_getElem hi] at this
  simp only [Option.getD_some, Bool.and_eq_true] at this
  have := this.1
  unfold goodOp at this
  simp only [decide_eq_true_eq] at this
  omega
end Go.Proofs.Ytopgdemmdcipcaa
namespace Go.Proofs.Ytopgdemmdcipcaa
open Go.RowKit
open Rep (rep)
theorem sameOps_l1_eq {a : List GOp} (ha : a.length ≤ 9000000000000000) : ∀ (n m k : Nat), a.length = k + m → m < n → sameOps_l1 a a n k = some true
  | 0, m, k, _, h => absurd h (by omega)
  | n + 1, 0, k, hk, _ => by rw [sameOps_l1, bif_f (dec_f (by omega))]
  | n + 1, m + 1, k, hk, hn => by
    obtain ⟨x, hx⟩ : ∃ x, a[k]? = some x := ⟨a[k], by simp⟩
    have := sameOps_l1_eq ha n m (k + 1) (by omega) (by omega)
    rw [sameOps_l1, bif_t (dec_t (by omega)), idx_nat, hx, some_bind, some_bind, bif_f (by simp), wr64 (by omega) (by omega)]
    simpa using this
theorem sameOpsD_refl {a : List GOp} {fu : Nat} (ha : a.length ≤ 9000000000000000) (hf : a.length < fu) : sameOpsD fu a a = some true := by
  rw [sameOpsD, bif_f (by simp)]
  exact sameOps_l1_eq ha fu a.length 0 (by omega) hf
theorem sameOpsD_nil {a : List GOp} {fu : Nat} (hf : 0 < fu) : sameOpsD fu a [] = some ((a.length : Int) == 0) := by
  obtain ⟨fu, rfl⟩ : ∃ n, fu = n + 1 := ⟨fu - 1, by omega⟩
  unfold sameOpsD
  cases a with
  | nil => rfl
  | cons o t =>
    rw [bif_t (by simp; omega)]
    congr 1
theorem sameZ_nil (l : List Int) : sameZ l [] = ((l.length : Int) == 0) := by
  cases l with
  | nil => rfl
  | cons a t =>
    rw [show ((((a :: t).length : Nat) : Int) == 0) = false from by simp; omega]
    unfold sameZ
    simp
end Go.Proofs.Ytopgdemmdcipcaa
namespace Go.Proofs.Ytopgdemmdcipcaa
open Go.RowKit
open Rep (rep)
def eat (v : Vector GEntry 32) (k : Nat) : GEntry := v[k]?.getD Zr.zd
theorem eat_lt {v : Vector GEntry 32} {k : Nat} (hk : k < 32) : v[k] = eat v k := by simp [eat, hk]
theorem idxE {v : Vector GEntry 32} {k : Nat} (hk : k < 32) : idxV v (k : Int) = some (eat v k) := by rw [idxV_ok hk, eat_lt hk]
theorem eat_set {v : Vector GEntry 32} {k j : Nat} {x : GEntry} (hk : k < 32) : eat (v.set k x) j = if k = j then x else eat v j := by
  unfold eat
  by_cases hj : j < 32
  · simp only [Vector.getElem?_set]
    by_cases e : k = j
    · subst e; simp
    · simp [e]
  · have hkj : k ≠ j := by omega
    simp [hj, hkj]
theorem eat_ext {v u : Vector GEntry 32} (h : ∀ k, k < 32 → eat v k = eat u k) : v = u := by
  refine Vector.ext fun k hk => ?_
  rw [eat_lt hk, eat_lt hk]
  exact h k hk
theorem eat_out {v : Vector GEntry 32} {k : Nat} (hk : ¬ k < 32) : eat v k = Zr.zd := by simp [eat, hk]
def emptyE (e : GEntry) : Bool := ((e.ops.length : Int) == 0) && (((e.first.length : Int) == 0) && (((e.deps.length : Int) == 0) && (((e.at_.length : Int) == 0) && ((e.values.length : Int) == 0))))
def atUp (m : Int) : Int → List Int → Bool
  | _, [] => true
  | b, k :: t => decide (b < k ∧ k < m) && atUp m k t
def bodyOk (k : Int) (e : GEntry) : Bool := goodOpsZ e.ops && (risingZ e.first && (risingZ e.deps && (!hasZ e.first k && (!hasZ e.deps k && (!(e.state == 1 && decide ((e.deps.length : Int) > 0)) && (!(e.state != 3 && decide ((e.at_.length : Int) > 0)) && (!((e.at_.length : Int) != (e.values.length : Int)) && atUp e.ops.length (-1) e.at_)))))))
def restOk (k : Int) (e : GEntry) : Bool := bif e.state == 0 then emptyE e else bodyOk k e
def entryOk (k : Int) (e : GEntry) (there : Bool) : Bool := decide (0 ≤ e.state ∧ e.state ≤ 3) && (((e.state == 3) == there) && restOk k e)
structure GoodN (s : GNode) : Prop where
  nodup : s.order.Nodup
  inr : ∀ m ∈ s.order, 0 ≤ m ∧ m < 32
  ent : ∀ k : Nat, k < 32 → entryOk k (eat s.entries k) (decide ((k : Int) ∈ s.order)) = true
open Classical in
noncomputable def goodN (s : GNode) : Bool := decide (GoodN s)
theorem goodN_iff {s : GNode} : goodN s = true ↔ GoodN s := by simp [goodN]
structure ESz (e : GEntry) (N : Nat) : Prop where
  ops : e.ops.length < N ∧ e.ops.length * 24 ≤ 140737488351232
  first : e.first.length < N ∧ e.first.length ≤ 17592186043904
  deps : e.deps.length < N ∧ e.deps.length ≤ 17592186043904
  at_ : e.at_.length < N ∧ e.at_.length ≤ 17592186043904
  values : e.values.length < N ∧ e.values.length ≤ 17592186043904
structure NSz (s : GNode) (N : Nat) : Prop where
  order : s.order.length < N ∧ s.order.length ≤ 17592186043904
  ent : ∀ k, ESz (eat s.entries k) N
theorem nodeGood_l3_eq {y69 : Int} {rec70 : Int → Option Bool} {e : GEntry} (ha : e.at_.length ≤ 17592186043904) : ∀ (n m k : Nat) (b : Int), e.at_.length = k + m → m < n → -1 ≤ b → (k = 0 → b = -1) → (∀ j, k = j + 1 → e.at_[j]? = some b) →
    nodeGood_l3 y69 rec70 e n k = bif atUp e.ops.length b (e.at_.drop k) then nodeGood_j4 y69 rec70 else some false
  | 0, m, k, b, _, h, _, _, _ => absurd h (by omega)
  | n + 1, 0, k, b, hk, _, _, _, _ => by
    rw [nodeGood_l3, bif_f (dec_f (by omega)), List.drop_of_length_le (by omega)]
    rfl
  | n + 1, m + 1, k, b, hk, hn, hb, hb0, hbj => by
    have hlt : k < e.at_.length := by omega
    have hx : e.at_[k]? = some e.at_[k] := List.getElem?_eq_getElem hlt
    have ih := nodeGood_l3_eq (y69 := y69) (rec70 := rec70) ha n m (k + 1) e.at_[k] (by omega) (by omega)
    rw [nodeGood_l3, bif_t (dec_t (by omega)), idx_nat, hx, some_bind, List.drop_eq_getElem_cons hlt]
    simp only [nodeGood_j8, nodeGood_j7, wrs k (by omega), atUp]
    generalize hg : e.at_[k] = x at ih hx
    by_cases h1 : x < 0
    · rw [bif_t (dec_t h1), dec_f (show ¬ (b < x ∧ x < (e.ops.length : Int)) by omega)]
      rfl
    · rw [bif_f (dec_f h1)]
      have ih := ih (by omega) (by omega) (fun j hj => by rw [show j = k from by omega]; exact hx)
      by_cases h2 : x ≥ (e.ops.length : Int)
      · rw [bif_t (dec_t h2), dec_f (show ¬ (b < x ∧ x < (e.ops.length : Int)) by omega)]
        rfl
      · rw [bif_f (dec_f h2)]
        cases k with
        | zero =>
          rw [bif_f (dec_f (by omega)), dec_t (show b < x ∧ x < (e.ops.length : Int) by have := hb0 rfl; omega), Bool.true_and, ← ih]
          rfl
        | succ j =>
          rw [bif_t (dec_t (by omega)), show IntKind.wrap .i64 (((j + 1 : Nat) : Int) - 1) = (j : Int) by rw [wr64 (by omega) (by omega)]; omega, idx_nat, hbj j rfl, some_bind]
          by_cases h3 : b ≥ x
          · rw [dec_t h3, dec_f (show ¬ (b < x ∧ x < (e.ops.length : Int)) by omega)]
            rfl
          · rw [dec_f h3, dec_t (show b < x ∧ x < (e.ops.length : Int) by omega), Bool.true_and, ← ih]
            rfl
theorem empty_sum {e : GEntry} {N : Nat} (h : ESz e N) : decide ((IntKind.wrap .i64 ((IntKind.wrap .i64 ((IntKind.wrap .i64 ((IntKind.wrap .i64 ((e.ops.length : Int) + (e.first.length : Int))) + (e.deps.length : Int))) + (e.at_.length : Int))) + (e.values.length : Int))) > 0) = !emptyE e := by
  obtain ⟨⟨_, h1⟩, ⟨_, h2⟩, ⟨_, h3⟩, ⟨_, h4⟩, ⟨_, h5⟩⟩ := h
  unfold emptyE
  generalize e.ops.length = a1 at *
  generalize e.first.length = a2 at *
  generalize e.deps.length = a3 at *
  generalize e.at_.length = a4 at *
  generalize e.values.length = a5 at *
  rw [wr64 (x := (a1 : Int) + a2) (by omega) (by omega), wr64 (x := (a1 : Int) + a2 + a3) (by omega) (by omega), wr64 (x := (a1 : Int) + a2 + a3 + a4) (by omega) (by omega), wr64 (by omega) (by omega)]
  by_cases h : (a1 : Int) + a2 + a3 + a4 + a5 > 0
  · rw [dec_t h]
    symm
    rw [Bool.not_eq_true']
    apply Bool.eq_false_iff.2
    simp only [ne_eq, Bool.and_eq_true, beq_iff_eq]
    omega
  · rw [dec_f h]
    symm
    rw [Bool.not_eq_false']
    simp only [Bool.and_eq_true, beq_iff_eq]
    omega
theorem nodeGood_ent {fu N k : Nat} {e : GEntry} {there : Bool} (h : ESz e N) (hfu : N ≤ fu) {rec : Int → Option Bool} :
    (bif decide (e.state < 0) then nodeGood_j10 fu k rec e true else (bif decide (e.state > 3) then nodeGood_j10 fu k rec e true else nodeGood_j10 fu k rec e (!((e.state == 3) == there)))) = bif entryOk k e there then nodeGood_j4 k rec else some false := by
  unfold entryOk
  by_cases h1 : e.state < 0
  · rw [bif_t (dec_t h1), dec_f (show ¬ (0 ≤ e.state ∧ e.state ≤ 3) by omega)]; rfl
  · rw [bif_f (dec_f h1)]
    by_cases h2 : e.state > 3
    · rw [bif_t (dec_t h2), dec_f (show ¬ (0 ≤ e.state ∧ e.state ≤ 3) by omega)]; rfl
    · rw [bif_f (dec_f h2), dec_t (show 0 ≤ e.state ∧ e.state ≤ 3 by omega), Bool.true_and]
      unfold nodeGood_j10
      cases h3 : ((e.state == 3) == there)
      · rfl
      · rw [Bool.true_and, bif_f (c := !true) rfl]
        unfold nodeGood_j5 restOk
        cases h0 : (e.state == 0)
        · rw [cond_false, cond_false]
          have hl := nodeGood_l3_eq (y69 := k) (rec70 := rec) h.at_.2 fu e.at_.length 0 (-1) (by omega) (by have := h.at_.1; omega) (by omega) (by omega) (by omega)
          have hl : nodeGood_l3 k rec e fu 0 = bif atUp e.ops.length (-1) e.at_ then nodeGood_j4 k rec else some false := hl
          simp only [some_bind, nodeGood_j9, nodeGood_j6, hl]
          unfold bodyOk
          generalize goodOpsZ e.ops = b1
          generalize risingZ e.first = b2
          generalize risingZ e.deps = b3
          generalize hasZ e.first k = b4
          generalize hasZ e.deps k = b5
          generalize decide ((e.deps.length : Int) > 0) = b7
          generalize decide ((e.at_.length : Int) > 0) = b9
          generalize ((e.at_.length : Int) != (e.values.length : Int)) = b10
          cases b1
          · rfl
          cases b2
          · rfl
          cases b3
          · rfl
          cases b4
          case true => rfl
          cases b5
          case true => rfl
          generalize (e.state == 1) = b6
          generalize (e.state != 3) = b8
          cases b6 <;> cases b7 <;> cases b8 <;> cases b9 <;> cases b10 <;> rfl
        · rw [cond_true, cond_true, empty_sum h]
          cases emptyE e <;> rfl
theorem nodeGood_l2_eq {fu N : Nat} {s : GNode} {d : Vector Bool 32} (h : NSz s N) (hfu : N ≤ fu) : ∀ (n m k : Nat), k + m = 32 → m < n → ∃ b, nodeGood_l2 fu s d n k = some b ∧ (b = true ↔ ∀ j, k ≤ j → j < 32 → entryOk j (eat s.entries j) (bat d j) = true)
  | 0, m, k, _, h => absurd h (by omega)
  | n + 1, 0, k, hk, _ => ⟨true, by rw [nodeGood_l2, bif_f (dec_f (by omega))], by simp only [true_iff]; intro j h1 h2; omega⟩
  | n + 1, m + 1, k, hk, hn => by
    have hk32 : k < 32 := by omega
    obtain ⟨b, h1, h2⟩ := nodeGood_l2_eq (d := d) h hfu n m (k + 1) (by omega) (by omega)
    rw [nodeGood_l2, bif_t (dec_t (by omega)), idxE hk32, some_bind, some_bind, inR_ok (by omega) (by omega), some_bind, idxB hk32, some_bind, nodeGood_ent (h.ent k) hfu]
    cases he : entryOk k (eat s.entries k) (bat d k) with
    | false =>
      refine ⟨false, rfl, ?_⟩
      simp only [Bool.false_eq_true, false_iff]
      intro h
      rw [h k (Nat.le_refl _) hk32] at he; cases he
    | true =>
      refine ⟨b, ?_, ?_⟩
      · rw [cond_true, nodeGood_j4, wrs k (by omega)]; exact h1
      · rw [h2]
        constructor
        · intro h j hj
          by_cases e : j = k
          · subst e; intro _; exact he
          · exact h j (by omega)
        · intro h j hj
          exact h j (by omega)
theorem entry_three {k : Int} {e : GEntry} {t : Bool} (h : entryOk k e t = true) : (e.state = 3 ↔ t = true) := by
  unfold entryOk at h
  simp only [Bool.and_eq_true] at h
  have h1 := h.2.1
  cases t
  · simp at h1; simp [h1]
  · simp at h1; simp [h1]
theorem nodeGood_l1_eq {fu N : Nat} {s : GNode} (h : NSz s N) (hfu : N + 40 ≤ fu) : ∀ (n m k : Nat) (d : Vector Bool 32), s.order.length = k + m → m < n → (s.order.take k).Nodup → (∀ x ∈ s.order.take k, (0 ≤ x ∧ x < 32)) → (∀ j, j < 32 → bat d j = decide ((j : Int) ∈ s.order.take k)) →
    ∃ b, nodeGood_l1 fu s n d k = some b ∧ (b = true ↔ GoodN s)
  | 0, m, k, d, _, h, _, _, _ => absurd h (by omega)
  | n + 1, 0, k, d, hk, _, h1, h2, h3 => by
    have hlen := h.order.2
    rw [nodeGood_l1, bif_f (dec_f (by omega))]
    rw [List.take_of_length_le (by omega)] at h1 h2 h3
    obtain ⟨b, e1, e2⟩ := nodeGood_l2_eq (d := d) h (show N ≤ fu by omega) fu 32 0 (by omega) (by omega)
    refine ⟨b, e1, ?_⟩
    rw [e2]
    constructor
    · intro h
      exact ⟨h1, h2, fun k hk => by rw [← h3 k hk]; exact h k (Nat.zero_le _) hk⟩
    · intro h j _ hj
      rw [h3 j hj]
      exact h.ent j hj
  | n + 1, m + 1, k, d, hk, hn, h1, h2, h3 => by
    have hlt : k < s.order.length := by omega
    have hx : s.order[k]? = some s.order[k] := List.getElem?_eq_getElem hlt
    have hmem : s.order[k] ∈ s.order := List.getElem_mem hlt
    have htk : s.order.take (k + 1) = s.order.take k ++ [s.order[k]] := (List.take_append_getElem hlt).symm
    have hlen := h.order.2
    rw [nodeGood_l1, bif_t (dec_t (by omega)), idx_nat, hx, some_bind]
    have ih := nodeGood_l1_eq h hfu n m (k + 1)
    rw [htk] at ih
    generalize hg : s.order[k] = x at *
    rcases int_cases x with ⟨y, hy, rfl⟩ | hno
    · rw [bif_f (dec_f (by omega)), bif_f (dec_f (by omega)), inR_ok (by omega) (by omega), some_bind, idxB hy, some_bind]
      cases hb : bat d y with
      | true =>
        refine ⟨false, rfl, ?_⟩
        simp only [Bool.false_eq_true, false_iff]
        intro hG
        have hin : (y : Int) ∈ s.order.take k := by rw [h3 y hy] at hb; simpa using hb
        have hnd := hG.nodup
        rw [← List.take_append_drop (k + 1) s.order, htk] at hnd
        have := (List.nodup_append.1 (List.nodup_append.1 hnd).1).2.2 _ hin _ (List.mem_singleton.2 rfl)
        exact this rfl
      | false =>
        have hnin : (y : Int) ∉ s.order.take k := by rw [h3 y hy] at hb; simpa using hb
        rw [cond_false, some_bind, idxE hy, some_bind]
        cases h3s : ((eat s.entries y).state != 3) with
        | true =>
          refine ⟨false, rfl, ?_⟩
          simp only [Bool.false_eq_true, false_iff]
          intro hG
          have := (entry_three (hG.ent y hy)).2 (by simpa using hmem)
          rw [this] at h3s; cases h3s
        | false =>
          unfold nodeGood_j3 nodeGood_j2 nodeGood_j1
          rw [cond_false, inR_ok (by omega) (by omega), some_bind, idxB hy, some_bind, setV_ok hy, some_bind, some_bind, wrs k (by omega)]
          refine ih (d.set y true) (by omega) (by omega) ?_ ?_ ?_
          · refine List.nodup_append.2 ⟨h1, by simp, fun a ha b hb => ?_⟩
            rw [List.mem_singleton.1 hb]
            rintro rfl
            exact hnin ha
          · intro z hz
            rcases List.mem_append.1 hz with hz | hz
            · exact h2 z hz
            · rw [List.mem_singleton.1 hz]; omega
          · intro j hj
            rw [bat_set hy]
            by_cases e : y = j
            · subst e; simp
            · rw [if_neg e, h3 j hj]
              congr 1
              simp only [List.mem_append, List.mem_singleton, eq_iff_iff]
              constructor
              · exact .inl
              · rintro (h | h)
                · exact h
                · omega
    · have : nodeGood_j3 d k (nodeGood_l1 fu s n) x true = some false := rfl
      refine ⟨false, ?_, ?_⟩
      · by_cases h0 : x < 0
        · rw [bif_t (dec_t h0)]; rfl
        · rw [bif_f (dec_f h0), bif_t (dec_t (by omega))]; rfl
      · simp only [Bool.false_eq_true, false_iff]
        intro hG
        exact hno (hG.inr x hmem)
theorem nodeGoodD_eq {fu N : Nat} {s : GNode} (h : NSz s N) (hfu : N + 40 ≤ fu) : nodeGoodD fu s = some (goodN s) := by
  unfold nodeGoodD
  rw [some_bind]
  obtain ⟨b, h1, h2⟩ := nodeGood_l1_eq h hfu fu s.order.length 0 (Zr.zd : Vector Bool 32) (by omega) (by have := h.order.1; omega) (by simp) (by simp) (fun j _ => by rw [bat_zero]; simp)
  have h1 : nodeGood_l1 fu s fu (Zr.zd : Vector Bool 32) 0 = some b := h1
  rw [h1]
  congr 1
  rw [Bool.eq_iff_iff, h2, goodN_iff]
end Go.Proofs.Ytopgdemmdcipcaa
namespace Go.Proofs.Ytopgdemmdcipcaa
open Go.RowKit
open Rep (rep)
def entryC (k : Int) (e : GEntry) (c : Int) : Bool := decide (0 ≤ e.state ∧ e.state ≤ 3) && ((bif e.state == 3 then c == 1 else c == 0) && restOk k e)
theorem isNode_l3_eq {y : Int} {rec : Int → Option Bool} {e : GEntry} (ha : e.at_.length ≤ 17592186043904) : ∀ (n m k : Nat) (b : Int), e.at_.length = k + m → m < n →
    isNode_l3 y rec e n b k = bif atUp e.ops.length b (e.at_.drop k) then isNode_j1 y rec else some false
  | 0, m, k, b, _, h => absurd h (by omega)
  | n + 1, 0, k, b, hk, _ => by
    rw [isNode_l3, bif_f (dec_f (by omega)), List.drop_of_length_le (by omega)]
    rfl
  | n + 1, m + 1, k, b, hk, hn => by
    have hlt : k < e.at_.length := by omega
    have hx : e.at_[k]? = some e.at_[k] := List.getElem?_eq_getElem hlt
    have ih := isNode_l3_eq (y := y) (rec := rec) ha n m (k + 1) e.at_[k] (by omega) (by omega)
    rw [isNode_l3, bif_t (dec_t (by omega)), idx_nat, hx, some_bind, List.drop_eq_getElem_cons hlt]
    simp only [isNode_j8, isNode_j7, isNode_j6, wrs k (by omega), atUp]
    rw [ih]
    generalize e.at_[k] = x
    by_cases h1 : x ≤ b
    · rw [bif_t (dec_t h1), dec_f (show ¬ (b < x ∧ x < (e.ops.length : Int)) by omega)]
      rfl
    · rw [bif_f (dec_f h1)]
      by_cases h2 : x ≥ (e.ops.length : Int)
      · rw [dec_t h2, dec_f (show ¬ (b < x ∧ x < (e.ops.length : Int)) by omega)]
        rfl
      · rw [dec_f h2, dec_t (show b < x ∧ x < (e.ops.length : Int) by omega)]
        rfl
theorem sameEntry_zero {fu N : Nat} {e : GEntry} (h : ESz e N) (hf : 0 < fu) (h0 : (e.state == 0) = true) :
    sameEntryD fu e { state := Zr.zd, ops := Zr.zd, first := Zr.zd, deps := Zr.zd, at_ := Zr.zd, values := Zr.zd } = some (emptyE e) := by
  unfold sameEntryD
  have e0 : (e.state == (Zr.zd : Int)) = true := h0
  have e1 : sameOpsD fu e.ops (Zr.zd : List GOp) = some ((e.ops.length : Int) == 0) := sameOpsD_nil hf
  have e2 : ∀ l : List Int, sameZ l (Zr.zd : List Int) = ((l.length : Int) == 0) := sameZ_nil
  rw [e0, cond_true, e1, some_bind]
  simp only [some_bind, e2, sameEntry_j1]
  unfold emptyE
  cases ((e.ops.length : Int) == 0) <;> cases ((e.first.length : Int) == 0) <;> cases ((e.deps.length : Int) == 0) <;> cases ((e.at_.length : Int) == 0) <;> rfl
def isNodeTail (fu : Nat) (y8 : Int) (rec9 : Int → Option Bool) (d25 : GEntry) (y31 : Int) : Option Bool :=
    (bif decide (d25.state < 0) then
    isNode_j11 fu y8 rec9 d25 true
    else
    (bif decide (d25.state > 3) then
    isNode_j11 fu y8 rec9 d25 true
    else
    (bif d25.state == 3 then
    (bif y31 != 1 then
    isNode_j11 fu y8 rec9 d25 true
    else
    (bif d25.state != 3 then
    isNode_j11 fu y8 rec9 d25 (y31 != 0)
    else
    isNode_j11 fu y8 rec9 d25 false))
    else
    (bif d25.state != 3 then
    isNode_j11 fu y8 rec9 d25 (y31 != 0)
    else
    isNode_j11 fu y8 rec9 d25 false))))
theorem isNodeTail_eq {fu N k : Nat} {e : GEntry} {c : Int} (h : ESz e N) (hfu : N < fu) {rec : Int → Option Bool} : isNodeTail fu k rec e c = bif entryC k e c then isNode_j1 k rec else some false := by
  unfold isNodeTail entryC
  by_cases h1 : e.state < 0
  · rw [bif_t (dec_t h1), dec_f (show ¬ (0 ≤ e.state ∧ e.state ≤ 3) by omega)]; rfl
  · rw [bif_f (dec_f h1)]
    by_cases h2 : e.state > 3
    · rw [bif_t (dec_t h2), dec_f (show ¬ (0 ≤ e.state ∧ e.state ≤ 3) by omega)]; rfl
    · rw [bif_f (dec_f h2), dec_t (show 0 ≤ e.state ∧ e.state ≤ 3 by omega), Bool.true_and]
      have hcut : (bif e.state == 3 then (bif c != 1 then isNode_j11 fu k rec e true else (bif e.state != 3 then isNode_j11 fu k rec e (c != 0) else isNode_j11 fu k rec e false)) else (bif e.state != 3 then isNode_j11 fu k rec e (c != 0) else isNode_j11 fu k rec e false))
          = isNode_j11 fu k rec e (!(bif e.state == 3 then c == 1 else c == 0)) := by
        have hne : (e.state != 3) = !(e.state == 3) := rfl
        have hn1 : (c != 1) = !(c == 1) := rfl
        have hn0 : (c != 0) = !(c == 0) := rfl
        rw [hne, hn1, hn0]
        cases (e.state == 3) <;> cases (c == 1) <;> cases (c == 0) <;> rfl
      rw [hcut]
      unfold isNode_j11
      cases (bif e.state == 3 then c == 1 else c == 0)
      · rfl
      · rw [Bool.true_and, bif_f (c := !true) rfl]
        unfold isNode_j3 restOk
        cases h0 : (e.state == 0)
        · rw [cond_false, cond_false]
          have hl := isNode_l3_eq (y := k) (rec := rec) h.at_.2 fu e.at_.length 0 (-1) (by omega) (by have := h.at_.1; omega)
          have hl : isNode_l3 k rec e fu (-1) 0 = bif atUp e.ops.length (-1) e.at_ then isNode_j1 k rec else some false := hl
          simp only [some_bind, isNode_j10, isNode_j9, isNode_j5, isNode_j4, hl]
          have hlt : decide (e.state < 3) = (e.state != 3) := by
            by_cases h3 : e.state = 3
            · rw [h3]; rfl
            · rw [dec_t (show e.state < 3 by omega)]
              simp [h3]
          rw [hlt]
          unfold bodyOk
          generalize goodOpsZ e.ops = b1
          generalize risingZ e.first = b2
          generalize risingZ e.deps = b3
          generalize hasZ e.first k = b4
          generalize hasZ e.deps k = b5
          generalize decide ((e.deps.length : Int) > 0) = b7
          generalize decide ((e.at_.length : Int) > 0) = b9
          generalize ((e.at_.length : Int) != (e.values.length : Int)) = b10
          cases b1
          · rfl
          cases b2
          · rfl
          cases b3
          · rfl
          cases b4
          case true => rfl
          cases b5
          case true => rfl
          generalize (e.state == 1) = b6
          generalize (e.state != 3) = b8
          cases b6 <;> cases b7 <;> cases b8 <;> cases b9 <;> cases b10 <;> rfl
        · rw [cond_true, cond_true, some_bind, sameEntry_zero h (by omega) h0, some_bind]
          cases emptyE e <;> rfl
theorem isNode_l2_eq {fu : Nat} {s : GNode} {y : Int} {rec : Int → Option Bool} {e : GEntry} (ho : s.order.length ≤ 17592186043904) : ∀ (n m k : Nat) (c : Int), s.order.length = k + m → m < n → 0 ≤ c → c + m ≤ 17592186043904 →
    isNode_l2 fu s y rec e n c k = isNodeTail fu y rec e (c + ((s.order.drop k).count y : Nat))
  | 0, m, k, c, _, h, _, _ => absurd h (by omega)
  | n + 1, 0, k, c, hk, _, _, _ => by
    rw [isNode_l2, bif_f (dec_f (by omega)), List.drop_of_length_le (by omega)]
    simp [isNodeTail]
  | n + 1, m + 1, k, c, hk, hn, hc, hc2 => by
    have hlt : k < s.order.length := by omega
    have hx : s.order[k]? = some s.order[k] := List.getElem?_eq_getElem hlt
    rw [isNode_l2, bif_t (dec_t (by omega)), idx_nat, hx, some_bind, List.drop_eq_getElem_cons hlt, List.count_cons]
    simp only [isNode_j2, wrs k (by omega)]
    cases h : (s.order[k] == y)
    · rw [cond_false, isNode_l2_eq ho n m (k + 1) c (by omega) (by omega) hc (by omega)]
      simp
    · rw [cond_true, wr64 (by omega) (by omega), isNode_l2_eq ho n m (k + 1) (c + 1) (by omega) (by omega) (by omega) (by omega)]
      congr 1
      simp only [if_true]
      omega
theorem isNode_l4_eq {s : GNode} (ho : s.order.length ≤ 17592186043904) : ∀ (n m k : Nat), s.order.length = k + m → m < n → ∃ b, isNode_l4 s n k = some b ∧ (b = true ↔ ∀ x ∈ s.order.drop k, 0 ≤ x ∧ x < 32)
  | 0, m, k, _, h => absurd h (by omega)
  | n + 1, 0, k, hk, _ => ⟨true, by rw [isNode_l4, bif_f (dec_f (by omega))], by rw [List.drop_of_length_le (by omega)]; simp⟩
  | n + 1, m + 1, k, hk, hn => by
    have hlt : k < s.order.length := by omega
    have hx : s.order[k]? = some s.order[k] := List.getElem?_eq_getElem hlt
    obtain ⟨b, h1, h2⟩ := isNode_l4_eq ho n m (k + 1) (by omega) (by omega)
    rw [isNode_l4, bif_t (dec_t (by omega)), idx_nat, hx, some_bind, some_bind, List.drop_eq_getElem_cons hlt, wrs k (by omega), h1]
    by_cases h : 0 ≤ s.order[k] ∧ s.order[k] < 32
    · refine ⟨b, by rw [dec_t h]; rfl, ?_⟩
      rw [h2]
      constructor
      · intro hA x hx
        rcases List.mem_cons.1 hx with rfl | hx
        · exact h
        · exact hA x hx
      · intro hA x hx
        exact hA x (List.mem_cons_of_mem _ hx)
    · refine ⟨false, by rw [dec_f h]; rfl, ?_⟩
      simp only [Bool.false_eq_true, false_iff]
      intro hA
      exact h (hA _ List.mem_cons_self)
theorem isNode_l1_eq {fu N : Nat} {s : GNode} (h : NSz s N) (hfu : N < fu) : ∀ (n m k : Nat), k + m = 32 → m < n → ∃ b, isNode_l1 fu s n k = some b ∧ (b = true ↔ (∀ j, k ≤ j → j < 32 → entryC j (eat s.entries j) (s.order.count (j : Int) : Nat) = true) ∧ ∀ x ∈ s.order, 0 ≤ x ∧ x < 32)
  | 0, m, k, _, h => absurd h (by omega)
  | n + 1, 0, k, hk, _ => by
    obtain ⟨b, h1, h2⟩ := isNode_l4_eq h.order.2 fu s.order.length 0 (by omega) (by have := h.order.1; omega)
    have h1 : isNode_l4 s fu 0 = some b := h1
    refine ⟨b, by rw [isNode_l1, bif_f (dec_f (by omega)), h1], ?_⟩
    rw [h2]
    simp only [List.drop_zero]
    exact ⟨fun h => ⟨fun j h1 h2 => by omega, h⟩, fun h => h.2⟩
  | n + 1, m + 1, k, hk, hn => by
    have hk32 : k < 32 := by omega
    obtain ⟨b, h1, h2⟩ := isNode_l1_eq h hfu n m (k + 1) (by omega) (by omega)
    have ho := h.order
    have hl := isNode_l2_eq (fu := fu) (y := (k : Int)) (rec := isNode_l1 fu s n) (e := eat s.entries k) ho.2 fu s.order.length 0 0 (by omega) (by omega) (by omega) (by omega)
    have hl : isNode_l2 fu s k (isNode_l1 fu s n) (eat s.entries k) fu 0 0 = isNodeTail fu k (isNode_l1 fu s n) (eat s.entries k) (0 + (s.order.count (k : Int) : Nat)) := hl
    rw [isNode_l1, bif_t (dec_t (by omega)), idxE hk32, some_bind, some_bind, hl, isNodeTail_eq (h.ent k) hfu, Int.zero_add]
    cases he : entryC k (eat s.entries k) (s.order.count (k : Int) : Nat) with
    | false =>
      refine ⟨false, rfl, ?_⟩
      simp only [Bool.false_eq_true, false_iff]
      intro h
      rw [h.1 k (Nat.le_refl _) hk32] at he; cases he
    | true =>
      refine ⟨b, ?_, ?_⟩
      · rw [cond_true, isNode_j1, wrs k (by omega)]; exact h1
      · rw [h2]
        refine and_congr_left fun _ => ?_
        constructor
        · intro h j hj
          by_cases e : j = k
          · subst e; intro _; exact he
          · exact h j (by omega)
        · intro h j hj
          exact h j (by omega)
theorem entryC_iff {k : Int} {e : GEntry} {l : List Int} (h : l.Nodup) : entryC k e (l.count k : Nat) = entryOk k e (decide (k ∈ l)) := by
  unfold entryC entryOk
  congr 2
  rw [h.count]
  cases h3 : (e.state == 3)
  · by_cases hm : k ∈ l
    · simp [hm]
    · simp [hm]
  · by_cases hm : k ∈ l
    · simp [hm]
    · simp [hm]
theorem isNode_iff {s : GNode} : ((∀ j : Nat, 0 ≤ j → j < 32 → entryC j (eat s.entries j) (s.order.count (j : Int) : Nat) = true) ∧ ∀ x ∈ s.order, 0 ≤ x ∧ x < 32) ↔ GoodN s := by
  constructor
  · intro h
    have hn : s.order.Nodup := by
      rw [List.nodup_iff_count]
      intro a
      by_cases ha : a ∈ s.order
      · have hr := h.2 a ha
        obtain ⟨j, rfl⟩ : ∃ j : Nat, a = j := ⟨a.toNat, by omega⟩
        have h1 := h.1 j (Nat.zero_le _) (by omega)
        unfold entryC at h1
        simp only [Bool.and_eq_true] at h1
        have h2 := h1.2.1
        cases h3 : ((eat s.entries j).state == 3) <;> rw [h3] at h2 <;> simp at h2
        · omega
        · omega
      · rw [List.count_eq_zero.2 ha]; omega
    exact ⟨hn, h.2, fun k hk => by rw [← entryC_iff hn]; exact h.1 k (Nat.zero_le _) hk⟩
  · intro h
    exact ⟨fun j _ hj => by rw [entryC_iff h.nodup]; exact h.ent j hj, h.inr⟩
theorem isNodeD_eq {fu N : Nat} {s : GNode} (h : NSz s N) (hfu : N + 40 ≤ fu) : isNodeD fu s = some (goodN s) := by
  unfold isNodeD
  obtain ⟨b, h1, h2⟩ := isNode_l1_eq h (show N < fu by omega) fu 32 0 (by omega) (by omega)
  have h1 : isNode_l1 fu s fu 0 = some b := h1
  rw [h1]
  congr 1
  rw [Bool.eq_iff_iff, h2, goodN_iff, isNode_iff]
theorem entry_upd {s : GNode} {k : Nat} (hk : k < 32) {e : GEntry} (h : e = eat s.entries k) : ({ s with entries := s.entries.set k e } : GNode) = s := by
  have : s.entries.set k e = s.entries := by
    refine eat_ext fun j hj => ?_
    rw [eat_set hk]
    by_cases e' : k = j
    · subst e'; rw [if_pos rfl, h]
    · rw [if_neg e']
  rw [this]
theorem copyNode_l1_eq {N : Nat} {s : GNode} (h : NSz s N) : ∀ (n m k : Nat), k + m = 32 → m < n → copyNode_l1 n s k = some s
  | 0, m, k, _, h => absurd h (by omega)
  | n + 1, 0, k, hk, _ => by rw [copyNode_l1, bif_f (dec_f (by omega)), some_bind]
  | n + 1, m + 1, k, hk, hn => by
    have hk32 : k < 32 := by omega
    have hz := h.ent k
    have hb : Rep.bytes Int = 8 := rfl
    have hb2 : Rep.bytes GOp = 24 := rfl
    rw [copyNode_l1, bif_t (dec_t (by omega)), inR_ok (by omega) (by omega), some_bind, idxE hk32, some_bind, some_bind, some_bind]
    rw [app_ok (by rw [hb2]; have := hz.ops.2; simp only [List.length_nil]; omega), some_bind, app_ok (by rw [hb]; have := hz.first.2; simp only [List.length_nil]; omega), some_bind, app_ok (by rw [hb]; have := hz.deps.2; simp only [List.length_nil]; omega), some_bind, some_bind]
    rw [List.nil_append, List.nil_append, List.nil_append, setV_ok hk32, some_bind, some_bind, entry_upd hk32 rfl, idxE hk32, some_bind, setV_ok hk32, some_bind, some_bind, entry_upd hk32 rfl, idxE hk32, some_bind, setV_ok hk32, some_bind, some_bind, entry_upd hk32 rfl, idxE hk32, some_bind, some_bind]
    rw [app_ok (by rw [hb]; have := hz.at_.2; simp only [List.length_nil]; omega), some_bind, app_ok (by rw [hb]; have := hz.values.2; simp only [List.length_nil]; omega), some_bind, some_bind]
    rw [List.nil_append, List.nil_append, setV_ok hk32, some_bind, some_bind, entry_upd hk32 rfl, idxE hk32, some_bind, setV_ok hk32, some_bind, some_bind, entry_upd hk32 rfl, wrs k (by omega)]
    exact copyNode_l1_eq h n m (k + 1) (by omega) (by omega)
theorem copyNodeD_eq {fu N : Nat} {s : GNode} (h : NSz s N) (hfu : 40 ≤ fu) : copyNodeD fu s = some s := by
  unfold copyNodeD
  have hb : Rep.bytes Int = 8 := rfl
  rw [app_ok (by rw [hb]; have := h.order.2; simp only [List.length_nil]; omega), some_bind, some_bind]
  exact copyNode_l1_eq h fu 32 0 (by omega) (by omega)
def inWay (s : GNode) (id : Int) (ops : List GOp) (sh : Int) (k : Nat) : Bool := (k : Int) != id && ((eat s.entries k).state != 0 && conflictZ (eat s.entries k).ops ops sh)
def aheadL (s : GNode) (id : Int) (ops : List GOp) (sh : Int) : List Nat := (List.range 32).filter (inWay s id ops sh)
def aheadZ (s : GNode) (id : Int) (ops : List GOp) (sh : Int) : List Int := castL (aheadL s id ops sh)
theorem filt_step {p : Nat → Bool} {k m : Nat} : (List.range' k (m + 1)).filter p = (bif p k then [k] else []) ++ (List.range' (k + 1) m).filter p := by
  rw [List.range'_succ, List.filter_cons]
  cases p k <;> rfl
theorem nodeAhead_l1_eq {s : GNode} {id : Int} {ops : List GOp} {sh : Int} : ∀ (n m k : Nat) (l : List Int), k + m = 32 → m < n → l.length ≤ k → nodeAhead_l1 s id ops sh n l k = some (l ++ castL ((List.range' k m).filter (inWay s id ops sh)))
  | 0, m, k, l, _, h, _ => absurd h (by omega)
  | n + 1, 0, k, l, hk, _, _ => by rw [nodeAhead_l1, bif_f (dec_f (by omega))]; simp [castL]
  | n + 1, m + 1, k, l, hk, hn, hl => by
    have hk32 : k < 32 := by omega
    have hb : Rep.bytes Int = 8 := rfl
    have ih := fun l hl => nodeAhead_l1_eq (s := s) (id := id) (ops := ops) (sh := sh) n m (k + 1) l (by omega) (by omega) hl
    rw [nodeAhead_l1, bif_t (dec_t (by omega)), idxE hk32, some_bind, some_bind, some_bind, filt_step]
    simp only [nodeAhead_j2, nodeAhead_j1, wrs k (by omega)]
    have no : ∀ b : Bool, b = false → (bif b then (app l [(k : Int)]).bind fun l44 => nodeAhead_l1 s id ops sh n l44 ((k + 1 : Nat) : Int) else nodeAhead_l1 s id ops sh n l ((k + 1 : Nat) : Int)) = some (l ++ castL ((List.range' (k + 1) m).filter (inWay s id ops sh))) := fun b hb => by
      rw [hb, cond_false, ih l (by omega)]
    have yes : (app l [(k : Int)]).bind (fun l44 => nodeAhead_l1 s id ops sh n l44 ((k + 1 : Nat) : Int)) = some (l ++ castL (k :: (List.range' (k + 1) m).filter (inWay s id ops sh))) := by
      rw [app_ok (by rw [hb]; simp only [List.length_singleton]; omega), some_bind, ih _ (by simp; omega)]
      simp [castL]
    unfold inWay at no yes ⊢
    cases h1 : ((k : Int) != id)
    · exact no false rfl
    · cases h2 : ((eat s.entries k).state != 0)
      · exact no false rfl
      · cases h3 : conflictZ (eat s.entries k).ops ops sh
        · exact no false rfl
        · exact yes
theorem nodeAheadD_eq {fu : Nat} {s : GNode} {id : Int} {ops : List GOp} {sh : Int} (hfu : 40 ≤ fu) : nodeAheadD fu s id ops sh = some (aheadZ s id ops sh) := by
  unfold nodeAheadD
  have h := nodeAhead_l1_eq (s := s) (id := id) (ops := ops) (sh := sh) fu 32 0 [] (by omega) (by omega) (by simp)
  have h : nodeAhead_l1 s id ops sh fu [] 0 = some ([] ++ castL ((List.range' 0 32).filter (inWay s id ops sh))) := h
  rw [h, aheadZ, aheadL, List.range_eq_range']
  rfl
theorem before_l1_eq {s : GNode} {id : Int} {ops : List GOp} {sh : Int} (h0 : ∀ k, k < 32 → 0 ≤ (eat s.entries k).state) : ∀ (n m k : Nat) (l : List Int), k + m = 32 → m < n → l.length ≤ k → before_l1 s id ops sh n l k = some (l ++ castL ((List.range' k m).filter (inWay s id ops sh)))
  | 0, m, k, l, _, h, _ => absurd h (by omega)
  | n + 1, 0, k, l, hk, _, _ => by rw [before_l1, bif_f (dec_f (by omega))]; simp [castL]
  | n + 1, m + 1, k, l, hk, hn, hl => by
    have hk32 : k < 32 := by omega
    have hb : Rep.bytes Int = 8 := rfl
    have ih := fun l hl => before_l1_eq (s := s) (id := id) (ops := ops) (sh := sh) h0 n m (k + 1) l (by omega) (by omega) hl
    rw [before_l1, bif_t (dec_t (by omega)), inR_ok (by omega) (by omega), idxE hk32]
    simp only [some_bind, before_j2, before_j1, wrs k (by omega)]
    rw [filt_step]
    have hs : decide ((eat s.entries k).state > 0) = ((eat s.entries k).state != 0) := by
      have := h0 k hk32
      by_cases h : (eat s.entries k).state = 0
      · rw [h]; rfl
      · rw [dec_t (by omega)]; simp [h]
    rw [hs]
    have no : ∀ b : Bool, b = false → (bif b then (app l [(k : Int)]).bind fun l44 => before_l1 s id ops sh n l44 ((k + 1 : Nat) : Int) else before_l1 s id ops sh n l ((k + 1 : Nat) : Int)) = some (l ++ castL ((List.range' (k + 1) m).filter (inWay s id ops sh))) := fun b hb => by
      rw [hb, cond_false, ih l (by omega)]
    have yes : (app l [(k : Int)]).bind (fun l44 => before_l1 s id ops sh n l44 ((k + 1 : Nat) : Int)) = some (l ++ castL (k :: (List.range' (k + 1) m).filter (inWay s id ops sh))) := by
      rw [app_ok (by rw [hb]; simp only [List.length_singleton]; omega), some_bind, ih _ (by simp; omega)]
      simp [castL]
    unfold inWay at no yes ⊢
    cases h1 : ((k : Int) != id)
    · exact no false rfl
    · cases h2 : ((eat s.entries k).state != 0)
      · exact no false rfl
      · cases h3 : conflictZ (eat s.entries k).ops ops sh
        · exact no false rfl
        · exact yes
theorem beforeD_eq {fu : Nat} {s : GNode} {id : Int} {ops : List GOp} {sh : Int} (h0 : ∀ k, k < 32 → 0 ≤ (eat s.entries k).state) (hfu : 40 ≤ fu) : beforeD fu s id ops sh = some (aheadZ s id ops sh) := by
  unfold beforeD
  have h := before_l1_eq (s := s) (id := id) (ops := ops) (sh := sh) h0 fu 32 0 [] (by omega) (by omega) (by simp)
  have h : before_l1 s id ops sh fu [] 0 = some ([] ++ castL ((List.range' 0 32).filter (inWay s id ops sh))) := h
  rw [h, aheadZ, aheadL, List.range_eq_range']
  rfl
def graphZ (s : GNode) : GGraph := { known := Vector.ofFn fun k : Fin 32 => decide ((eat s.entries k.val).state ≥ 2), deps := Vector.ofFn fun k : Fin 32 => (eat s.entries k.val).deps }
theorem bat_graphZ {s : GNode} {k : Nat} (hk : k < 32) : bat (graphZ s).known k = decide ((eat s.entries k).state ≥ 2) := by
  rw [← bat_lt hk]
  simp [graphZ]
theorem depsAt_graphZ {s : GNode} {k : Nat} (hk : k < 32) : depsAt (graphZ s) k = (eat s.entries k).deps := by
  simp [graphZ, depsAt, hk]
theorem depsAt_set {g : GGraph} {v : Vector (List Int) 32} {k j : Nat} {x : List Int} (hk : k < 32) : depsAt { g with deps := v.set k x } j = if k = j then x else depsAt { g with deps := v } j := by
  unfold depsAt
  by_cases hj : j < 32
  · simp only [hj, dite_true, Vector.getElem_set]
  · have : k ≠ j := by omega
    simp [hj, this]
theorem graph_ext {g h : GGraph} (h1 : ∀ k, k < 32 → bat g.known k = bat h.known k) (h2 : ∀ k, k < 32 → depsAt g k = depsAt h k) : g = h := by
  obtain ⟨a, b⟩ := g
  obtain ⟨c, d⟩ := h
  have e1 : a = c := bat_ext h1
  have e2 : b = d := Vector.ext fun k hk => by
    have := h2 k hk
    simpa [depsAt, hk] using this
  rw [e1, e2]
def GraphOf (s : GNode) (G : GGraph) : Prop := ∀ k, k < 32 → bat G.known k = decide ((eat s.entries k).state ≥ 2) ∧ depsAt G k = (eat s.entries k).deps
theorem graphZ_of (s : GNode) : GraphOf s (graphZ s) := fun _ hk => ⟨bat_graphZ hk, depsAt_graphZ hk⟩
theorem nodeGraph_l1_eq {s : GNode} {G : GGraph} (hG : GraphOf s G) : ∀ (n m k : Nat) (g : GGraph), k + m = 32 → m < n → (∀ j, j < k → bat g.known j = bat G.known j ∧ depsAt g j = depsAt G j) → nodeGraph_l1 s n g k = some G
  | 0, m, k, g, _, h, _ => absurd h (by omega)
  | n + 1, 0, k, g, hk, _, hg => by
    rw [nodeGraph_l1, bif_f (dec_f (by omega)), some_bind]
    exact congrArg some (graph_ext (fun j hj => (hg j (by omega)).1) fun j hj => (hg j (by omega)).2)
  | n + 1, m + 1, k, g, hk, hn, hg => by
    have hk32 : k < 32 := by omega
    rw [nodeGraph_l1, bif_t (dec_t (by omega)), idxE hk32, some_bind, some_bind, inR_ok (by omega) (by omega), some_bind, idxB hk32, some_bind, setV_ok hk32, some_bind, some_bind, some_bind, idxD hk32, some_bind, setV_ok hk32, some_bind, some_bind, wrs k (by omega)]
    refine nodeGraph_l1_eq hG n m (k + 1) _ (by omega) (by omega) fun j hj => ?_
    have hj32 : j < 32 := by omega
    refine ⟨?_, ?_⟩
    · show bat (g.known.set k _) j = _
      rw [bat_set hk32]
      by_cases e : k = j
      · subst e; rw [if_pos rfl, (hG k hk32).1]
      · rw [if_neg e]; exact (hg j (by omega)).1
    · rw [depsAt_set hk32]
      by_cases e : k = j
      · subst e; rw [if_pos rfl, (hG k hk32).2]
      · rw [if_neg e]
        exact (hg j (by omega)).2
theorem nodeGraphD_eq {fu : Nat} {s : GNode} (hfu : 40 ≤ fu) : nodeGraphD fu s = some (graphZ s) := nodeGraph_l1_eq (graphZ_of s) fu 32 0 _ (by omega) (by omega) fun j h => by omega
theorem graphOf_l1_eq {s : GNode} {G : GGraph} (hG : GraphOf s G) : ∀ (n m k : Nat) (g : GGraph), k + m = 32 → m < n → (∀ j, j < k → bat g.known j = bat G.known j ∧ depsAt g j = depsAt G j) → graphOf_l1 s n g k = some G
  | 0, m, k, g, _, h, _ => absurd h (by omega)
  | n + 1, 0, k, g, hk, _, hg => by
    rw [graphOf_l1, bif_f (dec_f (by omega)), some_bind]
    exact congrArg some (graph_ext (fun j hj => (hg j (by omega)).1) fun j hj => (hg j (by omega)).2)
  | n + 1, m + 1, k, g, hk, hn, hg => by
    have hk32 : k < 32 := by omega
    rw [graphOf_l1, bif_t (dec_t (by omega)), inR_ok (by omega) (by omega), some_bind, idxE hk32, some_bind, some_bind, idxB hk32, some_bind, setV_ok hk32, some_bind, some_bind, some_bind, some_bind, some_bind, idxD hk32, some_bind, setV_ok hk32, some_bind, some_bind, wrs k (by omega)]
    refine graphOf_l1_eq hG n m (k + 1) _ (by omega) (by omega) fun j hj => ?_
    have hj32 : j < 32 := by omega
    refine ⟨?_, ?_⟩
    · show bat (g.known.set k _) j = _
      rw [bat_set hk32]
      by_cases e : k = j
      · subst e
        rw [if_pos rfl, (hG k hk32).1]
        congr 1
      · rw [if_neg e]; exact (hg j (by omega)).1
    · rw [depsAt_set hk32]
      by_cases e : k = j
      · subst e; rw [if_pos rfl, (hG k hk32).2]
      · rw [if_neg e]
        exact (hg j (by omega)).2
theorem graphOfD_eq {fu : Nat} {s : GNode} (hfu : 40 ≤ fu) : graphOfD fu s = some (graphZ s) := graphOf_l1_eq (graphZ_of s) fu 32 0 _ (by omega) (by omega) fun j h => by omega
end Go.Proofs.Ytopgdemmdcipcaa
namespace Go.Proofs.Ytopgdemmdcipcaa
open Go.RowKit
open Rep (rep)
theorem frameZ_in {f : GFrame} (h : frameZ f = 0) : (1 ≤ f.kind ∧ f.kind ≤ 5) ∧ (0 ≤ f.node ∧ f.node < 6) ∧ (0 ≤ f.id ∧ f.id < 32) := by
  unfold frameZ at h
  split at h
  · cases h
  · split at h
    · cases h
    · omega
theorem setV_in {α : Type} {n : Nat} {v : Vector α n} {j : Int} {x : α} (h0 : 0 ≤ j) (h1 : j < n) : setV v j x = some (v.setIfInBounds j.toNat x) := by
  unfold setV
  rw [if_pos ⟨h0, h1⟩]
theorem idxV_in' {n : Nat} {v : Vector Int n} {j : Int} (h0 : 0 ≤ j) (h1 : j < n) : idxV v j = some (v[j.toNat]?.getD 0) := by
  unfold idxV
  rw [if_pos h0]
  have : j.toNat < n := by omega
  simp [this]
end Go.Proofs.Ytopgdemmdcipcaa
namespace Go.Proofs.Ytopgdemmdcipcaa
open Go.RowKit
open Rep (rep)
def vat (v : Vector Int 8) (k : Nat) : Int := v[k]?.getD 0
theorem idxV8 {v : Vector Int 8} {j : Int} (h0 : 0 ≤ j) (h1 : j < 8) : idxV v j = some (vat v j.toNat) := idxV_in' h0 h1
theorem vat_set {v : Vector Int 8} {k j : Nat} {x : Int} (hk : k < 8) : vat (v.setIfInBounds k x) j = if k = j then x else vat v j := by
  unfold vat
  rw [Vector.getElem?_setIfInBounds]
  by_cases e : k = j
  · rw [if_pos e, if_pos e, if_pos hk]; rfl
  · rw [if_neg e, if_neg e]
theorem eat_setI {v : Vector GEntry 32} {k j : Nat} {x : GEntry} (hk : k < 32) : eat (v.setIfInBounds k x) j = if k = j then x else eat v j := by
  unfold eat
  rw [Vector.getElem?_setIfInBounds]
  by_cases e : k = j
  · rw [if_pos e, if_pos e, if_pos hk]; rfl
  · rw [if_neg e, if_neg e]
theorem setE {v : Vector GEntry 32} {k : Nat} {x : GEntry} (hk : k < 32) : setV v (k : Int) x = some (v.setIfInBounds k x) := setV_in (by omega) (by omega)
def doOps (sh : Int) : Nat → List GOp → Vector Int 8 → List Int → List Int → Vector Int 8 × List Int × List Int
  | _, [], v, a, b => (v, a, b)
  | i, o :: t, v, a, b => bif shardZ o.key == sh then doOps sh (i + 1) t (v.setIfInBounds o.key.toNat (doZ (vat v o.key.toNat) o)) (a ++ [(i : Int)]) (b ++ [doZ (vat v o.key.toNat) o]) else doOps sh (i + 1) t v a b
def doneE (e : GEntry) (a b : List Int) : GEntry := { e with state := 3, at_ := a, values := b }
def midN (s : GNode) (n : Nat) (v : Vector Int 8) (a b : List Int) : GNode := { entries := s.entries.setIfInBounds n (doneE (eat s.entries n) a b), order := s.order, values := v }
def oneZ (s : GNode) (n : Nat) (sh : Int) : GNode :=
  { entries := s.entries.setIfInBounds n (doneE (eat s.entries n) (doOps sh 0 (eat s.entries n).ops s.values [] []).2.1 (doOps sh 0 (eat s.entries n).ops s.values [] []).2.2), order := s.order ++ [(n : Int)], values := (doOps sh 0 (eat s.entries n).ops s.values [] []).1 }
theorem midN_set {s : GNode} {n : Nat} {v : Vector Int 8} {a b a' b' : List Int} {e : GEntry} (he : e = doneE (eat s.entries n) a' b') : ({ entries := (midN s n v a b).entries.setIfInBounds n e, order := (midN s n v a b).order, values := (midN s n v a b).values } : GNode) = midN s n v a' b' := by
  unfold midN
  simp only [Vector.setIfInBounds_setIfInBounds, he]
theorem midN_at {s : GNode} {n : Nat} {v : Vector Int 8} {a b a' : List Int} :
    ({ entries := (midN s n v a b).entries.setIfInBounds n { state := (doneE (eat s.entries n) a b).state, ops := (doneE (eat s.entries n) a b).ops, first := (doneE (eat s.entries n) a b).first, deps := (doneE (eat s.entries n) a b).deps, at_ := a', values := (doneE (eat s.entries n) a b).values }, order := (midN s n v a b).order, values := v } : GNode) = midN s n v a' b := midN_set rfl
theorem midN_vs {s : GNode} {n : Nat} {v : Vector Int 8} {a b b' : List Int} :
    ({ entries := (midN s n v a b).entries.setIfInBounds n { state := (doneE (eat s.entries n) a b).state, ops := (doneE (eat s.entries n) a b).ops, first := (doneE (eat s.entries n) a b).first, deps := (doneE (eat s.entries n) a b).deps, at_ := (doneE (eat s.entries n) a b).at_, values := b' }, order := (midN s n v a b).order, values := (midN s n v a b).values } : GNode) = midN s n v a b' := midN_set rfl
theorem midN_ent {s : GNode} {n : Nat} (hn : n < 32) {v : Vector Int 8} {a b : List Int} : eat (midN s n v a b).entries n = doneE (eat s.entries n) a b := by
  unfold midN
  rw [eat_setI hn, if_pos rfl]
def KeyOk (l : List GOp) : Prop := ∀ o ∈ l, 0 ≤ o.key ∧ o.key < 8
theorem KeyOk.of {l : List GOp} (h : goodOpsZ l = true) : KeyOk l := fun o ho => by have := goodOps_mem h o ho; omega
theorem nodeOne_l1_eq {s : GNode} {n : Nat} (hn : n < 32) {sh : Int} {e0 : GEntry} (he : e0 = doneE (eat s.entries n) [] []) (hk : KeyOk (eat s.entries n).ops) (hl : (eat s.entries n).ops.length ≤ 4) (ho : s.order.length ≤ 1000) : ∀ (q m k : Nat) (v : Vector Int 8) (a b : List Int), (eat s.entries n).ops.length = k + m → m < q → a.length ≤ k → b.length = a.length →
    nodeOne_l1 n sh e0 q (midN s n v a b) k = some { midN s n (doOps sh k ((eat s.entries n).ops.drop k) v a b).1 (doOps sh k ((eat s.entries n).ops.drop k) v a b).2.1 (doOps sh k ((eat s.entries n).ops.drop k) v a b).2.2 with order := s.order ++ [(n : Int)] }
  | 0, m, k, v, a, b, _, h, _, _ => absurd h (by omega)
  | q + 1, 0, k, v, a, b, hkm, _, _, _ => by
    have hb : Rep.bytes Int = 8 := rfl
    have hord : (midN s n v a b).order = s.order := rfl
    have e1 : e0.ops = (eat s.entries n).ops := by rw [he]; rfl
    rw [nodeOne_l1, e1, bif_f (dec_f (by omega)), List.drop_of_length_le (by omega), app_ok (by rw [hb, hord]; simp only [List.length_singleton]; omega)]
    rfl
  | q + 1, m + 1, k, v, a, b, hkm, hq, ha, hbl => by
    have hb : Rep.bytes Int = 8 := rfl
    have hlt : k < (eat s.entries n).ops.length := by omega
    have hx : (eat s.entries n).ops[k]? = some (eat s.entries n).ops[k] := List.getElem?_eq_getElem hlt
    have hkey := hk _ (List.getElem_mem hlt)
    have e0 : e0.ops = (eat s.entries n).ops := by rw [he]; rfl
    have ih := fun v a b ha hb => nodeOne_l1_eq hn (sh := sh) he hk hl ho q m (k + 1) v a b (by omega) (by omega) ha hb
    rw [nodeOne_l1, e0, bif_t (dec_t (by omega)), idx_nat, hx, some_bind, some_bind, some_bind, List.drop_eq_getElem_cons hlt]
    simp only [nodeOne_j2, nodeOne_j1, wrs k (by omega), doOps]
    generalize (eat s.entries n).ops[k] = o at hkey
    cases h1 : (shardZ o.key == sh)
    · rw [cond_false, cond_false, ih v a b (by omega) hbl]
    · have hv : (midN s n v a b).values = v := rfl
      rw [cond_true, cond_true, inR_ok hkey.1 hkey.2, some_bind, hv, idxV8 hkey.1 hkey.2, some_bind, some_bind, some_bind, some_bind, setV_in hkey.1 hkey.2, some_bind, some_bind]
      have hm : ({ entries := (midN s n v a b).entries, order := (midN s n v a b).order, values := v.setIfInBounds o.key.toNat (doZ (vat v o.key.toNat) o) } : GNode) = midN s n (v.setIfInBounds o.key.toNat (doZ (vat v o.key.toNat) o)) a b := rfl
      rw [hm]
      generalize hv2 : v.setIfInBounds o.key.toNat (doZ (vat v o.key.toNat) o) = v2
      have hvv : vat v2 o.key.toNat = doZ (vat v o.key.toNat) o := by rw [← hv2, vat_set (by omega), if_pos rfl]
      have hv' : (midN s n v2 a b).values = v2 := rfl
      rw [idxE hn, some_bind, some_bind, some_bind, hv', idxV8 hkey.1 hkey.2, some_bind, midN_ent hn, hvv]
      have e1 : (doneE (eat s.entries n) a b).at_ = a := rfl
      have e2 : (doneE (eat s.entries n) a b).values = b := rfl
      rw [e1, e2, app_ok (by rw [hb]; simp only [List.length_singleton]; omega), some_bind, app_ok (by rw [hb]; simp only [List.length_singleton]; omega), some_bind, some_bind, setE hn, some_bind, some_bind]
      rw [midN_at, idxE hn, some_bind, midN_ent hn, setE hn, some_bind, some_bind, midN_vs]
      exact ih v2 _ _ (by simp; omega) (by simp [hbl])
theorem nodeOneD_eq {fu : Nat} {s : GNode} {n : Nat} (hn : n < 32) {sh : Int} (hk : KeyOk (eat s.entries n).ops) (hl : (eat s.entries n).ops.length ≤ 4) (ho : s.order.length ≤ 1000) (hfu : 5 ≤ fu) : nodeOneD fu s n sh = some (oneZ s n sh) := by
  unfold nodeOneD
  have h := nodeOne_l1_eq hn (sh := sh) (e0 := doneE (eat s.entries n) [] []) rfl hk hl ho fu (eat s.entries n).ops.length 0 s.values [] [] (by omega) (by omega) (by simp) rfl
  have h : nodeOne_l1 n sh (doneE (eat s.entries n) [] []) fu (midN s n s.values [] []) 0 = some (oneZ s n sh) := h
  have e1 : ∀ (x : GEntry), ({ s with entries := s.entries.setIfInBounds n x } : GNode).entries = s.entries.setIfInBounds n x := fun _ => rfl
  rw [inR_ok (by omega) (by omega), some_bind, idxE hn, some_bind, setE hn, some_bind, some_bind]
  rw [e1, idxE hn, some_bind, eat_setI hn, if_pos rfl, setE hn, some_bind, some_bind]
  simp only [Vector.setIfInBounds_setIfInBounds]
  rw [idxE hn, some_bind, eat_setI hn, if_pos rfl, setE hn, some_bind, some_bind]
  simp only [Vector.setIfInBounds_setIfInBounds]
  rw [idxE hn, some_bind, eat_setI hn, if_pos rfl]
  rw [← h]
  rfl
theorem executeOne_l1_eq {s : GNode} {n : Nat} (hn : n < 32) {sh : Int} {e0 e : GEntry} (he : e0 = doneE e [] []) (hk : KeyOk e.ops) (hl : e.ops.length ≤ 4) (ho : s.order.length ≤ 1000) : ∀ (q m k : Nat) (v : Vector Int 8) (a b : List Int), e.ops.length = k + m → m < q → a.length ≤ k → b.length = a.length →
    executeOne_l1 n sh e0 q (doneE e a b) { s with values := v } k = some { entries := s.entries.setIfInBounds n (doneE e (doOps sh k (e.ops.drop k) v a b).2.1 (doOps sh k (e.ops.drop k) v a b).2.2), order := s.order ++ [(n : Int)], values := (doOps sh k (e.ops.drop k) v a b).1 }
  | 0, m, k, v, a, b, _, h, _, _ => absurd h (by omega)
  | q + 1, 0, k, v, a, b, hkm, _, _, _ => by
    have hb : Rep.bytes Int = 8 := rfl
    have e1 : e0.ops = e.ops := by rw [he]; rfl
    rw [executeOne_l1, e1, bif_f (dec_f (by omega)), List.drop_of_length_le (by omega), inR_ok (by omega) (by omega), some_bind, idxE hn, some_bind, setE hn, some_bind, some_bind, app_ok (by rw [hb]; simp only [List.length_singleton]; omega)]
    rfl
  | q + 1, m + 1, k, v, a, b, hkm, hq, ha, hbl => by
    have hb : Rep.bytes Int = 8 := rfl
    have e1 : e0.ops = e.ops := by rw [he]; rfl
    have hlt : k < e.ops.length := by omega
    have hx : e.ops[k]? = some e.ops[k] := List.getElem?_eq_getElem hlt
    have hkey := hk _ (List.getElem_mem hlt)
    have ih := fun v a b ha hb => executeOne_l1_eq hn (sh := sh) he hk hl ho q m (k + 1) v a b (by omega) (by omega) ha hb
    rw [executeOne_l1, e1, bif_t (dec_t (by omega)), idx_nat, hx, some_bind, some_bind, some_bind, List.drop_eq_getElem_cons hlt]
    simp only [executeOne_j2, executeOne_j1, wrs k (by omega), doOps]
    generalize e.ops[k] = o at hkey
    have hne : (shardZ o.key != sh) = !(shardZ o.key == sh) := rfl
    rw [hne]
    cases h1 : (shardZ o.key == sh)
    · rw [Bool.not_false, cond_true, cond_false, ih v a b (by omega) hbl]
    · rw [Bool.not_true, cond_false, cond_true, inR_ok hkey.1 hkey.2, some_bind, idxV8 hkey.1 hkey.2, some_bind, some_bind, some_bind, some_bind, setV_in hkey.1 hkey.2, some_bind, some_bind]
      have e2 : (doneE e a b).at_ = a := rfl
      have e3 : (doneE e a b).values = b := rfl
      rw [e2, e3, app_ok (by rw [hb]; simp only [List.length_singleton]; omega), some_bind, app_ok (by rw [hb]; simp only [List.length_singleton]; omega), some_bind, some_bind, some_bind]
      exact ih _ _ _ (by simp; omega) (by simp [hbl])
theorem executeOneD_eq {fu : Nat} {s : GNode} {n : Nat} (hn : n < 32) {sh : Int} (hk : KeyOk (eat s.entries n).ops) (hl : (eat s.entries n).ops.length ≤ 4) (ho : s.order.length ≤ 1000) (hfu : 5 ≤ fu) : executeOneD fu s n sh = some (oneZ s n sh) := by
  unfold executeOneD
  rw [inR_ok (by omega) (by omega), some_bind, idxE hn, some_bind, some_bind, some_bind, some_bind, some_bind]
  have h := executeOne_l1_eq (s := s) hn (sh := sh) (e := eat s.entries n) rfl hk hl ho fu (eat s.entries n).ops.length 0 s.values [] [] (by omega) (by omega) (by simp) rfl
  exact h
theorem atUp_mono {m : Int} : ∀ {l : List Int} {b b' : Int}, b' ≤ b → atUp m b l = true → atUp m b' l = true
  | [], _, _, _, _ => rfl
  | x :: t, b, b', h, ha => by
    unfold atUp at *
    simp only [Bool.and_eq_true, decide_eq_true_eq] at *
    exact ⟨⟨by omega, ha.1.2⟩, ha.2⟩
theorem doOps_at {sh : Int} : ∀ (l : List GOp) (i : Nat) (v : Vector Int 8) (a b : List Int), ∃ L, (doOps sh i l v a b).2.1 = a ++ L ∧ atUp ((i + l.length : Nat) : Int) ((i : Int) - 1) L = true ∧ (doOps sh i l v a b).2.2.length = b.length + L.length
  | [], i, v, a, b => ⟨[], by simp [doOps], rfl, by simp [doOps]⟩
  | o :: t, i, v, a, b => by
    unfold doOps
    cases h : (shardZ o.key == sh)
    · obtain ⟨L, h1, h2, h3⟩ := doOps_at t (i + 1) v a b
      rw [cond_false]
      refine ⟨L, h1, ?_, h3⟩
      rw [show i + (o :: t).length = i + 1 + t.length from by simp; omega]
      exact atUp_mono (by omega) h2
    · obtain ⟨L, h1, h2, h3⟩ := doOps_at t (i + 1) (v.setIfInBounds o.key.toNat (doZ (vat v o.key.toNat) o)) (a ++ [(i : Int)]) (b ++ [doZ (vat v o.key.toNat) o])
      rw [cond_true]
      refine ⟨(i : Int) :: L, by rw [h1]; simp, ?_, by rw [h3]; simp; omega⟩
      rw [show i + (o :: t).length = i + 1 + t.length from by simp; omega]
      unfold atUp
      simp only [Bool.and_eq_true, decide_eq_true_eq]
      refine ⟨⟨by omega, by omega⟩, ?_⟩
      rw [show (i : Int) = ((i + 1 : Nat) : Int) - 1 from by omega]
      exact h2
theorem entryOk_iff {k : Int} {e : GEntry} {t : Bool} : entryOk k e t = true ↔ (0 ≤ e.state ∧ e.state ≤ 3) ∧ (e.state = 3 ↔ t = true) ∧ restOk k e = true := by
  unfold entryOk
  simp only [Bool.and_eq_true, decide_eq_true_eq]
  refine and_congr_right fun _ => and_congr_left fun _ => ?_
  cases t <;> simp
structure Body (k : Int) (e : GEntry) : Prop where
  ops : goodOpsZ e.ops = true
  first : risingZ e.first = true
  deps : risingZ e.deps = true
  nfirst : hasZ e.first k = false
  ndeps : hasZ e.deps k = false
  asked : e.state = 1 → e.deps = []
  undone : e.state ≠ 3 → e.at_ = []
  same : e.at_.length = e.values.length
  up : atUp e.ops.length (-1) e.at_ = true
theorem body_iff {k : Int} {e : GEntry} : bodyOk k e = true ↔ Body k e := by
  unfold bodyOk
  simp only [Bool.and_eq_true, Bool.not_eq_true']
  constructor
  · rintro ⟨h1, h2, h3, h4, h5, h6, h7, h8, h9⟩
    refine ⟨h1, h2, h3, h4, h5, fun h => ?_, fun h => ?_, ?_, h9⟩
    · rw [h] at h6
      simpa using h6
    · have : (e.state != 3) = true := by simpa using h
      rw [this] at h7
      simpa using h7
    · simp only [bne_eq_false_iff_eq] at h8; omega
  · rintro ⟨h1, h2, h3, h4, h5, h6, h7, h8, h9⟩
    refine ⟨h1, h2, h3, h4, h5, ?_, ?_, ?_, h9⟩
    · by_cases h : e.state = 1
      · rw [h6 h]; simp
      · simp [h]
    · by_cases h : e.state = 3
      · rw [h]; rfl
      · rw [h7 h]; simp
    · simp only [bne_eq_false_iff_eq]; omega
theorem GoodN.body {s : GNode} (h : GoodN s) {k : Nat} (hk : k < 32) (h0 : (eat s.entries k).state ≠ 0) : Body k (eat s.entries k) := by
  have := (entryOk_iff.1 (h.ent k hk)).2.2
  unfold restOk at this
  rw [bif_f (by simpa using h0)] at this
  exact body_iff.1 this
theorem GoodN.state {s : GNode} (h : GoodN s) {k : Nat} (hk : k < 32) : 0 ≤ (eat s.entries k).state ∧ (eat s.entries k).state ≤ 3 := (entryOk_iff.1 (h.ent k hk)).1
theorem GoodN.done {s : GNode} (h : GoodN s) {k : Nat} (hk : k < 32) : (eat s.entries k).state = 3 ↔ (k : Int) ∈ s.order := by
  rw [(entryOk_iff.1 (h.ent k hk)).2.1]; simp
theorem emptyE_iff {e : GEntry} : emptyE e = true ↔ e.ops = [] ∧ e.first = [] ∧ e.deps = [] ∧ e.at_ = [] ∧ e.values = [] := by
  unfold emptyE
  simp [List.length_eq_zero_iff]
theorem GoodN.empty {s : GNode} (h : GoodN s) {k : Nat} (hk : k < 32) (h0 : (eat s.entries k).state = 0) : (eat s.entries k).ops = [] ∧ (eat s.entries k).first = [] ∧ (eat s.entries k).deps = [] ∧ (eat s.entries k).at_ = [] ∧ (eat s.entries k).values = [] := by
  have := (entryOk_iff.1 (h.ent k hk)).2.2
  unfold restOk at this
  rw [bif_t (by simpa using h0)] at this
  exact emptyE_iff.1 this
theorem nodup_len_int {l : List Int} (h : l.Nodup) (hr : ∀ m ∈ l, 0 ≤ m ∧ m < 32) : l.length ≤ 32 := by
  have h1 : (l.map Int.toNat).Nodup := by
    refine List.pairwise_map.2 (h.imp_of_mem fun {a b} ha hb hab => ?_)
    have := hr a ha
    have := hr b hb
    omega
  have := nodup_len 32 (l.map Int.toNat) h1 fun x hx => by
    obtain ⟨y, hy, rfl⟩ := List.mem_map.1 hx
    have := hr y hy
    omega
  simpa using this
theorem GoodN.len {s : GNode} (h : GoodN s) : s.order.length ≤ 32 := nodup_len_int h.nodup h.inr
theorem GoodN.set {s t : GNode} (h : GoodN s) {n : Nat} (hn : n < 32) {e : GEntry} (he : t.entries = s.entries.setIfInBounds n e) (ho : t.order = s.order) (h3 : (eat s.entries n).state ≠ 3) (h1 : 1 ≤ e.state ∧ e.state ≤ 2) (hb : Body n e) : GoodN t := by
  refine ⟨by rw [ho]; exact h.nodup, by rw [ho]; exact h.inr, fun k hk => ?_⟩
  rw [he, ho, eat_setI hn]
  by_cases e' : n = k
  · subst e'
    rw [if_pos rfl]
    refine entryOk_iff.2 ⟨by omega, ⟨fun h => by omega, fun hm => ?_⟩, ?_⟩
    · exact absurd ((h.done hn).2 (by simpa using hm)) h3
    · unfold restOk
      rw [bif_f (by simp; omega)]
      exact body_iff.2 hb
  · rw [if_neg e']
    exact h.ent k hk
theorem GoodN.one {s : GNode} (h : GoodN s) {n : Nat} (hn : n < 32) (h2 : (eat s.entries n).state = 2) (sh : Int) : GoodN (oneZ s n sh) := by
  have hb := h.body hn (by omega)
  have hno : (n : Int) ∉ s.order := fun hm => by have := (h.done hn).2 hm; omega
  refine ⟨?_, ?_, fun k hk => ?_⟩
  · refine List.nodup_append.2 ⟨h.nodup, by simp, fun a ha b hb => ?_⟩
    rw [List.mem_singleton.1 hb]
    rintro rfl
    exact hno ha
  · intro m hm
    rcases List.mem_append.1 hm with hm | hm
    · exact h.inr m hm
    · rw [List.mem_singleton.1 hm]; omega
  · show entryOk k (eat (s.entries.setIfInBounds n _) k) (decide ((k : Int) ∈ s.order ++ [(n : Int)])) = true
    rw [eat_setI hn]
    by_cases e' : n = k
    · subst e'
      rw [if_pos rfl]
      obtain ⟨L, a1, a2, a3⟩ := doOps_at (sh := sh) (eat s.entries n).ops 0 s.values [] []
      refine entryOk_iff.2 ⟨(show (0 : Int) ≤ 3 ∧ (3 : Int) ≤ 3 by decide), ⟨fun _ => by simp, fun _ => rfl⟩, ?_⟩
      show (bif false then _ else bodyOk _ _) = true
      rw [cond_false]
      refine body_iff.2 ⟨hb.ops, hb.first, hb.deps, hb.nfirst, hb.ndeps, fun h => ?_, fun h => absurd rfl h, ?_, ?_⟩
      · have : (3 : Int) = 1 := h
        omega
      · show (doOps sh 0 (eat s.entries n).ops s.values [] []).2.1.length = (doOps sh 0 (eat s.entries n).ops s.values [] []).2.2.length
        rw [a1, a3]
        simp
      · show atUp _ (-1) (doOps sh 0 _ s.values [] []).2.1 = true
        rw [a1, List.nil_append]
        rw [Nat.zero_add] at a2
        exact a2
    · rw [if_neg e']
      have : decide ((k : Int) ∈ s.order ++ [(n : Int)]) = decide ((k : Int) ∈ s.order) := by
        apply decide_eq_decide.2
        simp only [List.mem_append, List.mem_singleton]
        constructor
        · rintro (h | h)
          · exact h
          · omega
        · exact .inl
      rw [this]
      exact h.ent k hk
end Go.Proofs.Ytopgdemmdcipcaa
namespace Go.Proofs.Ytopgdemmdcipcaa
open Go.RowKit Go.ChangeShapes Go.WideShapes Go.ChangeAt Go.Deep
section
variable {H : Type} {enc : TypeId × Value → H} {P : Program} {w : World}
theorem weightsAll_mem {P : Program} {e : TypeId} : ∀ {ds : List (DataW H)} {d : DataW H}, d ∈ ds → ∀ n ∈ d.weights P e, n ∈ DataW.weightsAll P e ds
  | d0 :: ds, d, hd, n, hn => by
    simp only [DataW.weightsAll, List.mem_append]
    rcases List.mem_cons.1 hd with h | h
    · subst h; exact .inl hn
    · exact .inr (weightsAll_mem h n hn)
end
end Go.Proofs.Ytopgdemmdcipcaa
namespace Go.Proofs.Ytopgdemmdcipcaa
open Go.RowKit Go.ChangeShapes Go.WideShapes Go.ChangeAt Go.Deep
open Rep (rep)
theorem repL.fits {α : Type} [Rep α] {M : Mm} {v : Value} {l : List α} (h : repL M v l) : l.length * Rep.bytes α ≤ 140737488351232 := by
  obtain ⟨_, _, _, _, _, h, _⟩ := h
  exact h
def wholeM (w : World) : Mm := fun b => match w.heap[b]? with | some (.cells arr _ _) => some arr.toList | _ => none
theorem wholeM_agree (w : World) : Agree (wholeM w) w := fun b p hb => by
  unfold wholeM at hb
  split at hb
  · rename_i arr t fr hh
    cases hb
    exact ⟨arr, t, fr, hh, List.prefix_refl _⟩
  · cases hb
theorem weightsEach_mem {H : Type} {P : Program} {ts : List TypeId} {ds : List (DataW H)} {j : Nat} {t : TypeId} {d : DataW H} (ht : ts[j]? = some t) (hd : ds[j]? = some d) : ∀ n ∈ d.weights P t, n ∈ DataW.weightsEach P ts ds := DataW.weights_mem_each ht hd
def Opn (P : Program) (t : TypeId) (α : Type) [Rep α] : Prop :=
  P.cellsOf t = Rep.k α ∧ ∀ (H : Type) (enc : TypeId × Value → H) (w : World) (fuel : Nat) (cs : List Value) (d : DataW H) (p : List MemPlace),
    DataW.trod enc P w 0 (fun _ => true) true fuel t cs = some (d, p) → (∀ n ∈ d.weights P t, n ≤ reachBytes) → ∃ x : α, rep (wholeM w) cs x
section
variable {P : Program} {t e : TypeId} {α : Type} [Rep α]
theorem opn_int (ht : P.underlying t = some (.int .i64)) (hc : P.cellsOf t = 1) : Opn P t Int := ⟨hc, fun H enc w fuel cs d p h hw => by
  obtain ⟨n, rfl, _, _⟩ := DataW.trod_int ht h
  exact ⟨n, rfl⟩⟩
theorem opn_string (ht : P.underlying t = some .string) (hc : P.cellsOf t = 1) : Opn P t ByteArray := ⟨hc, fun H enc w fuel cs d p h hw => by
  obtain ⟨s, rfl, hx, _⟩ := DataW.trod_string ht h
  obtain ⟨rfl, rfl⟩ := Prod.mk.inj hx
  refine ⟨s, rfl, ?_⟩
  have := hw s.data.toList.length (by simp [DataW.weights])
  have h3 : s.data.toList.length = s.size := rfl
  unfold reachBytes at this
  omega⟩
theorem add_bo (a : Addr) (i : Nat) : (a.add i).block = a.block ∧ (a.add i).off = a.off + i := by
  unfold Addr.add
  split
  · rename_i h; exact ⟨rfl, by rw [show i = 0 by simpa using h]; rfl⟩
  · exact ⟨rfl, rfl⟩
theorem cells_piece {w : World} {a : Addr} {k : Nat} {cs : List Value} (h : w.cells? 0 a k = some cs) (hk : 0 < k) :
    a.spot = none ∧ ∃ q, wholeM w a.block = some q ∧ a.off + k ≤ q.length ∧ sl q a.off k = cs := by
  obtain ⟨_, hl, hat⟩ := World.cells?_some h
  have h0 := hat 0 hk
  rw [List.getElem?_eq_getElem (by omega)] at h0
  have hsp : a.spot = none := by
    have := World.cell?_spot h0
    simpa [Addr.add] using this
  refine ⟨hsp, ?_⟩
  have hc : ∀ i, i < k → ∃ arr tt fr, w.heap[a.block]? = some (.cells arr tt fr) ∧ arr[a.off + i]? = cs[i]? := by
    intro i hi
    have hi' := hat i hi
    rw [List.getElem?_eq_getElem (by omega)] at hi' ⊢
    unfold World.cell? at hi'
    split at hi'
    · rename_i arr tt fr hh
      rw [(add_bo a i).1] at hh
      refine ⟨arr, tt, fr, hh, ?_⟩
      split at hi'
      · cases hi'
      · rw [(add_bo a i).2] at hi'
        exact hi'
    · cases hi'
  obtain ⟨arr, tt, fr, hh, _⟩ := hc 0 hk
  have hall : ∀ i, i < k → arr[a.off + i]? = cs[i]? := by
    intro i hi
    obtain ⟨arr', tt', fr', hh', he⟩ := hc i hi
    rw [hh] at hh'
    cases hh'
    exact he
  have hlen : a.off + k ≤ arr.size := by
    have := hall (k - 1) (by omega)
    rw [List.getElem?_eq_getElem (by omega)] at this
    have := (Array.getElem?_eq_some_iff.1 this).1
    omega
  refine ⟨arr.toList, by simp [wholeM, hh], by simpa using hlen, ?_⟩
  refine ext_get fun j => ?_
  by_cases hj : j < k
  · rw [sl_get _ _ _ _ hj]
    simpa using hall j hj
  · rw [sl_get_none _ _ _ _ (by omega), List.getElem?_eq_none (by omega)]
theorem opn_slice (ht : P.underlying t = some (.slice e)) (hc : P.cellsOf t = 1) (he : Opn P e α) (hk : 0 < Rep.k α) (hby : P.bytesOf e = Rep.bytes α) : Opn P t (List α) := ⟨hc, fun H enc w fuel cs d p h hw => by
  rcases open_slice ht h with ⟨rfl, hx⟩ | ⟨a, len, cap, m, n, D, Pl, rfl, _, hl, hm, hmm, hx, hel⟩
  · exact ⟨[], _, rfl, repL_nil _⟩
  · simp only [if_true] at hmm
    subst hmm
    simp only [Prod.mk.injEq] at hx
    rw [hx.1] at hw
    simp only [DataW.weights, ht, hby, List.mem_cons, List.mem_append, List.length_map, List.length_range] at hw
    have hw1 := hw _ (.inl rfl)
    unfold reachBytes at hw1
    have hone : ∀ i, i < len → ∃ x : α, ∃ b off q, a.add (i * Rep.k α) = ⟨b, off, none⟩ ∧ wholeM w b = some q ∧ off + Rep.k α ≤ q.length ∧ rep (wholeM w) (sl q off (Rep.k α)) x := by
      intro i him
      obtain ⟨cs', h1, h2⟩ := hel i (by omega)
      rw [he.1] at h1
      obtain ⟨hsp, q, hq, hlq, hsl⟩ := cells_piece h1 hk
      obtain ⟨x, hxr⟩ := he.2 H enc w n cs' (D i) (Pl i) h2 fun nn hnn => hw nn (.inr (.inl (weightsAll_mem (List.mem_map.2 ⟨i, List.mem_range.2 him, rfl⟩) _ hnn)))
      refine ⟨x, _, _, q, ?_, hq, hlq, by rw [hsl]; exact hxr⟩
      rw [← hsp]
    by_cases hz : len = 0
    · subst hz
      exact ⟨[], .slice (some a) 0 m, rfl, some a, m, rfl, by simp, (fun h => by cases h), by simp, fun i x hx => by simp at hx⟩
    have hspot : ∃ b off, a = ⟨b, off, none⟩ := by
      obtain ⟨x, b, off, q, e1, _⟩ := hone 0 (by omega)
      obtain ⟨ab, ao, asp⟩ := a
      simp [Addr.add] at e1
      exact ⟨ab, ao, by rw [e1.2.2]⟩
    obtain ⟨b, off, rfl⟩ := hspot
    obtain ⟨x0, _⟩ := hone 0 (by omega)
    haveI : Inhabited α := ⟨x0⟩
    obtain ⟨V, hV⟩ := choose_lt (α := α) hone
    have hlen : ((List.range len).map V).length = len := by simp
    refine ⟨(List.range len).map V, .slice (some ⟨b, off, none⟩) len m, rfl, some ⟨b, off, none⟩, m, by rw [hlen], by rw [hlen]; exact hl, (fun h => by cases h), ?_, fun i x hx => ?_⟩
    · rw [hlen]
      exact Nat.le_trans (Nat.mul_le_mul_right _ (by omega : len ≤ len + (m - len))) hw1
    · have hi : i < len := by
        have := (List.getElem?_eq_some_iff.1 hx).1
        omega
      have hxe : V i = x := by simpa [hi] using hx
      obtain ⟨b', off', q, e1, hq, hlq, hr⟩ := hV i hi
      rw [Addr.add_lit] at e1
      cases e1
      exact ⟨_, _, q, rfl, hq, hlq, hxe ▸ hr⟩⟩
theorem opn_field {H : Type} {enc : TypeId × Value → H} {w : World} {fuel : Nat} {cs : List Value} {d : DataW H} {p : List MemPlace} {fs : Array Field} (ht : P.underlying t = some (.struct fs))
    (h : DataW.trod enc P w 0 (fun _ => true) true fuel t cs = some (d, p)) (hw : ∀ n ∈ d.weights P t, n ≤ reachBytes) (i : Nat) (f : Field) (hf : fs[i]? = some f) {e : TypeId} {o k : Nat} (h1 : f.type = e) (h2 : f.offset = o) (hk : Rep.k α = k) (he : Opn P e α) :
    ∃ x : α, rep (wholeM w) (sl cs o k) x := by
  subst hk
  subst h1
  subst h2
  obtain ⟨ys, n, _, hx, _, hyl, hfld⟩ := DataW.trod_struct ht h
  obtain ⟨rfl, rfl⟩ := Prod.mk.inj hx
  have hi : i < fs.size := (Array.getElem?_eq_some_iff.1 hf).1
  have e0 := hfld i f hf
  rw [List.getElem?_eq_getElem (by omega), he.1] at e0
  refine he.2 H enc w n _ _ _ e0 fun nn hnn => hw nn ?_
  simp only [DataW.weights, ht]
  refine weightsEach_mem (j := i) ?_ ?_ nn hnn
  · simp only [List.getElem?_map]; rw [Array.getElem?_toList, hf]; rfl
  · simp only [List.getElem?_map, List.getElem?_eq_getElem (show i < ys.length by omega), Option.map_some]; rfl
theorem opn_array {n : Nat} (ht : P.underlying t = some (.array n e)) (hc : P.cellsOf t = n * Rep.k α) (he : Opn P e α) (hk : 0 < Rep.k α) : Opn P t (Vector α n) := ⟨hc, fun H enc w fuel cs d p h hw => by
  obtain ⟨ys, m, _, hx, hl, hyl, hel⟩ := DataW.trod_array ht h
  obtain ⟨rfl, rfl⟩ := Prod.mk.inj hx
  have hone : ∀ i, i < n → ∃ x : α, rep (wholeM w) (sl cs (i * Rep.k α) (Rep.k α)) x := by
    intro i hi
    have e0 := hel i hi
    rw [List.getElem?_eq_getElem (by omega), he.1] at e0
    refine he.2 H enc w m _ _ _ e0 fun nn hnn => hw nn ?_
    simp only [DataW.weights, ht]
    exact weightsAll_mem (List.mem_map.2 ⟨ys[i], List.getElem_mem _, rfl⟩) _ hnn
  by_cases hz : n = 0
  · subst hz
    exact ⟨#v[], by rw [hl, hc], .inr rfl, fun i hi => by omega⟩
  obtain ⟨x0, _⟩ := hone 0 (by omega)
  haveI : Inhabited α := ⟨x0⟩
  obtain ⟨V, hV⟩ := choose_lt (α := α) hone
  exact ⟨Vector.ofFn fun i => V i.1, by rw [hl, hc], .inl hk, fun i hi => by rw [Vector.getElem_ofFn]; exact hV i hi⟩⟩
theorem opn_arg (ho : Opn P t α) {H : Type} {enc : TypeId × Value → H} {w : World} {v : Value} {d : DataW H} {p : List MemPlace} (h : DataW.Trod enc P w 0 (fun _ => true) true t v d p) (hw : (d.weights P t).all (· ≤ reachBytes) = true) :
    ∃ x : α, rep (wholeM w) v.cells.toList x := by
  obtain ⟨fuel, hf⟩ := h
  exact ho.2 H enc w fuel _ _ _ hf fun n hn => of_decide_eq_true (List.all_eq_true.1 hw n hn)
theorem opn_row {e : TypeId} (ht : P.underlying t = some (.slice e)) (ho : Opn P t (List α)) {H : Type} {enc : TypeId × Value → H} {w : World} {v : Value} {d : DataW H} {p : List MemPlace} (hv : Value.okWide P w .any 0 t v)
    (h : DataW.Trod enc P w 0 (fun _ => true) true t v d p) (hw : (d.weights P t).all (· ≤ reachBytes) = true) : ∃ l : List α, repL (wholeM w) v l := by
  obtain ⟨a, len, cap, rfl⟩ := okWide_slice ht hv
  obtain ⟨x, v', hx, hr⟩ := opn_arg ho h hw
  have : v' = .slice a len cap := by simpa [Value.cells] using hx.symm
  subst this
  exact ⟨x, hr⟩
theorem opn_agg {fs : Array Field} (ht : P.underlying t = some (.struct fs)) (ho : Opn P t α) {H : Type} {enc : TypeId × Value → H} {w : World} {v : Value} {d : DataW H} {p : List MemPlace} (hv : Value.okWide P w .any 0 t v)
    (h : DataW.Trod enc P w 0 (fun _ => true) true t v d p) (hw : (d.weights P t).all (· ≤ reachBytes) = true) : ∃ (cs : List Value) (x : α), v = .agg cs.toArray ∧ rep (wholeM w) cs x := by
  obtain ⟨cs, rfl, _⟩ := okWide_struct ht hv
  obtain ⟨x, hr⟩ := opn_arg ho h hw
  exact ⟨cs.toList, x, by simp, hr⟩
end
end Go.Proofs.Ytopgdemmdcipcaa
namespace Go.Proofs.Ytopgdemmdcipcaa
open Go.RowKit
open Rep (rep)
def g0 : GGraph := { known := ((Zr.zd : Vector Bool 32).setIfInBounds 1 true).setIfInBounds 2 true, deps := ((Zr.zd : Vector (List Int) 32).setIfInBounds 1 [2]).setIfInBounds 2 [1] }
end Go.Proofs.Ytopgdemmdcipcaa
namespace Go.Proofs.Ytopgdemmdcipcaa
open Go.RowKit
open Rep (rep)
def stepZ (sh : Int) (s : GNode) (m : Nat) : GNode := bif (eat s.entries m).state == 2 then oneZ s m sh else s
def runZ (sh : Int) (s : GNode) (l : List Nat) : GNode := l.foldl (stepZ sh) s
noncomputable def ordL (g : GGraph) (n : Nat) : List Nat := if readyZ g (n : Int) = true then orderS (pathB g) n else []
noncomputable def turnZ (g : GGraph) (sh : Int) (s : GNode) (n : Nat) : GNode := bif (eat s.entries n).state == 2 then runZ sh s (ordL g n) else s
noncomputable def execZ (s : GNode) (sh : Int) : GNode := (List.range 32).foldl (turnZ (graphZ s) sh) s
theorem orderZ_castL (g : GGraph) (n : Nat) : orderZ g (n : Int) = castL (ordL g n) := by
  unfold orderZ ordL castL
  by_cases h : readyZ g (n : Int) = true
  · rw [if_pos h, if_pos h, Int.toNat_natCast]
  · rw [if_neg h, if_neg h]
    rfl
theorem ordL_lt {g : GGraph} {n : Nat} (hn : n < 32) : ∀ m ∈ ordL g n, m < 32 := by
  unfold ordL
  by_cases h : readyZ g (n : Int) = true
  · rw [if_pos h]; exact (orderS_ok (pathB_pre g) hn).lt
  · rw [if_neg h]; simp
theorem ordL_len {g : GGraph} {n : Nat} (hn : n < 32) : (ordL g n).length ≤ 32 := by
  unfold ordL
  by_cases h : readyZ g (n : Int) = true
  · rw [if_pos h]; exact (orderS_ok (pathB_pre g) hn).len
  · rw [if_neg h]; simp
theorem GoodN.step {s : GNode} (h : GoodN s) {m : Nat} (hm : m < 32) (sh : Int) : GoodN (stepZ sh s m) := by
  unfold stepZ
  cases h2 : ((eat s.entries m).state == 2)
  · exact h
  · exact h.one hm (by simpa using h2) sh
theorem GoodN.run (sh : Int) : ∀ (l : List Nat) {s : GNode}, GoodN s → (∀ m ∈ l, m < 32) → GoodN (runZ sh s l)
  | [], _, h, _ => h
  | m :: t, _, h, hl => GoodN.run sh t (h.step (hl m List.mem_cons_self) sh) fun x hx => hl x (List.mem_cons_of_mem _ hx)
theorem GoodN.turn {s : GNode} (h : GoodN s) {n : Nat} (hn : n < 32) (g : GGraph) (sh : Int) : GoodN (turnZ g sh s n) := by
  unfold turnZ
  cases ((eat s.entries n).state == 2)
  · exact h
  · exact h.run sh _ (ordL_lt hn)
theorem GoodN.turns (g : GGraph) (sh : Int) : ∀ (l : List Nat) {s : GNode}, GoodN s → (∀ m ∈ l, m < 32) → GoodN (l.foldl (turnZ g sh) s)
  | [], _, h, _ => h
  | m :: t, _, h, hl => GoodN.turns g sh t (h.turn (hl m List.mem_cons_self) g sh) fun x hx => hl x (List.mem_cons_of_mem _ hx)
theorem GoodN.exec {s : GNode} (h : GoodN s) (sh : Int) : GoodN (execZ s sh) := h.turns _ sh _ fun m hm => List.mem_range.1 hm
theorem castL_get (l : List Nat) (k : Nat) : (castL l)[k]? = (l[k]?).map fun m => ((m : Nat) : Int) := by simp [castL]
theorem body_ops {s : GNode} (h : GoodN s) {m : Nat} (hm : m < 32) (h2 : ((eat s.entries m).state == 2) = true) : KeyOk (eat s.entries m).ops ∧ (eat s.entries m).ops.length ≤ 4 := by
  have h2 : (eat s.entries m).state = 2 := by simpa using h2
  have hb := h.body hm (by omega)
  exact ⟨KeyOk.of hb.ops, (goodOps_len hb.ops).2⟩
theorem nodeExec_l2_eq {fu : Nat} (hfu : 5 ≤ fu) {sh y : Int} {rec : GNode → Int → Option GNode} {l : List Nat} (hl : ∀ m ∈ l, m < 32) (hlen : l.length ≤ 32) : ∀ (q m k : Nat) (s : GNode), l.length = k + m → m < q → GoodN s → nodeExec_l2 fu sh y rec (castL l) q s k = nodeExec_j1 y rec (runZ sh s (l.drop k))
  | 0, m, k, s, _, h, _ => absurd h (by omega)
  | q + 1, 0, k, s, hk, _, _ => by
    rw [nodeExec_l2, castL_len, bif_f (dec_f (by omega)), List.drop_of_length_le (by omega)]
    rfl
  | q + 1, m + 1, k, s, hk, hq, hs => by
    have hlt : k < l.length := by omega
    have hm := hl _ (List.getElem_mem hlt)
    have ih := fun s hs => nodeExec_l2_eq (y := y) (rec := rec) (sh := sh) hfu hl hlen q m (k + 1) s (by omega) (by omega) hs
    rw [nodeExec_l2, castL_len, bif_t (dec_t (by omega)), idx_nat, castL_get, List.getElem?_eq_getElem hlt, List.drop_eq_getElem_cons hlt]
    generalize l[k] = x at hm
    simp only [Option.map_some, some_bind, nodeExec_j2, wrs k (by omega)]
    rw [inR_ok (by omega) (by omega), some_bind, idxE hm, some_bind]
    show _ = nodeExec_j1 y rec (runZ sh (stepZ sh s x) (l.drop (k + 1)))
    have hst := hs.step hm sh
    unfold stepZ at hst ⊢
    cases h2 : ((eat s.entries x).state == 2)
    · rw [cond_false, cond_false, ih s hs]
    · rw [h2, cond_true] at hst
      obtain ⟨b1, b2⟩ := body_ops hs hm h2
      rw [cond_true, cond_true, nodeOneD_eq hm b1 b2 (by have := hs.len; omega) hfu, some_bind, ih _ hst]
theorem nodeExec_l1_eq {fu N : Nat} {g : GGraph} (hg : Small g N) (hfu : N + 80 ≤ fu) {sh : Int} : ∀ (q m k : Nat) (s : GNode), k + m = 32 → m < q → GoodN s → nodeExec_l1 fu sh g q s k = some ((List.range' k m).foldl (turnZ g sh) s)
  | 0, m, k, s, _, h, _ => absurd h (by omega)
  | q + 1, 0, k, s, hk, _, _ => by rw [nodeExec_l1, bif_f (dec_f (by omega)), some_bind]; rfl
  | q + 1, m + 1, k, s, hk, hq, hs => by
    have hk32 : k < 32 := by omega
    have ih := fun s hs => nodeExec_l1_eq hg hfu (sh := sh) q m (k + 1) s (by omega) (by omega) hs
    rw [nodeExec_l1, bif_t (dec_t (by omega)), inR_ok (by omega) (by omega), some_bind, idxE hk32, some_bind, List.range'_succ, List.foldl_cons]
    have hne : ((eat s.entries k).state != 2) = !((eat s.entries k).state == 2) := rfl
    have ht := hs.turn hk32 g sh
    rw [hne]
    unfold turnZ at ht ⊢
    cases h2 : ((eat s.entries k).state == 2)
    · rw [Bool.not_false, cond_true, cond_false, nodeExec_j1, wrs k (by omega), ih s hs]
      rfl
    · rw [h2, cond_true] at ht
      rw [Bool.not_true, cond_false, cond_true, gorderD_eq hg hfu, some_bind, orderZ_castL]
      have h := nodeExec_l2_eq (fu := fu) (sh := sh) (y := (k : Int)) (rec := nodeExec_l1 fu sh g q) (by omega) (ordL_lt (g := g) hk32) (ordL_len (g := g) hk32) fu (ordL g k).length 0 s (by omega) (by have := ordL_len (g := g) hk32; omega) hs
      have h : nodeExec_l2 fu sh k (nodeExec_l1 fu sh g q) (castL (ordL g k)) fu s 0 = nodeExec_j1 k (nodeExec_l1 fu sh g q) (runZ sh s (ordL g k)) := h
      rw [h, nodeExec_j1, wrs k (by omega), ih _ ht]
      rfl
theorem GoodN.small {s : GNode} (h : GoodN s) : Small (graphZ s) 33 := by
  intro a
  by_cases ha : a < 32
  · rw [depsAt_graphZ ha]
    by_cases h0 : (eat s.entries a).state = 0
    · rw [(h.empty ha h0).2.2.1]; simp
    · have := rising_len (h.body ha h0).deps
      omega
  · unfold depsAt
    rw [dif_neg ha]
    exact ⟨by simp, by simp⟩
theorem cloneIntsD_eq {fu : Nat} {l : List Int} (h : l.length ≤ 17592186043904) : cloneIntsD fu l = some l := by
  have hb : Rep.bytes Int = 8 := rfl
  unfold cloneIntsD
  rw [app_ok (by rw [hb]; simp only [List.length_nil]; omega)]
  rfl
theorem nodeExecD_eq {fu : Nat} {s : GNode} (hs : GoodN s) (hfu : 120 ≤ fu) (sh : Int) : nodeExecD fu s sh = some (execZ s sh) := by
  unfold nodeExecD
  rw [nodeGraphD_eq (by omega), some_bind, some_bind, cloneIntsD_eq (by have := hs.len; omega), some_bind, some_bind]
  have h := nodeExec_l1_eq (fu := fu) hs.small (by omega) (sh := sh) fu 32 0 s (by omega) (by omega) hs
  unfold execZ
  rw [List.range_eq_range']
  exact h
theorem takeFrame_l2_eq {fu : Nat} (hfu : 5 ≤ fu) {sh y : Int} {rec : GNode → Int → Option (GNode × List GFrame × Int)} {l : List Nat} (hl : ∀ m ∈ l, m < 32) (hlen : l.length ≤ 32) : ∀ (q m k : Nat) (s : GNode), l.length = k + m → m < q → GoodN s → takeFrame_l2 fu sh y rec (castL l) q s k = takeFrame_j9 y rec (runZ sh s (l.drop k))
  | 0, m, k, s, _, h, _ => absurd h (by omega)
  | q + 1, 0, k, s, hk, _, _ => by
    rw [takeFrame_l2, castL_len, bif_f (dec_f (by omega)), List.drop_of_length_le (by omega)]
    rfl
  | q + 1, m + 1, k, s, hk, hq, hs => by
    have hlt : k < l.length := by omega
    have hm := hl _ (List.getElem_mem hlt)
    have ih := fun s hs => takeFrame_l2_eq (y := y) (rec := rec) (sh := sh) hfu hl hlen q m (k + 1) s (by omega) (by omega) hs
    rw [takeFrame_l2, castL_len, bif_t (dec_t (by omega)), idx_nat, castL_get, List.getElem?_eq_getElem hlt, List.drop_eq_getElem_cons hlt]
    generalize l[k] = x at hm
    simp only [Option.map_some, some_bind, takeFrame_j10, wrs k (by omega)]
    rw [inR_ok (by omega) (by omega), some_bind, idxE hm, some_bind]
    show _ = takeFrame_j9 y rec (runZ sh (stepZ sh s x) (l.drop (k + 1)))
    have hst := hs.step hm sh
    unfold stepZ at hst ⊢
    cases h2 : ((eat s.entries x).state == 2)
    · rw [cond_false, cond_false, ih s hs]
    · rw [h2, cond_true] at hst
      obtain ⟨b1, b2⟩ := body_ops hs hm h2
      rw [cond_true, cond_true, executeOneD_eq hm b1 b2 (by have := hs.len; omega) hfu, some_bind, ih _ hst]
theorem takeFrame_l1_eq {fu N : Nat} {g : GGraph} (hg : Small g N) (hfu : N + 80 ≤ fu) {who sh : Int} {f : GFrame} {e : GEntry} : ∀ (q m k : Nat) (s : GNode), k + m = 32 → m < q → GoodN s → takeFrame_l1 fu who f sh e g q s k = takeFrame_j5 who f sh e ((List.range' k m).foldl (turnZ g sh) s)
  | 0, m, k, s, _, h, _ => absurd h (by omega)
  | q + 1, 0, k, s, hk, _, _ => by rw [takeFrame_l1, bif_f (dec_f (by omega))]; rfl
  | q + 1, m + 1, k, s, hk, hq, hs => by
    have hk32 : k < 32 := by omega
    have ih := fun s hs => takeFrame_l1_eq hg hfu (who := who) (f := f) (e := e) (sh := sh) q m (k + 1) s (by omega) (by omega) hs
    rw [takeFrame_l1, bif_t (dec_t (by omega)), inR_ok (by omega) (by omega), some_bind, idxE hk32, some_bind, List.range'_succ, List.foldl_cons]
    have hne : ((eat s.entries k).state != 2) = !((eat s.entries k).state == 2) := rfl
    have ht := hs.turn hk32 g sh
    rw [hne]
    unfold turnZ at ht ⊢
    cases h2 : ((eat s.entries k).state == 2)
    · rw [Bool.not_false, cond_true, cond_false, takeFrame_j9, wrs k (by omega), ih s hs]
      rfl
    · rw [h2, cond_true] at ht
      rw [Bool.not_true, cond_false, cond_true, orderOfD_eq hg hfu, some_bind, orderZ_castL]
      have h := takeFrame_l2_eq (fu := fu) (sh := sh) (y := (k : Int)) (rec := takeFrame_l1 fu who f sh e g q) (by omega) (ordL_lt (g := g) hk32) (ordL_len (g := g) hk32) fu (ordL g k).length 0 s (by omega) (by have := ordL_len (g := g) hk32; omega) hs
      have h : takeFrame_l2 fu sh k (takeFrame_l1 fu who f sh e g q) (castL (ordL g k)) fu s 0 = takeFrame_j9 k (takeFrame_l1 fu who f sh e g q) (runZ sh s (ordL g k)) := h
      rw [h, takeFrame_j9, wrs k (by omega), ih _ ht]
      rfl
def knownF (who id : Int) : GFrame := { kind := 4, node := who, id := id, ops := [], deps := [], at_ := [], vals := [] }
def doneF (who id : Int) (x : GEntry) : GFrame := { kind := 5, node := who, id := id, ops := [], deps := [], at_ := x.at_, vals := x.values }
def toldF (who id : Int) (l : List Int) : GFrame := { kind := 2, node := who, id := id, ops := [], deps := l, at_ := [], vals := [] }
def answers (sh who id : Int) (s : GNode) : List GFrame := bif (eat s.entries id.toNat).state == 3 && touchesZ (eat s.entries id.toNat).ops sh then [knownF who id, doneF who id (eat s.entries id.toNat)] else [knownF who id]
def askedE (s : GNode) (f : GFrame) (sh : Int) : GEntry := { state := 1, ops := f.ops, first := aheadZ s f.id f.ops sh, deps := [], at_ := [], values := [] }
def askN (s : GNode) (f : GFrame) (sh : Int) : GNode := bif (eat s.entries f.id.toNat).state == 0 then { s with entries := s.entries.setIfInBounds f.id.toNat (askedE s f sh) } else s
def firstE (s : GNode) (f : GFrame) (sh : Int) : List Int := bif (eat s.entries f.id.toNat).state == 0 then aheadZ s f.id f.ops sh else (eat s.entries f.id.toNat).first
def commE (s : GNode) (f : GFrame) (sh : Int) : GEntry := { state := 2, ops := f.ops, first := firstE s f sh, deps := f.deps, at_ := (eat s.entries f.id.toNat).at_, values := (eat s.entries f.id.toNat).values }
def commN (s : GNode) (f : GFrame) (sh : Int) : GNode := { s with entries := s.entries.setIfInBounds f.id.toNat (commE s f sh) }
noncomputable def commitN (s : GNode) (f : GFrame) (sh : Int) : GNode := bif decide ((eat s.entries f.id.toNat).state < 2) then execZ (commN s f sh) sh else s
noncomputable def takeK (s : GNode) (who : Int) (f : GFrame) : GNode × List GFrame × Int :=
  bif f.kind == 1 then bif touchesZ f.ops (ofZ who) then (askN s f (ofZ who), [toldF who f.id (eat (askN s f (ofZ who)).entries f.id.toNat).first], 0) else (s, [], 4)
  else bif f.kind == 3 then (commitN s f (ofZ who), answers (ofZ who) who f.id (commitN s f (ofZ who)), 0) else (s, [], 3)
noncomputable def takeN (s : GNode) (who : Int) (f : GFrame) : GNode × List GFrame × Int :=
  bif goodN s && (decide (0 ≤ who ∧ who < 6) && f.node == who) then bif frameZ f == 0 then takeK s who f else (s, [], frameZ f) else (s, [], 2)
theorem rise_castL {l : List Nat} (h : l.Pairwise (· < ·)) (h32 : ∀ m ∈ l, m < 32) : risingZ (castL l) = true := by
  unfold risingZ
  rw [allTo_iff]
  intro i hi
  rw [castL_len] at hi
  have g : ∀ j, j < l.length → (castL l).getD j 0 = ((l[j]?.getD 0 : Nat) : Int) := fun j hj => by
    simp [castL, hj]
  unfold riseAt
  rw [g i hi, List.getElem?_eq_getElem hi, Option.getD_some]
  have h1 := h32 _ (List.getElem_mem hi)
  rw [dec_t (by omega), dec_t (by omega), Bool.true_and, Bool.true_and]
  by_cases h0 : i = 0
  · simp [h0]
  · rw [g (i - 1) (by omega), List.getElem?_eq_getElem (show i - 1 < l.length by omega), Option.getD_some]
    have := List.pairwise_iff_getElem.1 h (i - 1) i (by omega) hi (by omega)
    rw [dec_t (by omega), Bool.or_true]
theorem aheadL_mem {s : GNode} {id : Int} {ops : List GOp} {sh : Int} {m : Nat} : m ∈ aheadL s id ops sh ↔ m < 32 ∧ inWay s id ops sh m = true := by
  unfold aheadL; simp
theorem ahead_ok {s : GNode} {n : Nat} {ops : List GOp} {sh : Int} : risingZ (aheadZ s n ops sh) = true ∧ hasZ (aheadZ s n ops sh) n = false := by
  refine ⟨rise_castL ?_ fun m hm => (aheadL_mem.1 hm).1, ?_⟩
  · exact List.Pairwise.filter _ List.pairwise_lt_range
  · rw [aheadZ, hasZ_castL]
    apply dec_f
    intro h
    have := (aheadL_mem.1 h).2
    unfold inWay at this
    simp at this
theorem frame_parts {f : GFrame} (h : frameZ f = 0) : opsPart f = true ∧ depsPart f = true ∧ atPart f = true := by
  unfold frameZ at h
  split at h
  · cases h
  · split at h
    · cases h
    · split at h
      · rename_i h3
        simpa [Bool.and_eq_true] using h3
      · cases h
theorem ask_ops {f : GFrame} (h : frameZ f = 0) (hk : f.kind = 1 ∨ f.kind = 3) : goodOpsZ f.ops = true := by
  have := (frame_parts h).1
  unfold opsPart at this
  rwa [if_pos hk] at this
theorem comm_deps {f : GFrame} (h : frameZ f = 0) (hk : f.kind = 3) : risingZ f.deps = true ∧ hasZ f.deps f.id = false := by
  have := (frame_parts h).2.1
  unfold depsPart at this
  rw [if_pos (.inr hk)] at this
  simpa [Bool.and_eq_true] using this
theorem GoodN.asked {s : GNode} (h : GoodN s) {f : GFrame} (hf : frameZ f = 0) (hk : f.kind = 1) (sh : Int) : GoodN (askN s f sh) := by
  obtain ⟨_, _, hid⟩ := frameZ_in hf
  obtain ⟨n, hn⟩ : ∃ n : Nat, f.id = n := ⟨f.id.toNat, by omega⟩
  unfold askN
  rw [hn, Int.toNat_natCast]
  cases h0 : ((eat s.entries n).state == 0)
  · exact h
  · have h0 : (eat s.entries n).state = 0 := by simpa using h0
    refine h.set (n := n) (by omega) rfl rfl (by omega) ⟨by show (1 : Int) ≤ 1; omega, by show (1 : Int) ≤ 2; omega⟩ ?_
    have ha : risingZ (aheadZ s f.id f.ops sh) = true ∧ hasZ (aheadZ s f.id f.ops sh) n = false := by rw [hn]; exact ahead_ok
    exact ⟨ask_ops hf (.inl hk), ha.1, rfl, ha.2, rfl, fun _ => rfl, fun _ => rfl, rfl, rfl⟩
theorem GoodN.comm {s : GNode} (h : GoodN s) {f : GFrame} (hf : frameZ f = 0) (hk : f.kind = 3) (h2 : (eat s.entries f.id.toNat).state < 2) (sh : Int) : GoodN (commN s f sh) := by
  obtain ⟨_, _, hid⟩ := frameZ_in hf
  obtain ⟨n, hn⟩ : ∃ n : Nat, f.id = n := ⟨f.id.toNat, by omega⟩
  have hn32 : n < 32 := by omega
  have hto : f.id.toNat = n := by rw [hn]; rfl
  rw [hto] at h2
  have hfi : risingZ (firstE s f sh) = true ∧ hasZ (firstE s f sh) n = false := by
    unfold firstE
    rw [hto]
    cases h0 : ((eat s.entries n).state == 0)
    · have hb := h.body hn32 (by simpa using h0)
      exact ⟨hb.first, hb.nfirst⟩
    · rw [cond_true, hn]
      exact ahead_ok
  have hat : (eat s.entries n).at_ = [] ∧ (eat s.entries n).values = [] := by
    by_cases h0 : (eat s.entries n).state = 0
    · exact ⟨(h.empty hn32 h0).2.2.2.1, (h.empty hn32 h0).2.2.2.2⟩
    · have hb := h.body hn32 h0
      have h1 := hb.undone (by omega)
      have h2 := hb.same
      rw [h1] at h2
      exact ⟨h1, List.length_eq_zero_iff.1 h2.symm⟩
  have hd := comm_deps hf hk
  rw [hn] at hd
  refine h.set (n := n) hn32 (e := commE s f sh) (by rw [← hto]; rfl) rfl (by omega) ⟨by show (1 : Int) ≤ 2; omega, by show (2 : Int) ≤ 2; omega⟩ ?_
  have e1 : (commE s f sh).at_ = [] := by rw [← hat.1, ← hto]; rfl
  have e2 : (commE s f sh).values = [] := by rw [← hat.2, ← hto]; rfl
  refine ⟨ask_ops hf (.inr hk), hfi.1, hd.1, hfi.2, hd.2, fun h => ?_, fun _ => e1, by rw [e1, e2], by rw [e1]; rfl⟩
  have h : (2 : Int) = 1 := h
  omega
theorem GoodN.commit {s : GNode} (h : GoodN s) {f : GFrame} (hf : frameZ f = 0) (hk : f.kind = 3) (sh : Int) : GoodN (commitN s f sh) := by
  unfold commitN
  by_cases h2 : (eat s.entries f.id.toNat).state < 2
  · rw [bif_t (dec_t h2)]; exact (h.comm hf hk h2 sh).exec sh
  · rw [bif_f (dec_f h2)]; exact h
end Go.Proofs.Ytopgdemmdcipcaa
namespace Go.Proofs.Ytopgdemmdcipcaa
open Go.RowKit
open Rep (rep)
theorem idxEi {v : Vector GEntry 32} {j : Int} (h0 : 0 ≤ j) (h1 : j < 32) : idxV v j = some (eat v j.toNat) := by
  obtain ⟨n, rfl⟩ : ∃ n : Nat, j = n := ⟨j.toNat, by omega⟩
  rw [idxE (by omega), Int.toNat_natCast]
theorem nodeIsD_eq {fu : Nat} {x : Int} : nodeIsD fu x = some (decide (0 ≤ x ∧ x < 6)) := by
  unfold nodeIsD nodeIs_j1
  by_cases h : x ≥ 0
  · rw [bif_t (dec_t h)]
    congr 1
    apply decide_eq_decide.2
    omega
  · rw [bif_f (dec_f h), dec_f (by omega)]
theorem nodeTake_j4_eq {who sh : Int} {f : GFrame} {d : GNode} (hf : 0 ≤ f.id ∧ f.id < 32) : nodeTake_j4 who f sh d = some (d, answers sh who f.id d, 0) := by
  unfold nodeTake_j4 nodeTake_j6 nodeTake_j5 answers
  have hb : Rep.bytes GFrame = 120 := rfl
  rw [some_bind, inR_ok hf.1 hf.2, some_bind, idxEi hf.1 hf.2, some_bind, some_bind]
  cases ((eat d.entries f.id.toNat).state == 3)
  · rfl
  · simp only [cond_true, some_bind, Bool.true_and]
    cases touchesZ (eat d.entries f.id.toNat).ops sh
    · rfl
    · rw [cond_true, app_ok (by rw [hb]; simp)]
      rfl
theorem takeFrame_j5_eq {who sh : Int} {f : GFrame} {e : GEntry} {d : GNode} (hf : 0 ≤ f.id ∧ f.id < 32) : takeFrame_j5 who f sh e d = some (d, answers sh who f.id d, 0) := by
  unfold takeFrame_j5 takeFrame_j7 takeFrame_j6 answers
  have hb : Rep.bytes GFrame = 120 := rfl
  rw [some_bind, inR_ok hf.1 hf.2, some_bind, idxEi hf.1 hf.2, some_bind, some_bind]
  cases ((eat d.entries f.id.toNat).state == 3)
  · rfl
  · simp only [cond_true, some_bind, Bool.true_and]
    cases touchesZ (eat d.entries f.id.toNat).ops sh
    · rfl
    · rw [cond_true, app_ok (by rw [hb]; simp)]
      rfl
theorem nodeTake_j7_eq {fu : Nat} {s d : GNode} {who sh : Int} {f : GFrame} (hf : 0 ≤ f.id ∧ f.id < 32) (hfu : 120 ≤ fu) (hg : GoodN (commN s f sh))
    (hd : d.entries = s.entries.setIfInBounds f.id.toNat { eat s.entries f.id.toNat with first := firstE s f sh }) (ho : d.order = s.order) (hv : d.values = s.values) :
    nodeTake_j7 fu who f sh d = some (execZ (commN s f sh) sh, answers sh who f.id (execZ (commN s f sh) sh), 0) := by
  have hn : f.id.toNat < 32 := by omega
  obtain ⟨n, hnn⟩ : ∃ n : Nat, f.id = n := ⟨f.id.toNat, by omega⟩
  unfold nodeTake_j7
  have e1 : ∀ (x : Vector GEntry 32), ({ d with entries := x } : GNode).entries = x := fun _ => rfl
  rw [idxEi hf.1 hf.2, some_bind, setV_in hf.1 hf.2, some_bind, some_bind]
  rw [e1, idxEi hf.1 hf.2, some_bind, eat_setI hn, if_pos rfl, setV_in hf.1 hf.2, some_bind, some_bind]
  simp only [Vector.setIfInBounds_setIfInBounds]
  rw [idxEi hf.1 hf.2, some_bind, eat_setI hn, if_pos rfl, setV_in hf.1 hf.2, some_bind, some_bind]
  simp only [Vector.setIfInBounds_setIfInBounds]
  have hc : ({ entries := d.entries.setIfInBounds f.id.toNat { state := 2, ops := f.ops, first := (eat d.entries f.id.toNat).first, deps := f.deps, at_ := (eat d.entries f.id.toNat).at_, values := (eat d.entries f.id.toNat).values }, order := d.order, values := d.values } : GNode) = commN s f sh := by
    unfold commN commE
    rw [hd, ho, hv, eat_setI hn, if_pos rfl]
    simp only [Vector.setIfInBounds_setIfInBounds]
  rw [hc, nodeExecD_eq hg hfu, some_bind, some_bind, nodeTake_j4_eq hf]
theorem setI_same {v : Vector GEntry 32} {k : Nat} (hk : k < 32) : v.setIfInBounds k (eat v k) = v := by
  refine eat_ext fun j hj => ?_
  rw [eat_setI hk]
  by_cases e : k = j
  · rw [if_pos e, e]
  · rw [if_neg e]
theorem nodeTake_j1_eq {fu : Nat} {s : GNode} {who : Int} {f : GFrame} {d : GNode} (hg : GoodN s) (hz : frameZ f = 0) (hfu : 120 ≤ fu) : nodeTake_j1 fu s who f d = some (takeK s who f) := by
  obtain ⟨_, _, hf⟩ := frameZ_in hz
  have hn : f.id.toNat < 32 := by omega
  unfold nodeTake_j1 takeK
  rw [hz, some_bind, bif_f (by rfl), some_bind, inR_ok hf.1 hf.2, some_bind]
  cases h1 : (f.kind == 1)
  · rw [cond_false, cond_false]
    cases h3 : (f.kind == 3)
    · rfl
    · rw [cond_true, cond_true, idxEi hf.1 hf.2, some_bind, some_bind]
      unfold commitN
      have hk : f.kind = 3 := by simpa using h3
      by_cases h2 : (eat s.entries f.id.toNat).state < 2
      · have hc := hg.comm hz hk h2 (ofZ who)
        rw [bif_t (dec_t h2), bif_t (dec_t h2)]
        cases h0 : ((eat s.entries f.id.toNat).state == 0)
        · rw [cond_false]
          refine nodeTake_j7_eq hf hfu hc ?_ rfl rfl
          unfold firstE
          rw [h0, cond_false]
          exact (setI_same hn).symm
        · rw [cond_true, nodeAheadD_eq (by omega), some_bind, some_bind, setV_in hf.1 hf.2, some_bind, some_bind]
          refine nodeTake_j7_eq hf hfu hc ?_ rfl rfl
          unfold firstE
          rw [h0, cond_true]
      · rw [bif_f (dec_f h2), bif_f (dec_f h2), nodeTake_j4_eq hf]
  · rw [cond_true, cond_true, some_bind]
    cases touchesZ f.ops (ofZ who)
    · rfl
    · rw [bif_f (c := !true) rfl, cond_true, idxEi hf.1 hf.2, some_bind]
      unfold askN
      cases h0 : ((eat s.entries f.id.toNat).state == 0)
      · rw [cond_false, cond_false, nodeTake_j2, idxEi hf.1 hf.2]
        rfl
      · rw [cond_true, nodeAheadD_eq (by omega), some_bind, some_bind, some_bind, setV_in hf.1 hf.2, some_bind, some_bind, nodeTake_j2, idxEi hf.1 hf.2]
        rfl
theorem nodeTakeD_eq {fu N : Nat} {s : GNode} {who : Int} {f : GFrame} (hs : NSz s N) (h1 : N + 40 ≤ fu) (hfu : 120 ≤ fu) : nodeTakeD fu s who f = some (takeN s who f) := by
  unfold nodeTakeD takeN
  rw [nodeGoodD_eq hs h1, some_bind]
  cases hg : goodN s
  · rfl
  · have hg := goodN_iff.1 hg
    rw [bif_f (c := !true) rfl, nodeIsD_eq, some_bind, Bool.true_and]
    cases decide (0 ≤ who ∧ who < 6)
    · rfl
    · rw [bif_f (c := !true) rfl, Bool.true_and]
      unfold nodeTake_j8
      have hne : (f.node != who) = !(f.node == who) := rfl
      rw [hne]
      cases (f.node == who)
      · rfl
      · rw [Bool.not_true, cond_false, cond_true]
        cases hz : (frameZ f == 0)
        · unfold nodeTake_j1
          have : (frameZ f != 0) = true := by rw [bne, hz]; rfl
          rw [some_bind, this]
          rfl
        · exact nodeTake_j1_eq hg (by simpa using hz) hfu
theorem takeFrame_j8_eq {fu : Nat} {s : GNode} {who sh : Int} {f : GFrame} {e : GEntry} (hf : 0 ≤ f.id ∧ f.id < 32) (hfu : 120 ≤ fu) (hg : GoodN (commN s f sh)) (he : e = { eat s.entries f.id.toNat with first := firstE s f sh }) :
    takeFrame_j8 fu who f sh s e = some (execZ (commN s f sh) sh, answers sh who f.id (execZ (commN s f sh) sh), 0) := by
  unfold takeFrame_j8
  rw [some_bind, some_bind, some_bind, inR_ok hf.1 hf.2, some_bind, idxEi hf.1 hf.2, some_bind, setV_in hf.1 hf.2, some_bind, some_bind]
  have hc : ({ s with entries := s.entries.setIfInBounds f.id.toNat { state := 2, ops := f.ops, first := e.first, deps := f.deps, at_ := e.at_, values := e.values } } : GNode) = commN s f sh := by
    rw [he]
    rfl
  rw [hc, graphOfD_eq (by omega), some_bind, some_bind]
  have h := takeFrame_l1_eq (fu := fu) hg.small (by omega) (who := who) (f := f) (sh := sh) (e := { state := 2, ops := f.ops, first := e.first, deps := f.deps, at_ := e.at_, values := e.values }) fu 32 0 _ (by omega) (by omega) hg
  have e2 : (List.range' 0 32).foldl (turnZ (graphZ (commN s f sh)) sh) (commN s f sh) = execZ (commN s f sh) sh := by unfold execZ; rw [List.range_eq_range']
  rw [e2, takeFrame_j5_eq hf] at h
  exact h
theorem takeFrame_j2_eq {fu N : Nat} {s : GNode} {who : Int} {f : GFrame} {d : GNode} (hg : GoodN s) (hs : NSz s N) (hz : frameZ f = 0) (hfu : 120 ≤ fu) (h13 : f.kind = 1 ∨ f.kind = 3) : takeFrame_j2 fu s who f d = some (takeK s who f) := by
  obtain ⟨_, _, hf⟩ := frameZ_in hz
  have hn : f.id.toNat < 32 := by omega
  have h0s : ∀ k, k < 32 → 0 ≤ (eat s.entries k).state := fun k hk => (hg.state hk).1
  unfold takeFrame_j2 takeK
  rw [some_bind, some_bind, copyNodeD_eq hs (by omega), some_bind, some_bind, inR_ok hf.1 hf.2, some_bind, idxEi hf.1 hf.2, some_bind, some_bind]
  cases h1 : (f.kind == 1)
  · have hk : f.kind = 3 := by
      rcases h13 with h | h
      · rw [h] at h1; cases h1
      · exact h
    have h3 : (f.kind == 3) = true := by simpa using hk
    rw [cond_false, cond_false, h3, cond_true]
    unfold commitN
    by_cases h2 : (eat s.entries f.id.toNat).state < 2
    · have hc := hg.comm hz hk h2 (ofZ who)
      rw [bif_t (dec_t h2), bif_t (dec_t h2)]
      cases h0 : ((eat s.entries f.id.toNat).state == 0)
      · rw [cond_false]
        refine takeFrame_j8_eq hf hfu hc ?_
        unfold firstE
        rw [h0, cond_false]
      · rw [cond_true, beforeD_eq h0s (by omega), some_bind, some_bind]
        refine takeFrame_j8_eq hf hfu hc ?_
        unfold firstE
        rw [h0, cond_true]
    · rw [bif_f (dec_f h2), bif_f (dec_f h2), takeFrame_j5_eq hf]
  · rw [cond_true, cond_true, some_bind]
    cases touchesZ f.ops (ofZ who)
    · rfl
    · rw [bif_f (c := !true) rfl, cond_true]
      unfold askN
      cases h0 : ((eat s.entries f.id.toNat).state == 0)
      · rfl
      · rw [cond_true, beforeD_eq h0s (by omega), some_bind, some_bind, some_bind, some_bind, setV_in hf.1 hf.2, some_bind, some_bind]
        unfold takeFrame_j3
        have e : eat (s.entries.setIfInBounds f.id.toNat (askedE s f (ofZ who))) f.id.toNat = askedE s f (ofZ who) := by rw [eat_setI hn, if_pos rfl]
        rw [cond_true]
        show some (_, [toldF who f.id (askedE s f (ofZ who)).first], (0 : Int)) = some (_, [toldF who f.id (eat (s.entries.setIfInBounds f.id.toNat (askedE s f (ofZ who))) f.id.toNat).first], 0)
        rw [e]
        rfl
theorem takeFrameD_eq {fu N : Nat} {s : GNode} {who : Int} {f : GFrame} (hs : NSz s N) (h1 : N + 40 ≤ fu) (hfu : 120 ≤ fu) : takeFrameD fu s who f = some (takeN s who f) := by
  unfold takeFrameD takeN
  rw [isNodeD_eq hs h1, some_bind]
  cases hg : goodN s
  · rfl
  · have hg := goodN_iff.1 hg
    rw [bif_f (c := !true) rfl, Bool.true_and]
    by_cases hw0 : who < 0
    · rw [bif_t (dec_t hw0), dec_f (show ¬ (0 ≤ who ∧ who < 6) by omega)]; rfl
    · rw [bif_f (dec_f hw0)]
      by_cases hw5 : who > 5
      · rw [bif_t (dec_t hw5), dec_f (show ¬ (0 ≤ who ∧ who < 6) by omega)]; rfl
      · rw [bif_f (dec_f hw5), dec_t (show 0 ≤ who ∧ who < 6 by omega), Bool.true_and]
        unfold takeFrame_j12
        have hne : (f.node != who) = !(f.node == who) := rfl
        rw [hne]
        cases (f.node == who)
        · rfl
        · rw [Bool.not_true, cond_false, cond_true]
          unfold takeFrame_j1
          cases hz : (frameZ f == 0)
          · have : (frameZ f != 0) = true := by rw [bne, hz]; rfl
            rw [some_bind, this]
            rfl
          · have : (frameZ f != 0) = false := by rw [bne, hz]; rfl
            rw [some_bind, this, cond_false, cond_true]
            have hz : frameZ f = 0 := by simpa using hz
            have h1e : (f.kind != 1) = !(f.kind == 1) := rfl
            have h3e : (f.kind != 3) = !(f.kind == 3) := rfl
            rw [h1e, h3e]
            unfold takeFrame_j11
            cases h1 : (f.kind == 1)
            · cases h3 : (f.kind == 3)
              · unfold takeK
                rw [h1, h3]
                rfl
              · exact takeFrame_j2_eq (d := Zr.zd) hg hs hz hfu (.inr (by simpa using h3))
            · exact takeFrame_j2_eq (d := Zr.zd) hg hs hz hfu (.inl (by simpa using h1))
theorem atUp_len {m : Int} : ∀ {l : List Int} {b : Int}, atUp m b l = true → l = [] ∨ b + l.length < m
  | [], _, _ => .inl rfl
  | x :: t, b, h => by
    unfold atUp at h
    simp only [Bool.and_eq_true, decide_eq_true_eq] at h
    refine .inr ?_
    rcases atUp_len h.2 with e | e
    · subst e; simp; omega
    · simp only [List.length_cons]; omega
theorem GoodN.sizes {s : GNode} (h : GoodN s) : NSz s 33 := by
  refine ⟨by have := h.len; omega, fun k => ?_⟩
  by_cases hk : k < 32
  · by_cases h0 : (eat s.entries k).state = 0
    · obtain ⟨e1, e2, e3, e4, e5⟩ := h.empty hk h0
      refine ⟨?_, ?_, ?_, ?_, ?_⟩
      · rw [e1]; simp
      · rw [e2]; simp
      · rw [e3]; simp
      · rw [e4]; simp
      · rw [e5]; simp
    · have hb := h.body hk h0
      have h1 := goodOps_len hb.ops
      have h2 := rising_len hb.first
      have h3 := rising_len hb.deps
      have h4 : (eat s.entries k).at_.length ≤ 4 := by
        rcases atUp_len hb.up with e | e
        · rw [e]; simp
        · omega
      have h5 := hb.same
      exact ⟨by omega, by omega, by omega, by omega, by omega⟩
  · rw [eat_out hk]
    have e : (Zr.zd : GEntry) = { state := 0, ops := [], first := [], deps := [], at_ := [], values := [] } := rfl
    rw [e]
    exact ⟨by simp, by simp, by simp, by simp, by simp⟩
theorem NSz.mono {s : GNode} {N M : Nat} (h : NSz s N) (hNM : N ≤ M) : NSz s M :=
  ⟨⟨by have := h.order.1; omega, h.order.2⟩, fun k => by
    have e := h.ent k
    exact ⟨⟨by have := e.ops.1; omega, e.ops.2⟩, ⟨by have := e.first.1; omega, e.first.2⟩, ⟨by have := e.deps.1; omega, e.deps.2⟩, ⟨by have := e.at_.1; omega, e.at_.2⟩, ⟨by have := e.values.1; omega, e.values.2⟩⟩⟩
theorem sameEntryD_refl {fu N : Nat} {e : GEntry} (h : ESz e N) (hf : N ≤ fu) : sameEntryD fu e e = some true := by
  unfold sameEntryD sameEntry_j1
  rw [sameOpsD_refl (by have := h.ops.2; omega) (by have := h.ops.1; omega)]
  simp only [some_bind, sameZ_refl, beq_self_eq_true, cond_true]
theorem sameNode_l1_eq {fu N : Nat} {s : GNode} (h : NSz s N) (hf : N ≤ fu) : ∀ (n m k : Nat), k + m = 32 → m < n → sameNode_l1 fu s s n k = some true
  | 0, m, k, _, h => absurd h (by omega)
  | n + 1, 0, k, hk, _ => by
    rw [sameNode_l1, bif_f (dec_f (by omega)), some_bind, sameZ_refl, cond_true, sameNode_j1, dec_t rfl]
  | n + 1, m + 1, k, hk, hn => by
    have hk32 : k < 32 := by omega
    rw [sameNode_l1, bif_t (dec_t (by omega)), inR_ok (by omega) (by omega), some_bind, idxE hk32, some_bind, some_bind, some_bind, sameEntryD_refl (h.ent k) hf, some_bind, bif_f (c := !true) rfl, wrs k (by omega)]
    exact sameNode_l1_eq h hf n m (k + 1) (by omega) (by omega)
theorem sameNodeD_refl {fu N : Nat} {s : GNode} (h : NSz s N) (hf : N + 40 ≤ fu) : sameNodeD fu s s = some true := sameNode_l1_eq h (by omega) fu 32 0 (by omega) (by omega)
theorem nodup_single {l : List Nat} {a : Nat} (h : l.Nodup) (hm : ∀ m, m ∈ l ↔ m = a) : l = [a] := by
  cases l with
  | nil => have := (hm a).2 rfl; cases this
  | cons x t =>
    have hx := (hm x).1 List.mem_cons_self
    subst hx
    cases t with
    | nil => rfl
    | cons y u =>
      have hy := (hm y).1 (List.mem_cons_of_mem _ List.mem_cons_self)
      rw [List.nodup_cons] at h
      exact absurd (by rw [hy]; exact List.mem_cons_self) h.1
theorem path_alone {g : GGraph} {n : Nat} (h : depsAt g n = []) {k : Nat} (hp : Path (Edge g) n k) : k = n := by
  induction hp with
  | refl => rfl
  | tail _ e ih =>
    subst ih
    have := e.2.2.1
    rw [h] at this
    cases this
theorem ordL_alone {g : GGraph} {n : Nat} (hn : n < 32) (hk : bat g.known n = true) (h : depsAt g n = []) : ordL g n = [n] := by
  unfold ordL
  rw [if_pos]
  · refine nodup_single (orderS_ok (pathB_pre g) hn).nodup fun m => ?_
    rw [orderS_mem (pathB_pre g) hn, pathB_iff]
    exact ⟨path_alone h, fun e => by rw [e]; exact .refl n⟩
  · rw [readyZ_iff]
    refine ⟨by omega, fun j _ hj hb => ?_⟩
    unfold reachZ at hb
    rw [if_pos (by omega), Int.toNat_natCast, bat_reachV hj] at hb
    rw [path_alone h hb]
    exact hk
theorem turns_none {g : GGraph} {sh : Int} {s : GNode} : ∀ (l : List Nat), (∀ k ∈ l, (eat s.entries k).state ≠ 2) → l.foldl (turnZ g sh) s = s
  | [], _ => rfl
  | k :: t, h => by
    have hk := h k List.mem_cons_self
    rw [List.foldl_cons, turnZ, bif_f (by simpa using hk)]
    exact turns_none t fun x hx => h x (List.mem_cons_of_mem _ hx)
theorem execZ_alone {s : GNode} {n : Nat} (hn : n < 32) (h2 : (eat s.entries n).state = 2) (hno : ∀ k, k < 32 → k ≠ n → (eat s.entries k).state ≠ 2) (hd : (eat s.entries n).deps = []) (sh : Int) : execZ s sh = oneZ s n sh := by
  have hg : ordL (graphZ s) n = [n] := ordL_alone hn (by rw [bat_graphZ hn, h2]; rfl) (by rw [depsAt_graphZ hn, hd])
  have hr : List.range 32 = List.range' 0 n ++ n :: List.range' (n + 1) (31 - n) := by
    rw [List.range_eq_range', ← List.range'_succ, show 31 - n + 1 = 32 - n from by omega]
    have := List.range'_append (s := 0) (m := n) (n := 32 - n) (step := 1)
    rw [show n + (32 - n) = 32 from by omega, show 0 + 1 * n = n from by omega] at this
    exact this.symm
  unfold execZ
  rw [hr, List.foldl_append, turns_none (List.range' 0 n) (fun k hk => by
    have := List.mem_range'_1.1 hk
    exact hno k (by omega) (by omega)), List.foldl_cons]
  have ht : turnZ (graphZ s) sh s n = oneZ s n sh := by
    unfold turnZ runZ
    rw [bif_t (by simp [h2]), hg]
    show stepZ sh s n = _
    unfold stepZ
    rw [bif_t (by simp [h2])]
  rw [ht]
  refine turns_none _ fun k hk => ?_
  have := List.mem_range'_1.1 hk
  show (eat (s.entries.setIfInBounds n _) k).state ≠ 2
  rw [eat_setI hn, if_neg (by omega)]
  exact hno k (by omega) (by omega)
def zeroN : GNode := { entries := Zr.zd, order := Zr.zd, values := Zr.zd }
theorem eat_zero (k : Nat) : eat (Zr.zd : Vector GEntry 32) k = Zr.zd := by
  show eat (Vector.replicate 32 Zr.zd) k = Zr.zd
  unfold eat
  by_cases hk : k < 32 <;> simp [hk]
theorem zero_good : GoodN zeroN := by
  refine ⟨List.nodup_nil, (by intro m hm; cases hm), fun k hk => ?_⟩
  show entryOk k (eat (Zr.zd : Vector GEntry 32) k) (decide ((k : Int) ∈ ([] : List Int))) = true
  rw [eat_zero]
  rfl
def f9 : GFrame := { kind := 3, node := 3, id := 4, ops := [{ kind := 2, key := 1, n := 9 }], deps := [], at_ := [], vals := [] }
theorem takeN_f9 : takeN zeroN 3 f9 = (oneZ (commN zeroN f9 1) 4 1, answers 1 3 4 (oneZ (commN zeroN f9 1) 4 1), 0) := by
  have hz : frameZ f9 = 0 := by decide +kernel
  have he : execZ (commN zeroN f9 1) 1 = oneZ (commN zeroN f9 1) 4 1 := by
    have h4 : eat (commN zeroN f9 1).entries 4 = commE zeroN f9 1 := by
      show eat ((Zr.zd : Vector GEntry 32).setIfInBounds 4 _) 4 = _
      rw [eat_setI (by omega), if_pos rfl]
    refine execZ_alone (by omega) (by rw [h4]; rfl) (fun k hk hk4 => ?_) (by rw [h4]; rfl) 1
    show (eat ((Zr.zd : Vector GEntry 32).setIfInBounds 4 _) k).state ≠ 2
    rw [eat_setI (by omega), if_neg (by omega), eat_zero]
    show (0 : Int) ≠ 2
    decide
  unfold takeN
  rw [goodN_iff.2 zero_good, hz]
  show takeK zeroN 3 f9 = _
  have ho : ofZ 3 = 1 := by decide
  have hs : (eat zeroN.entries f9.id.toNat).state = 0 := by
    show (eat (Zr.zd : Vector GEntry 32) 4).state = 0
    rw [eat_zero]
    rfl
  have k1 : (f9.kind == 1) = false := rfl
  have k3 : (f9.kind == 3) = true := rfl
  have k4 : f9.id = 4 := rfl
  unfold takeK commitN
  rw [ho, hs, k1, cond_false, k3, cond_true, dec_t (by decide), cond_true, he, k4]
theorem lawTakesD_eq {fu : Nat} (hfu : 120 ≤ fu) : lawTakesD fu = some true := by
  unfold lawTakesD
  rw [some_bind, some_bind, some_bind]
  have h : nodeTakeD fu { entries := Zr.zd, order := Zr.zd, values := Zr.zd } 3 { kind := 3, node := 3, id := 4, ops := [{ kind := 2, key := 1, n := 9 }], deps := Zr.zd, at_ := Zr.zd, vals := Zr.zd } = some (takeN zeroN 3 f9) := nodeTakeD_eq zero_good.sizes (by omega) hfu
  rw [h, some_bind, takeN_f9, some_bind]
  have h4 : eat (commN zeroN f9 1).entries 4 = commE zeroN f9 1 := by
    show eat ((Zr.zd : Vector GEntry 32).setIfInBounds 4 _) 4 = _
    rw [eat_setI (by omega), if_pos rfl]
  have hv : idxV (oneZ (commN zeroN f9 1) 4 1).values 1 = some 9 := by
    unfold oneZ
    rw [h4]
    decide +kernel
  have ha : (answers 1 3 4 (oneZ (commN zeroN f9 1) 4 1)).length = 2 := by
    have h5 : eat (oneZ (commN zeroN f9 1) 4 1).entries 4 = doneE (commE zeroN f9 1) [0] [9] := by
      unfold oneZ
      rw [eat_setI (by omega), if_pos rfl, h4]
      rfl
    unfold answers
    rw [show (4 : Int).toNat = 4 from rfl, h5]
    rfl
  rw [ha, hv]
  rfl
end Go.Proofs.Ytopgdemmdcipcaa
namespace Go.Proofs.Ytopgdemmdcipcaa
open Go.RowKit
open Rep (rep)
theorem ESz.mono {e : GEntry} {N M : Nat} (h : ESz e N) (hNM : N ≤ M) : ESz e M :=
  ⟨⟨by have := h.ops.1; omega, h.ops.2⟩, ⟨by have := h.first.1; omega, h.first.2⟩, ⟨by have := h.deps.1; omega, h.deps.2⟩, ⟨by have := h.at_.1; omega, h.at_.2⟩, ⟨by have := h.values.1; omega, h.values.2⟩⟩
end Go.Proofs.Ytopgdemmdcipcaa
namespace Go.Proofs.Ytopgdemmdcipcaa
open Go.RowKit
open Rep (rep)
set_option linter.unusedVariables false
def rByteD (fu : Nat) (x1 : GReader) : Option (Int × GReader) :=
 (bif x1.s.toList == (⟨#[]⟩ : ByteArray).toList then
 (some ({ x1 with bad := true } : GReader)).bind fun d5 =>
 some (0, d5)
 else
 (idxS x1.s 0).bind fun c6 =>
 (cutB x1.s (some 1) none).bind fun s9 =>
 (chkS s9).bind fun _ =>
 (some ({ x1 with s := s9 } : GReader)).bind fun d13 =>
 some (IntKind.wrap .i64 c6, d13))
set_option maxRecDepth 100000 in
set_option maxHeartbeats 4000000 in
theorem rByte_ok {M : Mm} {w : World} {bx1 : Nat} {cx1 : List Value} {x1 : GReader} {fu : Nat} {r : Int × GReader} (hS : St w (lentX [.box bx1 cx1 110]) M [.box bx1 cx1 110] w) (hcx1 : rep M cx1 x1) (hz : rByteD fu x1 = some r) :
    Calls Try.prog 81 #[.pointer (some ⟨bx1, 0, none⟩)] w (GivesL M w [.box bx1 cx1 110] (fun M' u L' => ∃ k0, u = .int .i64 r.1 ∧ L' = [.box bx1 k0 110] ∧ rep M' k0 r.2)) := by
 refine calls_W Try.func81 rfl 27 rfl rfl (by kernel_rfl) fun T hT => ?_
 have hT_0 : T 0 = .pointer (some ⟨bx1, 0, none⟩) := hT 0
 clear hT
 have hE := Mm.ext.refl w.heap.size (lentX [.box bx1 cx1 110]) M
 rw [rByteD] at hz
 refine W_seq <|W_reg <|WL_y (Y_assign (.int .i64 0) rfl) ?_
 refine WL_nil (nm_then ?_)
 refine W_seq <|W_seq <|W_reg <|WL_y (Y_move (.pointer (some ⟨bx1, 0, none⟩)) hT_0) <|WL_y (Y_nil rfl) <|WL_y (Y_fa fa110_0 rfl) <|WL_y (Y_ld1 (.string x1.s) ts9 rfl (hS.bvB 0 rfl) (GReader.p0 (rr hcx1)).1) <|WL_y (Y_eqS rfl rfl) ?_
 refine WL_nil (nm_then ?_)
 refine W_cond rfl (fun hc2 => ?_) (fun hc2 => ?_)
 replace hz := bif_ok_t hz hc2
 refine W_seq <|W_reg <|WL_y (Y_move (.pointer (some ⟨bx1, 0, none⟩)) hT_0) <|WL_y (Y_nil rfl) <|WL_y (Y_fa fa110_1 rfl) ?_
 obtain ⟨d5, hd4, hz⟩ := bind_ok hz
 refine WL_c (O_sx 0 1 hS rfl hcx1 rfl rfl (rb true : rep M _ _) rfl rfl (GReader.u1 (rr hcx1) (Lf (GReader.p1 (rr hcx1)) (rb true : rep M _ _))) hd4 ?_)
 intro cs4 w3 hb4 ha4 hs4 hS
 refine WL_nil (nm_then ?_)
 refine W_seq <|W_reg <|WL_y (Y_assign (.int .i64 0) rfl) ?_
 refine WL_nil (nm_then ?_)
 cases hz
 exact W_ret (rt_then (R_t1 rfl rfl ⟨_, M, _, rfl, hE, (hS.sel (H' := [.box bx1 cs4 110]) [0] (by decide) rfl), cs4, rfl, rfl, hb4⟩))
 replace hz := bif_ok_f hz hc2
 refine W_skip (nm_then ?_)
 refine W_seq <|W_reg <|WL_y (Y_move (.pointer (some ⟨bx1, 0, none⟩)) hT_0) <|WL_y (Y_nil rfl) <|WL_y (Y_fa fa110_0 rfl) <|WL_y (Y_ld1 (.string x1.s) ts9 rfl (hS.bvB 0 rfl) (GReader.p0 (rr hcx1)).1) ?_
 obtain ⟨c6, hx7, hz⟩ := bind_ok hz
 refine WL_y (Y_ixS Try.underlying9 rfl rfl hx7) <|WL_y (Y_assign (.int .u8 c6) rfl) ?_
 refine WL_nil (nm_then ?_)
 refine W_seq <|W_reg <|WL_y (Y_move (.pointer (some ⟨bx1, 0, none⟩)) hT_0) <|WL_y (Y_move (.pointer (some ⟨bx1, 0, none⟩)) hT_0) <|WL_y (Y_nil rfl) <|WL_y (Y_fa fa110_0 rfl) <|WL_y (Y_ld1 (.string x1.s) ts9 rfl (hS.bvB 0 rfl) (GReader.p0 (rr hcx1)).1) ?_
 obtain ⟨s9, hx8, hz⟩ := bind_ok hz
 obtain ⟨⟨pp8, qq8⟩, hc8, hx8⟩ := Option.map_eq_some_iff.1 hx8
 refine WL_y ((hx8 ▸ Y_cutS (l := (some 1)) (h := none) Try.underlying9 rfl (evs rfl) evn hc8)) <|WL_y (Y_nil rfl) <|WL_y (Y_fa fa110_0 rfl) ?_
 obtain ⟨_, hx11, hz⟩ := bind_ok hz
 have hx11 := chkS_some hx11
 obtain ⟨d13, hd12, hz⟩ := bind_ok hz
 refine WL_c (O_sx 0 1 hS rfl hcx1 rfl rfl (rep_str hx11 : rep M [Value.string s9] s9) rfl rfl (GReader.u0 (rr hcx1) (Lf (GReader.p0 (rr hcx1)) (rep_str hx11 : rep M [Value.string s9] s9))) hd12 ?_)
 intro cs12 w10 hb12 ha12 hs12 hS
 refine WL_nil (nm_then ?_)
 refine W_seq <|W_reg <|WL_y (Y_move (.int .u8 c6) rfl) <|WL_y (Y_conv ⟨_, Try.underlying5⟩ Try.underlying3 rfl) <|WL_y (Y_assign (.int .i64 (IntKind.wrap .i64 c6)) rfl) ?_
 refine WL_nil (nm_then ?_)
 cases hz
 exact W_ret (R_t1 rfl rfl ⟨_, M, _, rfl, hE, (hS.sel (H' := [.box bx1 cs12 110]) [0] (by decide) rfl), cs12, rfl, rfl, hb12⟩)
def rNumber_l1 (fu : Nat) : Nat → GReader → Int → Int → Option (Int × GReader)
 | 0, _, _, _ => none
 | n + 1, d6, y7, y8 =>
 (bif decide (y8 < 6) then
 (rByteD fu d6).bind fun r16 =>
 (rNumber_l1 fu n) r16.2 (orI .i64 (IntKind.wrap .i64 (y7 * 2 ^ (min (Int.toNat 8) (IntKind.bits .i64)))) r16.1) (IntKind.wrap .i64 (y8 + 1))
 else
 some (IntKind.wrap .i64 (y7 - 140737488355328), d6))
def rNumberD (fu : Nat) (x1 : GReader) : Option (Int × GReader) :=
 rNumber_l1 fu fu x1 0 0
set_option maxRecDepth 100000 in
set_option maxHeartbeats 4000000 in
theorem rNumber_ok {M : Mm} {w : World} {bx1 : Nat} {cx1 : List Value} {x1 : GReader} {fu : Nat} {r : Int × GReader} (hS : St w (lentX [.box bx1 cx1 110]) M [.box bx1 cx1 110] w) (hcx1 : rep M cx1 x1) (hz : rNumberD fu x1 = some r) :
    Calls Try.prog 82 #[.pointer (some ⟨bx1, 0, none⟩)] w (GivesL M w [.box bx1 cx1 110] (fun M' u L' => ∃ k0, u = .int .i64 r.1 ∧ L' = [.box bx1 k0 110] ∧ rep M' k0 r.2)) := by
 refine calls_W Try.func82 rfl 14 rfl rfl (by kernel_rfl) fun T hT => ?_
 have hT_0 : T 0 = .pointer (some ⟨bx1, 0, none⟩) := hT 0
 clear hT
 have hE := Mm.ext.refl w.heap.size (lentX [.box bx1 cx1 110]) M
 rw [rNumberD] at hz
 refine W_seq <|W_reg <|WL_y (Y_assign (.int .i64 0) rfl) ?_
 refine WL_nil (nm_then ?_)
 refine W_seq <|W_reg <|WL_y (Y_assign (.int .i64 0) rfl) ?_
 refine WL_nil (nm_then ?_)
 refine W_seq <|W_seq <|W_reg <|WL_y (Y_move (.int .i64 0) rfl) ?_
 refine WL_nil (nm_then ?_)
 refine W_block ?_
 refine W_loop (fun k10 T' w' => ∃ M3 cs5 d6 y7 y8, Mm.ext w.heap.size (lentX [.box bx1 cx1 110]) M M3 ∧ St w (lentX [.box bx1 cx1 110]) M3 [.box bx1 cs5 110] w' ∧ rep M3 cs5 d6 ∧ T' 0 = .pointer (some ⟨bx1, 0, none⟩) ∧ T' 3 = .int .i64 y7 ∧ T' 4 = .int .i64 y8 ∧ rNumber_l1 fu k10 d6 y7 y8 = some r) fu ?_ ?_ ?_
 exact ⟨M, cx1, x1, (0 : Int), (0 : Int), (Mm.ext.refl _ _ _), hS, hcx1, hT_0, rfl, rfl, hz⟩
 rintro T' w' ⟨_, _, _, _, _, _, _, _, _, _, _, hz⟩
 rw [rNumber_l1] at hz
 cases hz
 intro k10
 rintro T4 w2 ⟨M3, cs5, d6, y7, y8, hx12, hS, hb5, hT4_0, hT4_3, hT4_4, hz⟩
 replace hE := Mm.ext.trans hE hx12
 have hF11 := hx12
 rw [rNumber_l1] at hz
 obtain ⟨rec9, hrec9⟩ : ∃ f, f = rNumber_l1 fu k10 := ⟨_, rfl⟩
 rw [← hrec9] at hz
 refine W_seq <|W_reg <|WL_y (Y_lss hT4_4 rfl) ?_
 refine WL_nil (nm_then ?_)
 refine W_seq ?_
 refine W_cond rfl (fun hc13 => ?_) (fun hc13 => ?_)
 replace hz := bif_ok_t hz hc13
 refine W_skip (nm_then ?_)
 refine W_seq <|W_block <|W_reg <|WL_y (Y_move (.int .i64 y7) hT4_3) <|WL_y (Y_shl rfl rfl (by decide)) <|WL_y (Y_move (.pointer (some ⟨bx1, 0, none⟩)) hT4_0) ?_
 obtain ⟨r16, hr15, hz⟩ := bind_ok hz
 refine WL_c (O_lend (vs := [.pointer (some ⟨bx1, 0, none⟩)]) (L := [.box bx1 cs5 110]) (R := []) (rv := (fun M' u L' => ∃ k0, u = .int .i64 r16.1 ∧ L' = [.box bx1 k0 110] ∧ rep M' k0 r16.2)) cb81 (args1 rfl) hS (hS.sel [0] (by decide) rfl) (fun hS => rByte_ok hS hb5 hr15) ?_)
 rintro u15 M15 w14 L15 hx15 ⟨k0_15, rfl, hL15, f15_0⟩ hS
 replace hS := hS _ hL15
 replace hb5 := Rep.mono hx15.1 hb5
 replace hE := Mm.ext.trans hE hx15
 replace hF11 := Mm.ext.trans hF11 hx15
 refine WL_y (Y_or rfl rfl) <|WL_y (Y_assign (.int .i64 (orI .i64 (IntKind.wrap .i64 (y7 * 2 ^ (min (Int.toNat 8) (IntKind.bits .i64)))) r16.1)) rfl) ?_
 refine WL_nil (nm_blk ?_)
 refine (nm_then ?_)
 refine W_reg <|WL_y (Y_add hT4_4 rfl) <|WL_y (Y_move (.int .i64 (IntKind.wrap .i64 (y8 + 1))) rfl) ?_
 refine WL_nil (nm_then ?_)
 exact ⟨M15, k0_15, r16.2, (orI .i64 (IntKind.wrap .i64 (y7 * 2 ^ (min (Int.toNat 8) (IntKind.bits .i64)))) r16.1), (IntKind.wrap .i64 (y8 + 1)), hF11, hS, f15_0, hT4_0, rfl, rfl, (by rw [← hrec9]; exact hz)⟩
 replace hz := bif_ok_f hz hc13
 refine W_exit <|ex_then <|ex_then <|ex_hit ?_
 refine (nm_then ?_)
 refine W_seq <|W_reg <|WL_y (Y_move (.int .i64 y7) hT4_3) <|WL_y (Y_sub rfl rfl) <|WL_y (Y_assign (.int .i64 (IntKind.wrap .i64 (y7 - 140737488355328))) rfl) ?_
 refine WL_nil (nm_then ?_)
 cases hz
 exact W_ret (R_t1 rfl rfl ⟨_, M3, _, rfl, hE, (hS.sel (H' := [.box bx1 cs5 110]) [0] (by decide) rfl), cs5, rfl, rfl, hb5⟩)
def decode_j1 (fu : Nat) (d52 : GReader) (d54 : GFrame) (y60 : Int) (rec61 : GReader → GFrame → Int → Option (GFrame × Int)) : Option (GFrame × Int) :=
 (rByteD fu d52).bind fun r75 =>
 (rByteD fu r75.2).bind fun r79 =>
 (rNumberD fu r79.2).bind fun r83 =>
 (some ({ kind := r75.1, key := r79.1, n := r83.1 } : GOp)).bind fun d86 =>
 (app d54.ops ([d86] : List GOp)).bind fun l92 =>
 (some ({ d54 with ops := l92 } : GFrame)).bind fun d96 =>
 rec61 r83.2 d96 (IntKind.wrap .i64 (y60 - 1))
def decode_j3 (fu : Nat) (d115 : GReader) (d117 : GFrame) (y123 : Int) (rec124 : GReader → GFrame → Int → Option (GFrame × Int)) : Option (GFrame × Int) :=
 (rByteD fu d115).bind fun r138 =>
 (app d117.deps ([r138.1] : List Int)).bind fun l145 =>
 (some ({ d117 with deps := l145 } : GFrame)).bind fun d149 =>
 rec124 r138.2 d149 (IntKind.wrap .i64 (y123 - 1))
def decode_j5 (fu : Nat) (d168 : GReader) (d170 : GFrame) (y177 : Int) (rec178 : GReader → GFrame → Int → Option (GFrame × Int)) : Option (GFrame × Int) :=
 (rByteD fu d168).bind fun r192 =>
 (app d170.at_ ([r192.1] : List Int)).bind fun l199 =>
 (some ({ d170 with at_ := l199 } : GFrame)).bind fun d203 =>
 (rNumberD fu r192.2).bind fun r214 =>
 (app d203.vals ([r214.1] : List Int)).bind fun l221 =>
 (some ({ d203 with vals := l221 } : GFrame)).bind fun d225 =>
 rec178 r214.2 d225 (IntKind.wrap .i64 (y177 - 1))
def decode_j7 (d170 : GFrame) (d241 : GFrame) : Option (GFrame × Int) :=
 (some d170).bind fun d250 =>
 some (d250, 0)
def decode_j8 (d170 : GFrame) (c259 : Bool) : Option (GFrame × Int) :=
 (bif c259 then
 (some ({ kind := Zr.zd, node := Zr.zd, id := Zr.zd, ops := Zr.zd, deps := Zr.zd, at_ := Zr.zd, vals := Zr.zd } : GFrame)).bind fun d263 =>
 (some d263).bind fun d274 =>
 some (d274, 1)
 else
 decode_j7 d170 (Zr.zd : GFrame))
def decode_j6 (fu : Nat) (d168 : GReader) (d170 : GFrame) (y177 : Int) (rec178 : GReader → GFrame → Int → Option (GFrame × Int)) (c234 : Bool) : Option (GFrame × Int) :=
 (bif c234 then
 decode_j5 fu d168 d170 y177 rec178
 else
 (bif d168.bad then
 decode_j8 d170 true
 else
 (bif !(d168.s.toList == (⟨#[]⟩ : ByteArray).toList) then
 decode_j8 d170 true
 else
 (some (frameZ d170)).bind fun r289 =>
 decode_j8 d170 (r289 != 0))))
def decode_l3 (fu : Nat) : Nat → GReader → GFrame → Int → Option (GFrame × Int)
 | 0, _, _, _ => none
 | n + 1, d168, d170, y177 =>
 (bif decide (y177 > 0) then
 decode_j6 fu d168 d170 y177 (decode_l3 fu n) (!d168.bad)
 else
 decode_j6 fu d168 d170 y177 (decode_l3 fu n) false)
def decode_j4 (fu : Nat) (d115 : GReader) (d117 : GFrame) (y123 : Int) (rec124 : GReader → GFrame → Int → Option (GFrame × Int)) (c158 : Bool) : Option (GFrame × Int) :=
 (bif c158 then
 decode_j3 fu d115 d117 y123 rec124
 else
 (rByteD fu d115).bind fun r163 =>
 decode_l3 fu fu r163.2 d117 r163.1)
def decode_l2 (fu : Nat) : Nat → GReader → GFrame → Int → Option (GFrame × Int)
 | 0, _, _, _ => none
 | n + 1, d115, d117, y123 =>
 (bif decide (y123 > 0) then
 decode_j4 fu d115 d117 y123 (decode_l2 fu n) (!d115.bad)
 else
 decode_j4 fu d115 d117 y123 (decode_l2 fu n) false)
def decode_j2 (fu : Nat) (d52 : GReader) (d54 : GFrame) (y60 : Int) (rec61 : GReader → GFrame → Int → Option (GFrame × Int)) (c105 : Bool) : Option (GFrame × Int) :=
 (bif c105 then
 decode_j1 fu d52 d54 y60 rec61
 else
 (rByteD fu d52).bind fun r110 =>
 decode_l2 fu fu r110.2 d54 r110.1)
def decode_l1 (fu : Nat) : Nat → GReader → GFrame → Int → Option (GFrame × Int)
 | 0, _, _, _ => none
 | n + 1, d52, d54, y60 =>
 (bif decide (y60 > 0) then
 decode_j2 fu d52 d54 y60 (decode_l1 fu n) (!d52.bad)
 else
 decode_j2 fu d52 d54 y60 (decode_l1 fu n) false)
def decodeD (fu : Nat) (x1 : ByteArray) : Option (GFrame × Int) :=
 (chkS x1).bind fun _ =>
 (some ({ s := x1, bad := Zr.zd } : GReader)).bind fun d6 =>
 (rByteD fu d6).bind fun r11 =>
 (rByteD fu r11.2).bind fun r14 =>
 (rByteD fu r14.2).bind fun r17 =>
 (some ({ kind := r11.1, node := r14.1, id := r17.1, ops := Zr.zd, deps := Zr.zd, at_ := Zr.zd, vals := Zr.zd } : GFrame)).bind fun d19 =>
 (some d19).bind fun d40 =>
 (rByteD fu r17.2).bind fun r47 =>
 decode_l1 fu fu r47.2 d40 r47.1
set_option maxRecDepth 100000 in
set_option maxHeartbeats 4000000 in
theorem decode_ok {M : Mm} {w : World} {x1 : ByteArray} {fu : Nat} {r : GFrame × Int} (hA : Agree M w)  (hz : decodeD fu x1 = some r) :
    Calls Try.prog 68 #[.string x1] w (Gives M w (fun M' u => ∃ c0, u = .tuple #[.agg c0.toArray, .int .i64 r.2] ∧ rep M' c0 r.1)) := by
 refine calls_W Try.func68 rfl 109 rfl rfl (by kernel_rfl) fun T hT => ?_
 have hT_0 : T 0 = .string x1 := hT 0
 clear hT
 have hE := Mm.ext.refl w.heap.size noX M
 have hS : St w noX M [] w := St.start hA
 rw [decodeD] at hz
 refine W_seq <|W_reg ?_
 refine WL_c (O_alloc tz38 hS ?_)
 intro b3 w2 hb3 hS
 have zb3 : rep M (Zr.zc GFrame) (Zr.zd : GFrame) := Zr.zr
 refine WL_y (Y_assign (.int .i64 0) rfl) ?_
 refine WL_nil (nm_then ?_)
 refine W_seq <|W_reg <|WL_y (Y_move (.string x1) hT_0) ?_
 obtain ⟨_, hx5, hz⟩ := bind_ok hz
 have hx5 := chkS_some hx5
 have k4_0 := GReader.w0 (Zr.zr : rep M (Zr.zc GReader) (Zr.zd : GReader)) (rep_str hx5 : rep M [Value.string x1] x1)
 obtain ⟨d6, hd4, hz⟩ := bind_ok hz
 obtain ⟨cs4, hf4, ha4⟩ : ∃ cs, fillZ (([(0, 1), (1, 1)] : List (Nat × Nat))[·]?) (Zr.zc GReader) [(0, .string x1)] = some cs ∧ rep M cs d6 := ⟨_, (fz_cons (Zr.zr : rep M (Zr.zc GReader) (Zr.zd : GReader)) rfl rfl (Rep.len (rep_str hx5 : rep M [Value.string x1] x1)) (by decide) fz_nil), rep_eq (x := ({ s := x1, bad := Zr.zd } : GReader)) k4_0 hd4⟩
 refine WL_y (Y_build [(0, .string x1)] tb110 (bpc rfl bp0) hf4) ?_
 refine WL_c (O_box (v := .agg cs4.toArray) (cs := cs4) rfl rfl hS ?_)
 intro b8 w7 hb8 hS
 refine WL_y (Y_assign (.pointer (some ⟨b8, 0, none⟩)) rfl) ?_
 refine WL_nil (nm_then ?_)
 refine W_seq <|W_reg <|WL_y (Y_move (.pointer (some ⟨b8, 0, none⟩)) rfl) ?_
 obtain ⟨r11, hr10, hz⟩ := bind_ok hz
 refine WL_c (O_lend (vs := [.pointer (some ⟨b8, 0, none⟩)]) (L := [.box b8 cs4 110]) (R := [.box b3 (Zr.zc GFrame) 38]) (rv := (fun M' u L' => ∃ k0, u = .int .i64 r11.1 ∧ L' = [.box b8 k0 110] ∧ rep M' k0 r11.2)) cb81 (args1 rfl) hS (hS.sel [0, 1] (by decide) rfl) (fun hS => rByte_ok hS ha4 hr10) ?_)
 rintro u10 M10 w9 L10 hx10 ⟨k0_10, rfl, hL10, f10_0⟩ hS
 replace hS := hS _ hL10
 replace zb3 := Rep.mono hx10.1 zb3
 replace ha4 := Rep.mono hx10.1 ha4
 replace hE := Mm.ext.trans hE hx10
 refine WL_y (Y_move (.pointer (some ⟨b8, 0, none⟩)) rfl) ?_
 obtain ⟨r14, hr13, hz⟩ := bind_ok hz
 refine WL_c (O_lend (vs := [.pointer (some ⟨b8, 0, none⟩)]) (L := [.box b8 k0_10 110]) (R := [.box b3 (Zr.zc GFrame) 38]) (rv := (fun M' u L' => ∃ k0, u = .int .i64 r14.1 ∧ L' = [.box b8 k0 110] ∧ rep M' k0 r14.2)) cb81 (args1 rfl) hS (hS.sel [0, 1] (by decide) rfl) (fun hS => rByte_ok hS f10_0 hr13) ?_)
 rintro u13 M13 w12 L13 hx13 ⟨k0_13, rfl, hL13, f13_0⟩ hS
 replace hS := hS _ hL13
 replace zb3 := Rep.mono hx13.1 zb3
 replace f10_0 := Rep.mono hx13.1 f10_0
 replace hE := Mm.ext.trans hE hx13
 refine WL_y (Y_move (.pointer (some ⟨b8, 0, none⟩)) rfl) ?_
 obtain ⟨r17, hr16, hz⟩ := bind_ok hz
 refine WL_c (O_lend (vs := [.pointer (some ⟨b8, 0, none⟩)]) (L := [.box b8 k0_13 110]) (R := [.box b3 (Zr.zc GFrame) 38]) (rv := (fun M' u L' => ∃ k0, u = .int .i64 r17.1 ∧ L' = [.box b8 k0 110] ∧ rep M' k0 r17.2)) cb81 (args1 rfl) hS (hS.sel [0, 1] (by decide) rfl) (fun hS => rByte_ok hS f13_0 hr16) ?_)
 rintro u16 M16 w15 L16 hx16 ⟨k0_16, rfl, hL16, f16_0⟩ hS
 replace hS := hS _ hL16
 replace zb3 := Rep.mono hx16.1 zb3
 replace f13_0 := Rep.mono hx16.1 f13_0
 replace hE := Mm.ext.trans hE hx16
 have k18_0 := GFrame.w0 (Zr.zr : rep M16 (Zr.zc GFrame) (Zr.zd : GFrame)) (ri r11.1 : rep M16 _ _)
 have k18_1 := GFrame.w1 k18_0 (ri r14.1 : rep M16 _ _)
 have k18_2 := GFrame.w2 k18_1 (ri r17.1 : rep M16 _ _)
 obtain ⟨d19, hd18, hz⟩ := bind_ok hz
 obtain ⟨cs18, hf18, ha18⟩ : ∃ cs, fillZ (([(0, 1), (1, 1), (2, 1), (3, 1), (4, 1), (5, 1), (6, 1)] : List (Nat × Nat))[·]?) (Zr.zc GFrame) [(0, .int .i64 r11.1), (1, .int .i64 r14.1), (2, .int .i64 r17.1)] = some cs ∧ rep M16 cs d19 := ⟨_, (fz_cons (Zr.zr : rep M16 (Zr.zc GFrame) (Zr.zd : GFrame)) rfl rfl (Rep.len (ri r11.1 : rep M16 _ _)) (by decide) (fz_cons k18_0 rfl rfl (Rep.len (ri r14.1 : rep M16 _ _)) (by decide) (fz_cons k18_1 rfl rfl (Rep.len (ri r17.1 : rep M16 _ _)) (by decide) fz_nil))), rep_eq (x := ({ kind := r11.1, node := r14.1, id := r17.1, ops := Zr.zd, deps := Zr.zd, at_ := Zr.zd, vals := Zr.zd } : GFrame)) k18_2 hd18⟩
 have hp20 : sl cs18 3 1 = [.slice none 0 0] := (fillZ_apart hf18 (by rfl)).trans (by rfl)
 replace hS := hS.nilRow 78 3
 have hp22 : sl cs18 4 1 = [.slice none 0 0] := (fillZ_apart hf18 (by rfl)).trans (by rfl)
 replace hS := hS.nilRow 3 1
 have hp24 : sl cs18 5 1 = [.slice none 0 0] := (fillZ_apart hf18 (by rfl)).trans (by rfl)
 replace hS := hS.nilRow 3 1
 have hp26 : sl cs18 6 1 = [.slice none 0 0] := (fillZ_apart hf18 (by rfl)).trans (by rfl)
 replace hS := hS.nilRow 3 1
 refine WL_y (Y_build [(0, .int .i64 r11.1), (1, .int .i64 r14.1), (2, .int .i64 r17.1)] tb38 (bpc rfl (bpc rfl (bpc rfl bp0))) hf18) ?_
 refine WL_c (O_alloc tz38 hS ?_)
 intro b29 w28 hb29 hS
 have zb29 : rep M16 (Zr.zc GFrame) (Zr.zd : GFrame) := Zr.zr
 have hp30 : sl (Zr.zc GFrame) 3 1 = [.slice none 0 0] := by rfl
 replace hS := hS.nilRow 78 3
 have hp32 : sl (Zr.zc GFrame) 4 1 = [.slice none 0 0] := by rfl
 replace hS := hS.nilRow 3 1
 have hp34 : sl (Zr.zc GFrame) 5 1 = [.slice none 0 0] := by rfl
 replace hS := hS.nilRow 3 1
 have hp36 : sl (Zr.zc GFrame) 6 1 = [.slice none 0 0] := by rfl
 replace hS := hS.nilRow 3 1
 obtain ⟨d40, hd39, hz⟩ := bind_ok hz
 refine WL_c (O_sx 4 7 hS rfl zb29 rfl rfl ha18 rfl rfl (Lf (rr zb29) ha18) hd39 ?_)
 intro cs39 w38 hb39 ha39 hs39 hS
 have hp41 : sl cs39 (0 + 3) 1 = [(.slice none 0 0)] := sl_in hs39 hp20 (by decide)
 have hp42 : sl cs39 (0 + 4) 1 = [(.slice none 0 0)] := sl_in hs39 hp22 (by decide)
 have hp43 : sl cs39 (0 + 5) 1 = [(.slice none 0 0)] := sl_in hs39 hp24 (by decide)
 have hp44 : sl cs39 (0 + 6) 1 = [(.slice none 0 0)] := sl_in hs39 hp26 (by decide)
 refine WL_nil (nm_then ?_)
 refine W_seq <|W_seq <|W_reg <|WL_y (Y_move (.pointer (some ⟨b8, 0, none⟩)) rfl) ?_
 obtain ⟨r47, hr46, hz⟩ := bind_ok hz
 refine WL_c (O_lend (vs := [.pointer (some ⟨b8, 0, none⟩)]) (L := [.box b8 k0_16 110]) (R := [.row (.slice none 0 0) 3 1, .row (.slice none 0 0) 3 1, .row (.slice none 0 0) 3 1, .row (.slice none 0 0) 78 3, .box b29 cs39 38, .row (.slice none 0 0) 3 1, .row (.slice none 0 0) 3 1, .row (.slice none 0 0) 3 1, .row (.slice none 0 0) 78 3, .box b3 (Zr.zc GFrame) 38]) (rv := (fun M' u L' => ∃ k0, u = .int .i64 r47.1 ∧ L' = [.box b8 k0 110] ∧ rep M' k0 r47.2)) cb81 (args1 rfl) hS (hS.sel [9, 0, 1, 2, 3, 4, 5, 6, 7, 8, 10] (by decide) rfl) (fun hS => rByte_ok hS f16_0 hr46) ?_)
 rintro u46 M46 w45 L46 hx46 ⟨k0_46, rfl, hL46, f46_0⟩ hS
 replace hS := hS _ hL46
 replace zb3 := Rep.mono hx46.1 zb3
 replace f16_0 := Rep.mono hx46.1 f16_0
 replace hb39 := Rep.mono hx46.1 hb39
 replace hE := Mm.ext.trans hE hx46
 refine WL_y (Y_assign (.int .i64 r47.1) rfl) ?_
 refine WL_nil (nm_then ?_)
 refine W_block ?_
 refine W_loop (fun k62 T' w' => ∃ M49 cs51 d52 cs53 d54 v55 y60, Mm.ext w.heap.size noX M46 M49 ∧ St w noX M49 [.box b8 cs51 110, .row (.slice none 0 0) 3 1, .row (.slice none 0 0) 3 1, .row (.slice none 0 0) 3 1, .row (.slice none 0 0) 78 3, .box b29 cs53 38, .row (.slice none 0 0) 3 1, .row (.slice none 0 0) 3 1, .row (.slice none 0 0) 3 1, .row v55 78 3, .box b3 (Zr.zc GFrame) 38] w' ∧ rep M49 cs51 d52 ∧ rep M49 cs53 d54 ∧ sl cs53 (0 + 3) 1 = [v55] ∧ sl cs53 (0 + 4) 1 = [(.slice none 0 0)] ∧ sl cs53 (0 + 5) 1 = [(.slice none 0 0)] ∧ sl cs53 (0 + 6) 1 = [(.slice none 0 0)] ∧ T' 2 = .pointer (some ⟨b3, 0, none⟩) ∧ T' 4 = .pointer (some ⟨b8, 0, none⟩) ∧ T' 5 = .pointer (some ⟨b29, 0, none⟩) ∧ T' 6 = .int .i64 y60 ∧ decode_l1 fu k62 d52 d54 y60 = some r) fu ?_ ?_ ?_
 exact ⟨M46, k0_46, r47.2, cs39, d40, (.slice none 0 0), r47.1, (Mm.ext.refl _ _ _), hS, f46_0, hb39, hp41, hp42, hp43, hp44, rfl, rfl, rfl, rfl, hz⟩
 rintro T' w' ⟨_, _, _, _, _, _, _, _, _, _, _, _, _, _, _, _, _, _, _, hz⟩
 rw [decode_l1] at hz
 cases hz
 intro k62
 rintro T50 w48 ⟨M49, cs51, d52, cs53, d54, v55, y60, hx64, hS, hb51, hb53, hp56, hp57, hp58, hp59, hT50_2, hT50_4, hT50_5, hT50_6, hz⟩
 replace zb3 := Rep.mono hx64.1 zb3
 replace hE := Mm.ext.trans hE hx64
 have hF63 := hx64
 rw [decode_l1] at hz
 obtain ⟨rec61, hrec61⟩ : ∃ f, f = decode_l1 fu k62 := ⟨_, rfl⟩
 rw [← hrec61] at hz
 refine W_seqJ (fun T' w' => ∃ M66, Mm.ext w.heap.size noX M49 M66 ∧ St w noX M66 [.box b8 cs51 110, .row (.slice none 0 0) 3 1, .row (.slice none 0 0) 3 1, .row (.slice none 0 0) 3 1, .row (.slice none 0 0) 78 3, .box b29 cs53 38, .row (.slice none 0 0) 3 1, .row (.slice none 0 0) 3 1, .row (.slice none 0 0) 3 1, .row v55 78 3, .box b3 (Zr.zc GFrame) 38] w' ∧ T' 2 = .pointer (some ⟨b3, 0, none⟩) ∧ T' 4 = .pointer (some ⟨b8, 0, none⟩) ∧ T' 5 = .pointer (some ⟨b29, 0, none⟩) ∧ T' 6 = .int .i64 y60 ∧ decode_j1 fu d52 d54 y60 rec61 = some r) ?_ ?_
 have hF101 := Mm.ext.refl w.heap.size noX M49
 refine W_seqJ (fun T' w' => ∃ M103 c105, Mm.ext w.heap.size noX M49 M103 ∧ St w noX M103 [.box b8 cs51 110, .row (.slice none 0 0) 3 1, .row (.slice none 0 0) 3 1, .row (.slice none 0 0) 3 1, .row (.slice none 0 0) 78 3, .box b29 cs53 38, .row (.slice none 0 0) 3 1, .row (.slice none 0 0) 3 1, .row (.slice none 0 0) 3 1, .row v55 78 3, .box b3 (Zr.zc GFrame) 38] w' ∧ T' 2 = .pointer (some ⟨b3, 0, none⟩) ∧ T' 4 = .pointer (some ⟨b8, 0, none⟩) ∧ T' 5 = .pointer (some ⟨b29, 0, none⟩) ∧ T' 6 = .int .i64 y60 ∧ T' 29 = .bool c105 ∧ decode_j2 fu d52 d54 y60 rec61 c105 = some r) ?_ ?_
 have hF294 := Mm.ext.refl w.heap.size noX M49
 refine W_reg <|WL_y (Y_move (.int .i64 y60) hT50_6) <|WL_y (Y_gtr rfl rfl) <|WL_y (Y_move (.bool (decide (y60 > 0))) rfl) ?_
 rcases ic hz with ⟨hc295, hz⟩ | ⟨hc295, hz⟩ <;> rw [hc295]
 refine WL_gy rfl rfl (Y_move (.pointer (some ⟨b8, 0, none⟩)) hT50_4) <|WL_gy rfl rfl (Y_nil rfl) <|WL_gy rfl rfl (Y_fa fa110_1 rfl) <|WL_gy rfl rfl (Y_ld1 (.bool d52.bad) ts4 rfl (hS.bvB 0 rfl) (GReader.p1 (rr hb51))) <|WL_gy rfl rfl (Y_not rfl) <|WL_y (Y_pick_t (.bool (!d52.bad)) rfl rfl) ?_
 refine WL_nil (nm_then ?_)
 exact ⟨M49, (!d52.bad), hF294, hS, hT50_2, hT50_4, hT50_5, hT50_6, rfl, hz⟩
 refine WL_d 6 rfl ?_
 refine WL_nil (nm_then ?_)
 exact ⟨M49, false, hF294, hS, hT50_2, hT50_4, hT50_5, hT50_6, rfl, hz⟩
 rintro T104 w102 ⟨M103, c105, hx106, hS, hT104_2, hT104_4, hT104_5, hT104_6, hT104_29, hz⟩
 replace zb3 := Rep.mono hx106.1 zb3
 replace hb51 := Rep.mono hx106.1 hb51
 replace hb53 := Rep.mono hx106.1 hb53
 replace hE := Mm.ext.trans hE hx106
 replace hF63 := Mm.ext.trans hF63 hx106
 replace hF101 := Mm.ext.trans hF101 hx106
 rw [decode_j2] at hz
 refine W_cond hT104_29 (fun hc107 => ?_) (fun hc107 => ?_)
 replace hz := bif_ok_t hz hc107
 refine W_skip (nm_then ?_)
 exact ⟨M103, hF101, hS, hT104_2, hT104_4, hT104_5, hT104_6, hz⟩
 replace hz := bif_ok_f hz hc107
 refine W_exit <|ex_then <|ex_then <|ex_hit ?_
 refine (nm_then ?_)
 refine W_seq <|W_seq <|W_reg <|WL_y (Y_move (.pointer (some ⟨b8, 0, none⟩)) hT104_4) ?_
 obtain ⟨r110, hr109, hz⟩ := bind_ok hz
 refine WL_c (O_lend (vs := [.pointer (some ⟨b8, 0, none⟩)]) (L := [.box b8 cs51 110]) (R := [.row (.slice none 0 0) 3 1, .row (.slice none 0 0) 3 1, .row (.slice none 0 0) 3 1, .row (.slice none 0 0) 78 3, .box b29 cs53 38, .row (.slice none 0 0) 3 1, .row (.slice none 0 0) 3 1, .row (.slice none 0 0) 3 1, .row v55 78 3, .box b3 (Zr.zc GFrame) 38]) (rv := (fun M' u L' => ∃ k0, u = .int .i64 r110.1 ∧ L' = [.box b8 k0 110] ∧ rep M' k0 r110.2)) cb81 (args1 rfl) hS (hS.sel [0, 1, 2, 3, 4, 5, 6, 7, 8, 9, 10] (by decide) rfl) (fun hS => rByte_ok hS hb51 hr109) ?_)
 rintro u109 M109 w108 L109 hx109 ⟨k0_109, rfl, hL109, f109_0⟩ hS
 replace hS := hS _ hL109
 replace zb3 := Rep.mono hx109.1 zb3
 replace hb51 := Rep.mono hx109.1 hb51
 replace hb53 := Rep.mono hx109.1 hb53
 replace hE := Mm.ext.trans hE hx109
 replace hF63 := Mm.ext.trans hF63 hx109
 replace hF101 := Mm.ext.trans hF101 hx109
 refine WL_y (Y_assign (.int .i64 r110.1) rfl) ?_
 refine WL_nil (nm_then ?_)
 refine W_block ?_
 refine W_loop (fun k125 T' w' => ∃ M112 cs114 d115 cs116 d117 v119 y123, Mm.ext w.heap.size noX M109 M112 ∧ St w noX M112 [.box b8 cs114 110, .row (.slice none 0 0) 3 1, .row (.slice none 0 0) 3 1, .row (.slice none 0 0) 3 1, .row (.slice none 0 0) 78 3, .box b29 cs116 38, .row (.slice none 0 0) 3 1, .row (.slice none 0 0) 3 1, .row v119 3 1, .row v55 78 3, .box b3 (Zr.zc GFrame) 38] w' ∧ rep M112 cs114 d115 ∧ rep M112 cs116 d117 ∧ sl cs116 (0 + 3) 1 = [v55] ∧ sl cs116 (0 + 4) 1 = [v119] ∧ sl cs116 (0 + 5) 1 = [(.slice none 0 0)] ∧ sl cs116 (0 + 6) 1 = [(.slice none 0 0)] ∧ T' 2 = .pointer (some ⟨b3, 0, none⟩) ∧ T' 4 = .pointer (some ⟨b8, 0, none⟩) ∧ T' 5 = .pointer (some ⟨b29, 0, none⟩) ∧ T' 7 = .int .i64 y123 ∧ decode_l2 fu k125 d115 d117 y123 = some r) fu ?_ ?_ ?_
 exact ⟨M109, k0_109, r110.2, cs53, d54, (.slice none 0 0), r110.1, (Mm.ext.refl _ _ _), hS, f109_0, hb53, hp56, hp57, hp58, hp59, hT104_2, hT104_4, hT104_5, rfl, hz⟩
 rintro T' w' ⟨_, _, _, _, _, _, _, _, _, _, _, _, _, _, _, _, _, _, _, hz⟩
 rw [decode_l2] at hz
 cases hz
 intro k125
 rintro T113 w111 ⟨M112, cs114, d115, cs116, d117, v119, y123, hx127, hS, hb114, hb116, hp118, hp120, hp121, hp122, hT113_2, hT113_4, hT113_5, hT113_7, hz⟩
 replace zb3 := Rep.mono hx127.1 zb3
 replace hE := Mm.ext.trans hE hx127
 replace hF63 := Mm.ext.trans hF63 hx127
 replace hF101 := Mm.ext.trans hF101 hx127
 have hF126 := hx127
 rw [decode_l2] at hz
 obtain ⟨rec124, hrec124⟩ : ∃ f, f = decode_l2 fu k125 := ⟨_, rfl⟩
 rw [← hrec124] at hz
 refine W_seqJ (fun T' w' => ∃ M129, Mm.ext w.heap.size noX M112 M129 ∧ St w noX M129 [.box b8 cs114 110, .row (.slice none 0 0) 3 1, .row (.slice none 0 0) 3 1, .row (.slice none 0 0) 3 1, .row (.slice none 0 0) 78 3, .box b29 cs116 38, .row (.slice none 0 0) 3 1, .row (.slice none 0 0) 3 1, .row v119 3 1, .row v55 78 3, .box b3 (Zr.zc GFrame) 38] w' ∧ T' 2 = .pointer (some ⟨b3, 0, none⟩) ∧ T' 4 = .pointer (some ⟨b8, 0, none⟩) ∧ T' 5 = .pointer (some ⟨b29, 0, none⟩) ∧ T' 7 = .int .i64 y123 ∧ decode_j3 fu d115 d117 y123 rec124 = some r) ?_ ?_
 have hF154 := Mm.ext.refl w.heap.size noX M112
 refine W_seqJ (fun T' w' => ∃ M156 c158, Mm.ext w.heap.size noX M112 M156 ∧ St w noX M156 [.box b8 cs114 110, .row (.slice none 0 0) 3 1, .row (.slice none 0 0) 3 1, .row (.slice none 0 0) 3 1, .row (.slice none 0 0) 78 3, .box b29 cs116 38, .row (.slice none 0 0) 3 1, .row (.slice none 0 0) 3 1, .row v119 3 1, .row v55 78 3, .box b3 (Zr.zc GFrame) 38] w' ∧ T' 2 = .pointer (some ⟨b3, 0, none⟩) ∧ T' 4 = .pointer (some ⟨b8, 0, none⟩) ∧ T' 5 = .pointer (some ⟨b29, 0, none⟩) ∧ T' 7 = .int .i64 y123 ∧ T' 54 = .bool c158 ∧ decode_j4 fu d115 d117 y123 rec124 c158 = some r) ?_ ?_
 have hF292 := Mm.ext.refl w.heap.size noX M112
 refine W_reg <|WL_y (Y_move (.int .i64 y123) hT113_7) <|WL_y (Y_gtr rfl rfl) <|WL_y (Y_move (.bool (decide (y123 > 0))) rfl) ?_
 rcases ic hz with ⟨hc293, hz⟩ | ⟨hc293, hz⟩ <;> rw [hc293]
 refine WL_gy rfl rfl (Y_move (.pointer (some ⟨b8, 0, none⟩)) hT113_4) <|WL_gy rfl rfl (Y_nil rfl) <|WL_gy rfl rfl (Y_fa fa110_1 rfl) <|WL_gy rfl rfl (Y_ld1 (.bool d115.bad) ts4 rfl (hS.bvB 0 rfl) (GReader.p1 (rr hb114))) <|WL_gy rfl rfl (Y_not rfl) <|WL_y (Y_pick_t (.bool (!d115.bad)) rfl rfl) ?_
 refine WL_nil (nm_then ?_)
 exact ⟨M112, (!d115.bad), hF292, hS, hT113_2, hT113_4, hT113_5, hT113_7, rfl, hz⟩
 refine WL_d 6 rfl ?_
 refine WL_nil (nm_then ?_)
 exact ⟨M112, false, hF292, hS, hT113_2, hT113_4, hT113_5, hT113_7, rfl, hz⟩
 rintro T157 w155 ⟨M156, c158, hx159, hS, hT157_2, hT157_4, hT157_5, hT157_7, hT157_54, hz⟩
 replace zb3 := Rep.mono hx159.1 zb3
 replace hb114 := Rep.mono hx159.1 hb114
 replace hb116 := Rep.mono hx159.1 hb116
 replace hE := Mm.ext.trans hE hx159
 replace hF63 := Mm.ext.trans hF63 hx159
 replace hF101 := Mm.ext.trans hF101 hx159
 replace hF126 := Mm.ext.trans hF126 hx159
 replace hF154 := Mm.ext.trans hF154 hx159
 rw [decode_j4] at hz
 refine W_cond hT157_54 (fun hc160 => ?_) (fun hc160 => ?_)
 replace hz := bif_ok_t hz hc160
 refine W_skip (nm_then ?_)
 exact ⟨M156, hF154, hS, hT157_2, hT157_4, hT157_5, hT157_7, hz⟩
 replace hz := bif_ok_f hz hc160
 refine W_exit <|ex_then <|ex_then <|ex_hit ?_
 refine (nm_then ?_)
 refine W_seq <|W_seq <|W_reg <|WL_y (Y_move (.pointer (some ⟨b8, 0, none⟩)) hT157_4) ?_
 obtain ⟨r163, hr162, hz⟩ := bind_ok hz
 refine WL_c (O_lend (vs := [.pointer (some ⟨b8, 0, none⟩)]) (L := [.box b8 cs114 110]) (R := [.row (.slice none 0 0) 3 1, .row (.slice none 0 0) 3 1, .row (.slice none 0 0) 3 1, .row (.slice none 0 0) 78 3, .box b29 cs116 38, .row (.slice none 0 0) 3 1, .row (.slice none 0 0) 3 1, .row v119 3 1, .row v55 78 3, .box b3 (Zr.zc GFrame) 38]) (rv := (fun M' u L' => ∃ k0, u = .int .i64 r163.1 ∧ L' = [.box b8 k0 110] ∧ rep M' k0 r163.2)) cb81 (args1 rfl) hS (hS.sel [0, 1, 2, 3, 4, 5, 6, 7, 8, 9, 10] (by decide) rfl) (fun hS => rByte_ok hS hb114 hr162) ?_)
 rintro u162 M162 w161 L162 hx162 ⟨k0_162, rfl, hL162, f162_0⟩ hS
 replace hS := hS _ hL162
 replace zb3 := Rep.mono hx162.1 zb3
 replace hb114 := Rep.mono hx162.1 hb114
 replace hb116 := Rep.mono hx162.1 hb116
 replace hE := Mm.ext.trans hE hx162
 replace hF63 := Mm.ext.trans hF63 hx162
 replace hF101 := Mm.ext.trans hF101 hx162
 replace hF126 := Mm.ext.trans hF126 hx162
 replace hF154 := Mm.ext.trans hF154 hx162
 refine WL_y (Y_assign (.int .i64 r163.1) rfl) ?_
 refine WL_nil (nm_then ?_)
 refine W_block ?_
 refine W_loop (fun k179 T' w' => ∃ M165 cs167 d168 cs169 d170 v173 v175 y177, Mm.ext w.heap.size noX M162 M165 ∧ St w noX M165 [.box b8 cs167 110, .row (.slice none 0 0) 3 1, .row (.slice none 0 0) 3 1, .row (.slice none 0 0) 3 1, .row (.slice none 0 0) 78 3, .box b29 cs169 38, .row v175 3 1, .row v173 3 1, .row v119 3 1, .row v55 78 3, .box b3 (Zr.zc GFrame) 38] w' ∧ rep M165 cs167 d168 ∧ rep M165 cs169 d170 ∧ sl cs169 (0 + 3) 1 = [v55] ∧ sl cs169 (0 + 4) 1 = [v119] ∧ sl cs169 (0 + 5) 1 = [v173] ∧ sl cs169 (0 + 6) 1 = [v175] ∧ T' 2 = .pointer (some ⟨b3, 0, none⟩) ∧ T' 4 = .pointer (some ⟨b8, 0, none⟩) ∧ T' 5 = .pointer (some ⟨b29, 0, none⟩) ∧ T' 8 = .int .i64 y177 ∧ decode_l3 fu k179 d168 d170 y177 = some r) fu ?_ ?_ ?_
 exact ⟨M162, k0_162, r163.2, cs116, d117, (.slice none 0 0), (.slice none 0 0), r163.1, (Mm.ext.refl _ _ _), hS, f162_0, hb116, hp118, hp120, hp121, hp122, hT157_2, hT157_4, hT157_5, rfl, hz⟩
 rintro T' w' ⟨_, _, _, _, _, _, _, _, _, _, _, _, _, _, _, _, _, _, _, _, hz⟩
 rw [decode_l3] at hz
 cases hz
 intro k179
 rintro T166 w164 ⟨M165, cs167, d168, cs169, d170, v173, v175, y177, hx181, hS, hb167, hb169, hp171, hp172, hp174, hp176, hT166_2, hT166_4, hT166_5, hT166_8, hz⟩
 replace zb3 := Rep.mono hx181.1 zb3
 replace hE := Mm.ext.trans hE hx181
 replace hF63 := Mm.ext.trans hF63 hx181
 replace hF101 := Mm.ext.trans hF101 hx181
 replace hF126 := Mm.ext.trans hF126 hx181
 replace hF154 := Mm.ext.trans hF154 hx181
 have hF180 := hx181
 rw [decode_l3] at hz
 obtain ⟨rec178, hrec178⟩ : ∃ f, f = decode_l3 fu k179 := ⟨_, rfl⟩
 rw [← hrec178] at hz
 refine W_seqJ (fun T' w' => ∃ M183, Mm.ext w.heap.size noX M165 M183 ∧ St w noX M183 [.box b8 cs167 110, .row (.slice none 0 0) 3 1, .row (.slice none 0 0) 3 1, .row (.slice none 0 0) 3 1, .row (.slice none 0 0) 78 3, .box b29 cs169 38, .row v175 3 1, .row v173 3 1, .row v119 3 1, .row v55 78 3, .box b3 (Zr.zc GFrame) 38] w' ∧ T' 2 = .pointer (some ⟨b3, 0, none⟩) ∧ T' 4 = .pointer (some ⟨b8, 0, none⟩) ∧ T' 5 = .pointer (some ⟨b29, 0, none⟩) ∧ T' 8 = .int .i64 y177 ∧ decode_j5 fu d168 d170 y177 rec178 = some r) ?_ ?_
 have hF230 := Mm.ext.refl w.heap.size noX M165
 refine W_seqJ (fun T' w' => ∃ M232 c234, Mm.ext w.heap.size noX M165 M232 ∧ St w noX M232 [.box b8 cs167 110, .row (.slice none 0 0) 3 1, .row (.slice none 0 0) 3 1, .row (.slice none 0 0) 3 1, .row (.slice none 0 0) 78 3, .box b29 cs169 38, .row v175 3 1, .row v173 3 1, .row v119 3 1, .row v55 78 3, .box b3 (Zr.zc GFrame) 38] w' ∧ T' 2 = .pointer (some ⟨b3, 0, none⟩) ∧ T' 4 = .pointer (some ⟨b8, 0, none⟩) ∧ T' 5 = .pointer (some ⟨b29, 0, none⟩) ∧ T' 8 = .int .i64 y177 ∧ T' 74 = .bool c234 ∧ decode_j6 fu d168 d170 y177 rec178 c234 = some r) ?_ ?_
 have hF290 := Mm.ext.refl w.heap.size noX M165
 refine W_reg <|WL_y (Y_move (.int .i64 y177) hT166_8) <|WL_y (Y_gtr rfl rfl) <|WL_y (Y_move (.bool (decide (y177 > 0))) rfl) ?_
 rcases ic hz with ⟨hc291, hz⟩ | ⟨hc291, hz⟩ <;> rw [hc291]
 refine WL_gy rfl rfl (Y_move (.pointer (some ⟨b8, 0, none⟩)) hT166_4) <|WL_gy rfl rfl (Y_nil rfl) <|WL_gy rfl rfl (Y_fa fa110_1 rfl) <|WL_gy rfl rfl (Y_ld1 (.bool d168.bad) ts4 rfl (hS.bvB 0 rfl) (GReader.p1 (rr hb167))) <|WL_gy rfl rfl (Y_not rfl) <|WL_y (Y_pick_t (.bool (!d168.bad)) rfl rfl) ?_
 refine WL_nil (nm_then ?_)
 exact ⟨M165, (!d168.bad), hF290, hS, hT166_2, hT166_4, hT166_5, hT166_8, rfl, hz⟩
 refine WL_d 6 rfl ?_
 refine WL_nil (nm_then ?_)
 exact ⟨M165, false, hF290, hS, hT166_2, hT166_4, hT166_5, hT166_8, rfl, hz⟩
 rintro T233 w231 ⟨M232, c234, hx235, hS, hT233_2, hT233_4, hT233_5, hT233_8, hT233_74, hz⟩
 replace zb3 := Rep.mono hx235.1 zb3
 replace hb167 := Rep.mono hx235.1 hb167
 replace hb169 := Rep.mono hx235.1 hb169
 replace hE := Mm.ext.trans hE hx235
 replace hF63 := Mm.ext.trans hF63 hx235
 replace hF101 := Mm.ext.trans hF101 hx235
 replace hF126 := Mm.ext.trans hF126 hx235
 replace hF154 := Mm.ext.trans hF154 hx235
 replace hF180 := Mm.ext.trans hF180 hx235
 replace hF230 := Mm.ext.trans hF230 hx235
 rw [decode_j6] at hz
 refine W_cond hT233_74 (fun hc236 => ?_) (fun hc236 => ?_)
 replace hz := bif_ok_t hz hc236
 refine W_skip (nm_then ?_)
 exact ⟨M232, hF230, hS, hT233_2, hT233_4, hT233_5, hT233_8, hz⟩
 replace hz := bif_ok_f hz hc236
 refine W_exit <|ex_then <|ex_then <|ex_hit ?_
 refine (nm_then ?_)
 refine W_seqJ (fun T' w' => ∃ M238 cs240 d241, Mm.ext w.heap.size noX M232 M238 ∧ St w noX M238 [.box b8 cs167 110, .row (.slice none 0 0) 3 1, .row (.slice none 0 0) 3 1, .row (.slice none 0 0) 3 1, .row (.slice none 0 0) 78 3, .box b29 cs169 38, .row v175 3 1, .row v173 3 1, .row v119 3 1, .row v55 78 3, .box b3 cs240 38] w' ∧ rep M238 cs240 d241 ∧ T' 2 = .pointer (some ⟨b3, 0, none⟩) ∧ T' 5 = .pointer (some ⟨b29, 0, none⟩) ∧ decode_j7 d170 d241 = some r) ?_ ?_
 have hF255 := Mm.ext.refl w.heap.size noX M232
 refine W_seqJ (fun T' w' => ∃ M257 c259, Mm.ext w.heap.size noX M232 M257 ∧ St w noX M257 [.box b8 cs167 110, .row (.slice none 0 0) 3 1, .row (.slice none 0 0) 3 1, .row (.slice none 0 0) 3 1, .row (.slice none 0 0) 78 3, .box b29 cs169 38, .row v175 3 1, .row v173 3 1, .row v119 3 1, .row v55 78 3, .box b3 (Zr.zc GFrame) 38] w' ∧ T' 2 = .pointer (some ⟨b3, 0, none⟩) ∧ T' 5 = .pointer (some ⟨b29, 0, none⟩) ∧ T' 106 = .bool c259 ∧ decode_j8 d170 c259 = some r) ?_ ?_
 have hF279 := Mm.ext.refl w.heap.size noX M232
 refine W_reg <|WL_y (Y_move (.pointer (some ⟨b8, 0, none⟩)) hT233_4) <|WL_y (Y_nil rfl) <|WL_y (Y_fa fa110_1 rfl) <|WL_y (Y_ld1 (.bool d168.bad) ts4 rfl (hS.bvB 0 rfl) (GReader.p1 (rr hb167))) <|WL_y (Y_move (.bool d168.bad) rfl) ?_
 rcases ic hz with ⟨hc280, hz⟩ | ⟨hc280, hz⟩ <;> rw [hc280]
 refine WL_d 11 rfl ?_
 refine WL_nil (nm_then ?_)
 exact ⟨M232, true, hF279, hS, hT233_2, hT233_5, rfl, hz⟩
 refine WL_gy rfl rfl (Y_move (.pointer (some ⟨b8, 0, none⟩)) hT233_4) <|WL_gy rfl rfl (Y_nil rfl) <|WL_gy rfl rfl (Y_fa fa110_0 rfl) <|WL_gy rfl rfl (Y_ld1 (.string d168.s) ts9 rfl (hS.bvB 0 rfl) (GReader.p0 (rr hb167)).1) <|WL_gy rfl rfl (Y_neS rfl rfl) <|WL_d 2 rfl ?_
 rcases ic hz with ⟨hc281, hz⟩ | ⟨hc281, hz⟩ <;> rw [hc281]
 refine WL_d 4 rfl ?_
 refine WL_nil (nm_then ?_)
 exact ⟨M232, true, hF279, hS, hT233_2, hT233_5, rfl, hz⟩
 have ha282 := (rr hb169)
 have hp283 : sl (sl cs169 (0) 7) 3 1 = [v55] := (sl_sub (by decide)).trans hp171
 have hp284 : sl (sl cs169 (0) 7) 4 1 = [v119] := (sl_sub (by decide)).trans hp172
 have hp285 : sl (sl cs169 (0) 7) 5 1 = [v173] := (sl_sub (by decide)).trans hp174
 have hp286 : sl (sl cs169 (0) 7) 6 1 = [v175] := (sl_sub (by decide)).trans hp176
 refine WL_gy rfl rfl (Y_ldn ta38 hT233_5 (hS.bvB 5 rfl) (Rep.len ha282)) ?_
 obtain ⟨r289, hr288, hz⟩ := bind_ok hz
 replace hr288 := Option.some.inj hr288
 refine WL_g rfl rfl (O_val (vs := [.agg (sl cs169 (0) 7).toArray]) (v := .int .i64 r289) cb43 (args1 rfl) hS (hr288 ▸ (c_good hS.agree ha282)) ?_)
 intro w287 hS
 refine WL_gy rfl rfl (Y_neq rfl rfl) <|WL_y (Y_pick_f (.bool (r289 != 0)) rfl rfl) ?_
 refine WL_nil (nm_then ?_)
 exact ⟨M232, (r289 != 0), hF279, hS, hT233_2, hT233_5, rfl, hz⟩
 rintro T258 w256 ⟨M257, c259, hx260, hS, hT258_2, hT258_5, hT258_106, hz⟩
 replace zb3 := Rep.mono hx260.1 zb3
 replace hb167 := Rep.mono hx260.1 hb167
 replace hb169 := Rep.mono hx260.1 hb169
 replace hE := Mm.ext.trans hE hx260
 replace hF63 := Mm.ext.trans hF63 hx260
 replace hF101 := Mm.ext.trans hF101 hx260
 replace hF126 := Mm.ext.trans hF126 hx260
 replace hF154 := Mm.ext.trans hF154 hx260
 replace hF180 := Mm.ext.trans hF180 hx260
 replace hF230 := Mm.ext.trans hF230 hx260
 replace hF255 := Mm.ext.trans hF255 hx260
 rw [decode_j8] at hz
 refine W_cond hT258_106 (fun hc261 => ?_) (fun hc261 => ?_)
 replace hz := bif_ok_t hz hc261
 refine W_seq <|W_reg ?_
 obtain ⟨d263, hd262, hz⟩ := bind_ok hz
 obtain ⟨cs262, hf262, ha262⟩ : ∃ cs, fillZ (([(0, 1), (1, 1), (2, 1), (3, 1), (4, 1), (5, 1), (6, 1)] : List (Nat × Nat))[·]?) (Zr.zc GFrame) [] = some cs ∧ rep M257 cs d263 := ⟨_, fz_nil, rep_eq (x := ({ kind := Zr.zd, node := Zr.zd, id := Zr.zd, ops := Zr.zd, deps := Zr.zd, at_ := Zr.zd, vals := Zr.zd } : GFrame)) (Zr.zr : rep M257 (Zr.zc GFrame) (Zr.zd : GFrame)) hd262⟩
 have hp264 : sl cs262 3 1 = [.slice none 0 0] := (fillZ_apart hf262 (by rfl)).trans (by rfl)
 replace hS := hS.nilRow 78 3
 have hp266 : sl cs262 4 1 = [.slice none 0 0] := (fillZ_apart hf262 (by rfl)).trans (by rfl)
 replace hS := hS.nilRow 3 1
 have hp268 : sl cs262 5 1 = [.slice none 0 0] := (fillZ_apart hf262 (by rfl)).trans (by rfl)
 replace hS := hS.nilRow 3 1
 have hp270 : sl cs262 6 1 = [.slice none 0 0] := (fillZ_apart hf262 (by rfl)).trans (by rfl)
 replace hS := hS.nilRow 3 1
 refine WL_y (Y_build [] tb38 bp0 hf262) ?_
 obtain ⟨d274, hd273, hz⟩ := bind_ok hz
 refine WL_c (O_sx 14 7 hS rfl zb3 hT258_2 rfl ha262 rfl rfl (Lf (rr zb3) ha262) hd273 ?_)
 intro cs273 w272 hb273 ha273 hs273 hS
 have hp275 : sl cs273 (0 + 3) 1 = [(.slice none 0 0)] := sl_in hs273 hp264 (by decide)
 have hp276 : sl cs273 (0 + 4) 1 = [(.slice none 0 0)] := sl_in hs273 hp266 (by decide)
 have hp277 : sl cs273 (0 + 5) 1 = [(.slice none 0 0)] := sl_in hs273 hp268 (by decide)
 have hp278 : sl cs273 (0 + 6) 1 = [(.slice none 0 0)] := sl_in hs273 hp270 (by decide)
 refine WL_y (Y_assign (.int .i64 1) rfl) ?_
 refine WL_nil (nm_then ?_)
 cases hz
 exact W_ret (rt_then (R_ct (j := 14) rfl hT258_2 rfl (by rw [Rep.len hb273]; exact ta38) hS rfl (Gives.mk (St.dropB (St.drop (St.drop (St.drop (St.drop (St.dropB (St.drop (St.drop (St.drop (St.drop (St.dropB (St.drop (St.drop (St.drop (St.drop hS)))) hb8))))) hb29))))) hb3) hE ⟨_, rfl, hb273⟩)))
 replace hz := bif_ok_f hz hc261
 refine W_skip (nm_then ?_)
 exact ⟨M257, (Zr.zc GFrame), (Zr.zd : GFrame), hF255, hS, zb3, hT258_2, hT258_5, hz⟩
 rintro T239 w237 ⟨M238, cs240, d241, hx242, hS, hb240, hT239_2, hT239_5, hz⟩
 replace hb167 := Rep.mono hx242.1 hb167
 replace hb169 := Rep.mono hx242.1 hb169
 replace hE := Mm.ext.trans hE hx242
 replace hF63 := Mm.ext.trans hF63 hx242
 replace hF101 := Mm.ext.trans hF101 hx242
 replace hF126 := Mm.ext.trans hF126 hx242
 replace hF154 := Mm.ext.trans hF154 hx242
 replace hF180 := Mm.ext.trans hF180 hx242
 replace hF230 := Mm.ext.trans hF230 hx242
 rw [decode_j7] at hz
 refine W_seq <|W_reg ?_
 have ha243 := (rr hb169)
 have hp244 : sl (sl cs169 (0) 7) 3 1 = [v55] := (sl_sub (by decide)).trans hp171
 have hp245 : sl (sl cs169 (0) 7) 4 1 = [v119] := (sl_sub (by decide)).trans hp172
 have hp246 : sl (sl cs169 (0) 7) 5 1 = [v173] := (sl_sub (by decide)).trans hp174
 have hp247 : sl (sl cs169 (0) 7) 6 1 = [v175] := (sl_sub (by decide)).trans hp176
 refine WL_y (Y_ldn ta38 hT239_5 (hS.bvB 5 rfl) (Rep.len ha243)) ?_
 obtain ⟨d250, hd249, hz⟩ := bind_ok hz
 refine WL_c (O_sx 10 7 hS rfl hb240 hT239_2 rfl ha243 rfl rfl (Lf (rr hb240) ha243) hd249 ?_)
 intro cs249 w248 hb249 ha249 hs249 hS
 have hp251 : sl cs249 (0 + 3) 1 = [v55] := sl_in hs249 hp244 (by decide)
 have hp252 : sl cs249 (0 + 4) 1 = [v119] := sl_in hs249 hp245 (by decide)
 have hp253 : sl cs249 (0 + 5) 1 = [v173] := sl_in hs249 hp246 (by decide)
 have hp254 : sl cs249 (0 + 6) 1 = [v175] := sl_in hs249 hp247 (by decide)
 refine WL_y (Y_assign (.int .i64 0) rfl) ?_
 refine WL_nil (nm_then ?_)
 cases hz
 exact W_ret (R_ct (j := 10) rfl hT239_2 rfl (by rw [Rep.len hb249]; exact ta38) hS rfl (Gives.mk (St.dropB (St.drop (St.drop (St.drop (St.drop (St.dropB (St.drop (St.drop (St.drop (St.drop (St.dropB hS hb8))))) hb29))))) hb3) hE ⟨_, rfl, hb249⟩))
 rintro T184 w182 ⟨M183, hx185, hS, hT184_2, hT184_4, hT184_5, hT184_8, hz⟩
 replace zb3 := Rep.mono hx185.1 zb3
 replace hb167 := Rep.mono hx185.1 hb167
 replace hb169 := Rep.mono hx185.1 hb169
 replace hE := Mm.ext.trans hE hx185
 replace hF63 := Mm.ext.trans hF63 hx185
 replace hF101 := Mm.ext.trans hF101 hx185
 replace hF126 := Mm.ext.trans hF126 hx185
 replace hF154 := Mm.ext.trans hF154 hx185
 replace hF180 := Mm.ext.trans hF180 hx185
 rw [decode_j5] at hz
 refine W_seq <|W_block <|W_seq <|W_drawB (Rd M183 [.box b29 cs169 38]) (inL [7]) mixed hS fun w186 hS => ?_
 have hG187 := Mm.ext.refl w.heap.size noX M183
 have hR188 : Rd M183 [.box b29 cs169 38] w186 := Rd.of hS hG187 (by simp)
 refine WB_y (i := 0) rfl (by kernel_rfl) rfl (Y_fa fa38_5 hT184_5) (fun _ => hR188) ?_
 obtain ⟨v189, ev189, hv189⟩ := (GFrame.p5 (rr hb169))
 rw [sl_one_eq ev189 hp174] at hv189
 refine WB_ld (i := 1) rfl (by kernel_rfl) rfl (inL_lt rfl) (by kernel_rfl) (by kernel_rfl) (Y_ld1 v173 ts27 rfl (bvR 0 rfl) hp174) hR188 <|WB_y (i := 2) rfl (by kernel_rfl) rfl (Y_move (.pointer (some ⟨b8, 0, none⟩)) hT184_4) (fun _ => hR188) ?_
 obtain ⟨r192, hr191, hz⟩ := bind_ok hz
 refine WB_one (i := 3) (by kernel_rfl) rfl (O_lend (vs := [.pointer (some ⟨b8, 0, none⟩)]) (L := [.box b8 cs167 110]) (R := [.row (.slice none 0 0) 3 1, .row (.slice none 0 0) 3 1, .row (.slice none 0 0) 3 1, .row (.slice none 0 0) 78 3, .box b29 cs169 38, .row v175 3 1, .row v173 3 1, .row v119 3 1, .row v55 78 3, .box b3 (Zr.zc GFrame) 38]) (rv := (fun M' u L' => ∃ k0, u = .int .i64 r192.1 ∧ L' = [.box b8 k0 110] ∧ rep M' k0 r192.2)) cb81 (args1 rfl) hS (hS.sel [0, 1, 2, 3, 4, 5, 6, 7, 8, 9, 10] (by decide) rfl) (fun hS => rByte_ok hS hb167 hr191) ?_)
 rintro u191 M191 w190 L191 hx191 ⟨k0_191, rfl, hL191, f191_0⟩ hS
 replace hS := hS _ hL191
 replace zb3 := Rep.mono hx191.1 zb3
 replace hb167 := Rep.mono hx191.1 hb167
 replace hb169 := Rep.mono hx191.1 hb169
 replace hv189 := repL.mono hx191.1 hv189
 replace hE := Mm.ext.trans hE hx191
 replace hF63 := Mm.ext.trans hF63 hx191
 replace hF101 := Mm.ext.trans hF101 hx191
 replace hF126 := Mm.ext.trans hF126 hx191
 replace hF154 := Mm.ext.trans hF154 hx191
 replace hF180 := Mm.ext.trans hF180 hx191
 replace hG187 := Mm.ext.trans hG187 hx191
 have hR193 : Rd M183 [.box b29 cs169 38] w190 := Rd.of hS hG187 (by simp)
 refine ⟨fun _ => hR193, ?_⟩
 refine WB_one (i := 4) (by kernel_rfl) rfl (O_bslice (α := Int) (l := ([r192.1] : List Int)) [.int .i64 r192.1] tl27 (bpc rfl bp0) rfl rfl (by decide) (by decide) (by decide) hS (brc (ri r192.1 : rep M191 _ _) br0) ?_)
 intro v195 M195 w194 hx195 hv195 hS
 replace zb3 := Rep.mono hx195.1 zb3
 replace hb169 := Rep.mono hx195.1 hb169
 replace hv189 := repL.mono hx195.1 hv189
 replace f191_0 := Rep.mono hx195.1 f191_0
 replace hE := Mm.ext.trans hE hx195
 replace hF63 := Mm.ext.trans hF63 hx195
 replace hF101 := Mm.ext.trans hF101 hx195
 replace hF126 := Mm.ext.trans hF126 hx195
 replace hF154 := Mm.ext.trans hF154 hx195
 replace hF180 := Mm.ext.trans hF180 hx195
 replace hG187 := Mm.ext.trans hG187 hx195
 have hR196 : Rd M183 [.box b29 cs169 38] w194 := Rd.of hS hG187 (by simp)
 refine ⟨fun _ => hR196, ?_⟩
 obtain ⟨l199, hr198, hz⟩ := bind_ok hz
 obtain ⟨hy198, hs198⟩ := app_some hr198
 refine WB_one (i := 5) (by kernel_rfl) rfl (O_app (α := Int) (j := 7) tp27 hS rfl rfl rfl hv189 hv195 hy198 ?_)
 intro v198 M198 w197 hx198 hv198 hS
 rw [← hs198] at hv198
 clear hr198 hs198
 replace zb3 := Rep.mono hx198.1 zb3
 replace hb169 := Rep.mono hx198.1 hb169
 replace hv189 := repL.mono hx198.1 hv189
 replace f191_0 := Rep.mono hx198.1 f191_0
 replace hv195 := repL.mono hx198.1 hv195
 replace hE := Mm.ext.trans hE hx198
 replace hF63 := Mm.ext.trans hF63 hx198
 replace hF101 := Mm.ext.trans hF101 hx198
 replace hF126 := Mm.ext.trans hF126 hx198
 replace hF154 := Mm.ext.trans hF154 hx198
 replace hF180 := Mm.ext.trans hF180 hx198
 replace hG187 := Mm.ext.trans hG187 hx198
 have hR200 : Rd M183 [.box b29 cs169 38] w197 := Rd.of hS hG187 (by simp)
 refine ⟨fun _ => hR200, ?_⟩
 refine WB_y (i := 6) rfl (by kernel_rfl) rfl (Y_fa fa38_5 hT184_5) (fun _ => hR200) ?_
 obtain ⟨d203, hd202, hz⟩ := bind_ok hz
 refine WB_one (i := 7) (by kernel_rfl) rfl (O_sx 5 1 hS rfl hb169 rfl rfl (repL_rep hv198) (repL_cells hv198) rfl (GFrame.u5 (rr hb169) (Lf (GFrame.p5 (rr hb169)) (repL_rep hv198))) hd202 ?_)
 intro cs202 w201 hb202 ha202 hs202 hS
 have hp204 := (ha202 (by omega)).trans hp171
 have hp205 := (ha202 (by omega)).trans hp172
 have hp206 := (ha202 (by omega)).trans hp176
 have hp207 := hs202
 refine ⟨fun h => Bool.noConfusion (show false = true from h), ?_⟩
 refine WB_done (by kernel_rfl) (nm_then ?_)
 refine W_drawB (Rd M198 [.box b29 cs202 38]) (inL [7]) mixed hS fun w208 hS => ?_
 have hG209 := Mm.ext.refl w.heap.size noX M198
 have hR210 : Rd M198 [.box b29 cs202 38] w208 := Rd.of hS hG209 (by simp)
 refine WB_y (i := 0) rfl (by kernel_rfl) rfl (Y_fa fa38_6 hT184_5) (fun _ => hR210) ?_
 obtain ⟨v211, ev211, hv211⟩ := (GFrame.p6 (rr hb202))
 rw [sl_one_eq ev211 hp206] at hv211
 refine WB_ld (i := 1) rfl (by kernel_rfl) rfl (inL_lt rfl) (by kernel_rfl) (by kernel_rfl) (Y_ld1 v175 ts27 rfl (bvR 0 rfl) hp206) hR210 <|WB_y (i := 2) rfl (by kernel_rfl) rfl (Y_move (.pointer (some ⟨b8, 0, none⟩)) hT184_4) (fun _ => hR210) ?_
 obtain ⟨r214, hr213, hz⟩ := bind_ok hz
 refine WB_one (i := 3) (by kernel_rfl) rfl (O_lend (vs := [.pointer (some ⟨b8, 0, none⟩)]) (L := [.box b8 k0_191 110]) (R := [.row (.slice none 0 0) 3 1, .row (.slice none 0 0) 3 1, .row (.slice none 0 0) 3 1, .row (.slice none 0 0) 78 3, .box b29 cs202 38, .row v175 3 1, .row v198 3 1, .row v119 3 1, .row v55 78 3, .box b3 (Zr.zc GFrame) 38]) (rv := (fun M' u L' => ∃ k0, u = .int .i64 r214.1 ∧ L' = [.box b8 k0 110] ∧ rep M' k0 r214.2)) cb82 (args1 rfl) hS (hS.sel [0, 1, 2, 3, 4, 5, 6, 7, 8, 9, 10] (by decide) rfl) (fun hS => rNumber_ok hS f191_0 hr213) ?_)
 rintro u213 M213 w212 L213 hx213 ⟨k0_213, rfl, hL213, f213_0⟩ hS
 replace hS := hS _ hL213
 replace zb3 := Rep.mono hx213.1 zb3
 replace f191_0 := Rep.mono hx213.1 f191_0
 replace hb202 := Rep.mono hx213.1 hb202
 replace hv211 := repL.mono hx213.1 hv211
 replace hE := Mm.ext.trans hE hx213
 replace hF63 := Mm.ext.trans hF63 hx213
 replace hF101 := Mm.ext.trans hF101 hx213
 replace hF126 := Mm.ext.trans hF126 hx213
 replace hF154 := Mm.ext.trans hF154 hx213
 replace hF180 := Mm.ext.trans hF180 hx213
 replace hG209 := Mm.ext.trans hG209 hx213
 have hR215 : Rd M198 [.box b29 cs202 38] w212 := Rd.of hS hG209 (by simp)
 refine ⟨fun _ => hR215, ?_⟩
 refine WB_one (i := 4) (by kernel_rfl) rfl (O_bslice (α := Int) (l := ([r214.1] : List Int)) [.int .i64 r214.1] tl27 (bpc rfl bp0) rfl rfl (by decide) (by decide) (by decide) hS (brc (ri r214.1 : rep M213 _ _) br0) ?_)
 intro v217 M217 w216 hx217 hv217 hS
 replace zb3 := Rep.mono hx217.1 zb3
 replace hb202 := Rep.mono hx217.1 hb202
 replace hv211 := repL.mono hx217.1 hv211
 replace f213_0 := Rep.mono hx217.1 f213_0
 replace hE := Mm.ext.trans hE hx217
 replace hF63 := Mm.ext.trans hF63 hx217
 replace hF101 := Mm.ext.trans hF101 hx217
 replace hF126 := Mm.ext.trans hF126 hx217
 replace hF154 := Mm.ext.trans hF154 hx217
 replace hF180 := Mm.ext.trans hF180 hx217
 replace hG209 := Mm.ext.trans hG209 hx217
 have hR218 : Rd M198 [.box b29 cs202 38] w216 := Rd.of hS hG209 (by simp)
 refine ⟨fun _ => hR218, ?_⟩
 obtain ⟨l221, hr220, hz⟩ := bind_ok hz
 obtain ⟨hy220, hs220⟩ := app_some hr220
 refine WB_one (i := 5) (by kernel_rfl) rfl (O_app (α := Int) (j := 6) tp27 hS rfl rfl rfl hv211 hv217 hy220 ?_)
 intro v220 M220 w219 hx220 hv220 hS
 rw [← hs220] at hv220
 clear hr220 hs220
 replace zb3 := Rep.mono hx220.1 zb3
 replace hb202 := Rep.mono hx220.1 hb202
 replace hv211 := repL.mono hx220.1 hv211
 replace f213_0 := Rep.mono hx220.1 f213_0
 replace hv217 := repL.mono hx220.1 hv217
 replace hE := Mm.ext.trans hE hx220
 replace hF63 := Mm.ext.trans hF63 hx220
 replace hF101 := Mm.ext.trans hF101 hx220
 replace hF126 := Mm.ext.trans hF126 hx220
 replace hF154 := Mm.ext.trans hF154 hx220
 replace hF180 := Mm.ext.trans hF180 hx220
 replace hG209 := Mm.ext.trans hG209 hx220
 have hR222 : Rd M198 [.box b29 cs202 38] w219 := Rd.of hS hG209 (by simp)
 refine ⟨fun _ => hR222, ?_⟩
 refine WB_y (i := 6) rfl (by kernel_rfl) rfl (Y_fa fa38_6 hT184_5) (fun _ => hR222) ?_
 obtain ⟨d225, hd224, hz⟩ := bind_ok hz
 refine WB_one (i := 7) (by kernel_rfl) rfl (O_sx 5 1 hS rfl hb202 rfl rfl (repL_rep hv220) (repL_cells hv220) rfl (GFrame.u6 (rr hb202) (Lf (GFrame.p6 (rr hb202)) (repL_rep hv220))) hd224 ?_)
 intro cs224 w223 hb224 ha224 hs224 hS
 have hp226 := (ha224 (by omega)).trans hp204
 have hp227 := (ha224 (by omega)).trans hp205
 have hp228 := (ha224 (by omega)).trans hp207
 have hp229 := hs224
 refine ⟨fun h => Bool.noConfusion (show false = true from h), ?_⟩
 refine WB_done (by kernel_rfl) (nm_blk ?_)
 refine (nm_then ?_)
 refine W_reg <|WL_y (Y_move (.int .i64 y177) hT184_8) <|WL_y (Y_sub rfl rfl) <|WL_y (Y_assign (.int .i64 (IntKind.wrap .i64 (y177 - 1))) rfl) ?_
 refine WL_nil (nm_then ?_)
 exact ⟨M220, k0_213, r214.2, cs224, d225, v198, v220, (IntKind.wrap .i64 (y177 - 1)), hF180, hS, f213_0, hb224, hp226, hp227, hp228, hp229, hT184_2, hT184_4, hT184_5, rfl, (by rw [← hrec178]; exact hz)⟩
 rintro T130 w128 ⟨M129, hx131, hS, hT130_2, hT130_4, hT130_5, hT130_7, hz⟩
 replace zb3 := Rep.mono hx131.1 zb3
 replace hb114 := Rep.mono hx131.1 hb114
 replace hb116 := Rep.mono hx131.1 hb116
 replace hE := Mm.ext.trans hE hx131
 replace hF63 := Mm.ext.trans hF63 hx131
 replace hF101 := Mm.ext.trans hF101 hx131
 replace hF126 := Mm.ext.trans hF126 hx131
 rw [decode_j3] at hz
 refine W_seq <|W_block <|W_drawB (Rd M129 [.box b29 cs116 38]) (inL [7]) mixed hS fun w132 hS => ?_
 have hG133 := Mm.ext.refl w.heap.size noX M129
 have hR134 : Rd M129 [.box b29 cs116 38] w132 := Rd.of hS hG133 (by simp)
 refine WB_y (i := 0) rfl (by kernel_rfl) rfl (Y_fa fa38_4 hT130_5) (fun _ => hR134) ?_
 obtain ⟨v135, ev135, hv135⟩ := (GFrame.p4 (rr hb116))
 rw [sl_one_eq ev135 hp120] at hv135
 refine WB_ld (i := 1) rfl (by kernel_rfl) rfl (inL_lt rfl) (by kernel_rfl) (by kernel_rfl) (Y_ld1 v119 ts27 rfl (bvR 0 rfl) hp120) hR134 <|WB_y (i := 2) rfl (by kernel_rfl) rfl (Y_move (.pointer (some ⟨b8, 0, none⟩)) hT130_4) (fun _ => hR134) ?_
 obtain ⟨r138, hr137, hz⟩ := bind_ok hz
 refine WB_one (i := 3) (by kernel_rfl) rfl (O_lend (vs := [.pointer (some ⟨b8, 0, none⟩)]) (L := [.box b8 cs114 110]) (R := [.row (.slice none 0 0) 3 1, .row (.slice none 0 0) 3 1, .row (.slice none 0 0) 3 1, .row (.slice none 0 0) 78 3, .box b29 cs116 38, .row (.slice none 0 0) 3 1, .row (.slice none 0 0) 3 1, .row v119 3 1, .row v55 78 3, .box b3 (Zr.zc GFrame) 38]) (rv := (fun M' u L' => ∃ k0, u = .int .i64 r138.1 ∧ L' = [.box b8 k0 110] ∧ rep M' k0 r138.2)) cb81 (args1 rfl) hS (hS.sel [0, 1, 2, 3, 4, 5, 6, 7, 8, 9, 10] (by decide) rfl) (fun hS => rByte_ok hS hb114 hr137) ?_)
 rintro u137 M137 w136 L137 hx137 ⟨k0_137, rfl, hL137, f137_0⟩ hS
 replace hS := hS _ hL137
 replace zb3 := Rep.mono hx137.1 zb3
 replace hb114 := Rep.mono hx137.1 hb114
 replace hb116 := Rep.mono hx137.1 hb116
 replace hv135 := repL.mono hx137.1 hv135
 replace hE := Mm.ext.trans hE hx137
 replace hF63 := Mm.ext.trans hF63 hx137
 replace hF101 := Mm.ext.trans hF101 hx137
 replace hF126 := Mm.ext.trans hF126 hx137
 replace hG133 := Mm.ext.trans hG133 hx137
 have hR139 : Rd M129 [.box b29 cs116 38] w136 := Rd.of hS hG133 (by simp)
 refine ⟨fun _ => hR139, ?_⟩
 refine WB_one (i := 4) (by kernel_rfl) rfl (O_bslice (α := Int) (l := ([r138.1] : List Int)) [.int .i64 r138.1] tl27 (bpc rfl bp0) rfl rfl (by decide) (by decide) (by decide) hS (brc (ri r138.1 : rep M137 _ _) br0) ?_)
 intro v141 M141 w140 hx141 hv141 hS
 replace zb3 := Rep.mono hx141.1 zb3
 replace hb116 := Rep.mono hx141.1 hb116
 replace hv135 := repL.mono hx141.1 hv135
 replace f137_0 := Rep.mono hx141.1 f137_0
 replace hE := Mm.ext.trans hE hx141
 replace hF63 := Mm.ext.trans hF63 hx141
 replace hF101 := Mm.ext.trans hF101 hx141
 replace hF126 := Mm.ext.trans hF126 hx141
 replace hG133 := Mm.ext.trans hG133 hx141
 have hR142 : Rd M129 [.box b29 cs116 38] w140 := Rd.of hS hG133 (by simp)
 refine ⟨fun _ => hR142, ?_⟩
 obtain ⟨l145, hr144, hz⟩ := bind_ok hz
 obtain ⟨hy144, hs144⟩ := app_some hr144
 refine WB_one (i := 5) (by kernel_rfl) rfl (O_app (α := Int) (j := 8) tp27 hS rfl rfl rfl hv135 hv141 hy144 ?_)
 intro v144 M144 w143 hx144 hv144 hS
 rw [← hs144] at hv144
 clear hr144 hs144
 replace zb3 := Rep.mono hx144.1 zb3
 replace hb116 := Rep.mono hx144.1 hb116
 replace hv135 := repL.mono hx144.1 hv135
 replace f137_0 := Rep.mono hx144.1 f137_0
 replace hv141 := repL.mono hx144.1 hv141
 replace hE := Mm.ext.trans hE hx144
 replace hF63 := Mm.ext.trans hF63 hx144
 replace hF101 := Mm.ext.trans hF101 hx144
 replace hF126 := Mm.ext.trans hF126 hx144
 replace hG133 := Mm.ext.trans hG133 hx144
 have hR146 : Rd M129 [.box b29 cs116 38] w143 := Rd.of hS hG133 (by simp)
 refine ⟨fun _ => hR146, ?_⟩
 refine WB_y (i := 6) rfl (by kernel_rfl) rfl (Y_fa fa38_4 hT130_5) (fun _ => hR146) ?_
 obtain ⟨d149, hd148, hz⟩ := bind_ok hz
 refine WB_one (i := 7) (by kernel_rfl) rfl (O_sx 5 1 hS rfl hb116 rfl rfl (repL_rep hv144) (repL_cells hv144) rfl (GFrame.u4 (rr hb116) (Lf (GFrame.p4 (rr hb116)) (repL_rep hv144))) hd148 ?_)
 intro cs148 w147 hb148 ha148 hs148 hS
 have hp150 := (ha148 (by omega)).trans hp118
 have hp151 := (ha148 (by omega)).trans hp121
 have hp152 := (ha148 (by omega)).trans hp122
 have hp153 := hs148
 refine ⟨fun h => Bool.noConfusion (show false = true from h), ?_⟩
 refine WB_done (by kernel_rfl) (nm_blk ?_)
 refine (nm_then ?_)
 refine W_reg <|WL_y (Y_move (.int .i64 y123) hT130_7) <|WL_y (Y_sub rfl rfl) <|WL_y (Y_assign (.int .i64 (IntKind.wrap .i64 (y123 - 1))) rfl) ?_
 refine WL_nil (nm_then ?_)
 exact ⟨M144, k0_137, r138.2, cs148, d149, v144, (IntKind.wrap .i64 (y123 - 1)), hF126, hS, f137_0, hb148, hp150, hp153, hp151, hp152, hT130_2, hT130_4, hT130_5, rfl, (by rw [← hrec124]; exact hz)⟩
 rintro T67 w65 ⟨M66, hx68, hS, hT67_2, hT67_4, hT67_5, hT67_6, hz⟩
 replace zb3 := Rep.mono hx68.1 zb3
 replace hb51 := Rep.mono hx68.1 hb51
 replace hb53 := Rep.mono hx68.1 hb53
 replace hE := Mm.ext.trans hE hx68
 replace hF63 := Mm.ext.trans hF63 hx68
 rw [decode_j1] at hz
 refine W_seq <|W_block <|W_drawB (Rd M66 [.box b29 cs53 38]) (inL [12]) mixed hS fun w69 hS => ?_
 have hG70 := Mm.ext.refl w.heap.size noX M66
 have hR71 : Rd M66 [.box b29 cs53 38] w69 := Rd.of hS hG70 (by simp)
 refine WB_y (i := 0) rfl (by kernel_rfl) rfl (Y_fa fa38_3 hT67_5) (fun _ => hR71) ?_
 obtain ⟨v72, ev72, hv72⟩ := (GFrame.p3 (rr hb53))
 rw [sl_one_eq ev72 hp56] at hv72
 refine WB_ld (i := 1) rfl (by kernel_rfl) rfl (inL_lt rfl) (by kernel_rfl) (by kernel_rfl) (Y_ld1 v55 ts22 rfl (bvR 0 rfl) hp56) hR71 <|WB_y (i := 2) rfl (by kernel_rfl) rfl (Y_move (.pointer (some ⟨b8, 0, none⟩)) hT67_4) (fun _ => hR71) <|WB_y (i := 4) rfl (by kernel_rfl) rfl (Y_move (.pointer (some ⟨b8, 0, none⟩)) hT67_4) (fun _ => hR71) <|WB_y (i := 6) rfl (by kernel_rfl) rfl (Y_move (.pointer (some ⟨b8, 0, none⟩)) hT67_4) (fun _ => hR71) ?_
 obtain ⟨r75, hr74, hz⟩ := bind_ok hz
 refine WB_one (i := 3) (by kernel_rfl) rfl (O_lend (vs := [.pointer (some ⟨b8, 0, none⟩)]) (L := [.box b8 cs51 110]) (R := [.row (.slice none 0 0) 3 1, .row (.slice none 0 0) 3 1, .row (.slice none 0 0) 3 1, .row (.slice none 0 0) 78 3, .box b29 cs53 38, .row (.slice none 0 0) 3 1, .row (.slice none 0 0) 3 1, .row (.slice none 0 0) 3 1, .row v55 78 3, .box b3 (Zr.zc GFrame) 38]) (rv := (fun M' u L' => ∃ k0, u = .int .i64 r75.1 ∧ L' = [.box b8 k0 110] ∧ rep M' k0 r75.2)) cb81 (args1 rfl) hS (hS.sel [0, 1, 2, 3, 4, 5, 6, 7, 8, 9, 10] (by decide) rfl) (fun hS => rByte_ok hS hb51 hr74) ?_)
 rintro u74 M74 w73 L74 hx74 ⟨k0_74, rfl, hL74, f74_0⟩ hS
 replace hS := hS _ hL74
 replace zb3 := Rep.mono hx74.1 zb3
 replace hb51 := Rep.mono hx74.1 hb51
 replace hb53 := Rep.mono hx74.1 hb53
 replace hv72 := repL.mono hx74.1 hv72
 replace hE := Mm.ext.trans hE hx74
 replace hF63 := Mm.ext.trans hF63 hx74
 replace hG70 := Mm.ext.trans hG70 hx74
 have hR76 : Rd M66 [.box b29 cs53 38] w73 := Rd.of hS hG70 (by simp)
 refine ⟨fun _ => hR76, ?_⟩
 obtain ⟨r79, hr78, hz⟩ := bind_ok hz
 refine WB_one (i := 5) (by kernel_rfl) rfl (O_lend (vs := [.pointer (some ⟨b8, 0, none⟩)]) (L := [.box b8 k0_74 110]) (R := [.row (.slice none 0 0) 3 1, .row (.slice none 0 0) 3 1, .row (.slice none 0 0) 3 1, .row (.slice none 0 0) 78 3, .box b29 cs53 38, .row (.slice none 0 0) 3 1, .row (.slice none 0 0) 3 1, .row (.slice none 0 0) 3 1, .row v55 78 3, .box b3 (Zr.zc GFrame) 38]) (rv := (fun M' u L' => ∃ k0, u = .int .i64 r79.1 ∧ L' = [.box b8 k0 110] ∧ rep M' k0 r79.2)) cb81 (args1 rfl) hS (hS.sel [0, 1, 2, 3, 4, 5, 6, 7, 8, 9, 10] (by decide) rfl) (fun hS => rByte_ok hS f74_0 hr78) ?_)
 rintro u78 M78 w77 L78 hx78 ⟨k0_78, rfl, hL78, f78_0⟩ hS
 replace hS := hS _ hL78
 replace zb3 := Rep.mono hx78.1 zb3
 replace hb53 := Rep.mono hx78.1 hb53
 replace hv72 := repL.mono hx78.1 hv72
 replace f74_0 := Rep.mono hx78.1 f74_0
 replace hE := Mm.ext.trans hE hx78
 replace hF63 := Mm.ext.trans hF63 hx78
 replace hG70 := Mm.ext.trans hG70 hx78
 have hR80 : Rd M66 [.box b29 cs53 38] w77 := Rd.of hS hG70 (by simp)
 refine ⟨fun _ => hR80, ?_⟩
 obtain ⟨r83, hr82, hz⟩ := bind_ok hz
 refine WB_one (i := 7) (by kernel_rfl) rfl (O_lend (vs := [.pointer (some ⟨b8, 0, none⟩)]) (L := [.box b8 k0_78 110]) (R := [.row (.slice none 0 0) 3 1, .row (.slice none 0 0) 3 1, .row (.slice none 0 0) 3 1, .row (.slice none 0 0) 78 3, .box b29 cs53 38, .row (.slice none 0 0) 3 1, .row (.slice none 0 0) 3 1, .row (.slice none 0 0) 3 1, .row v55 78 3, .box b3 (Zr.zc GFrame) 38]) (rv := (fun M' u L' => ∃ k0, u = .int .i64 r83.1 ∧ L' = [.box b8 k0 110] ∧ rep M' k0 r83.2)) cb82 (args1 rfl) hS (hS.sel [0, 1, 2, 3, 4, 5, 6, 7, 8, 9, 10] (by decide) rfl) (fun hS => rNumber_ok hS f78_0 hr82) ?_)
 rintro u82 M82 w81 L82 hx82 ⟨k0_82, rfl, hL82, f82_0⟩ hS
 replace hS := hS _ hL82
 replace zb3 := Rep.mono hx82.1 zb3
 replace hb53 := Rep.mono hx82.1 hb53
 replace hv72 := repL.mono hx82.1 hv72
 replace f78_0 := Rep.mono hx82.1 f78_0
 replace hE := Mm.ext.trans hE hx82
 replace hF63 := Mm.ext.trans hF63 hx82
 replace hG70 := Mm.ext.trans hG70 hx82
 have hR84 : Rd M66 [.box b29 cs53 38] w81 := Rd.of hS hG70 (by simp)
 refine ⟨fun _ => hR84, ?_⟩
 have k85_0 := GOp.w0 (Zr.zr : rep M82 (Zr.zc GOp) (Zr.zd : GOp)) (ri r75.1 : rep M82 _ _)
 have k85_1 := GOp.w1 k85_0 (ri r79.1 : rep M82 _ _)
 have k85_2 := GOp.w2 k85_1 (ri r83.1 : rep M82 _ _)
 obtain ⟨d86, hd85, hz⟩ := bind_ok hz
 obtain ⟨cs85, hf85, ha85⟩ : ∃ cs, fillZ (([(0, 1), (1, 1), (2, 1)] : List (Nat × Nat))[·]?) (Zr.zc GOp) [(0, .int .i64 r75.1), (1, .int .i64 r79.1), (2, .int .i64 r83.1)] = some cs ∧ rep M82 cs d86 := ⟨_, (fz_cons (Zr.zr : rep M82 (Zr.zc GOp) (Zr.zd : GOp)) rfl rfl (Rep.len (ri r75.1 : rep M82 _ _)) (by decide) (fz_cons k85_0 rfl rfl (Rep.len (ri r79.1 : rep M82 _ _)) (by decide) (fz_cons k85_1 rfl rfl (Rep.len (ri r83.1 : rep M82 _ _)) (by decide) fz_nil))), rep_eq (x := ({ kind := r75.1, key := r79.1, n := r83.1 } : GOp)) k85_2 hd85⟩
 refine WB_y (i := 8) rfl (by kernel_rfl) rfl (Y_build [(0, .int .i64 r75.1), (1, .int .i64 r79.1), (2, .int .i64 r83.1)] tb78 (bpc rfl (bpc rfl (bpc rfl bp0))) hf85) (fun _ => hR84) ?_
 refine WB_one (i := 9) (by kernel_rfl) rfl (O_bslice (α := GOp) (l := ([d86] : List GOp)) [.agg cs85.toArray] tl22 (bpc rfl bp0) rfl rfl (by decide) (by decide) (by decide) hS (brc ha85 br0) ?_)
 intro v88 M88 w87 hx88 hv88 hS
 replace zb3 := Rep.mono hx88.1 zb3
 replace hb53 := Rep.mono hx88.1 hb53
 replace hv72 := repL.mono hx88.1 hv72
 replace f82_0 := Rep.mono hx88.1 f82_0
 replace ha85 := Rep.mono hx88.1 ha85
 replace hE := Mm.ext.trans hE hx88
 replace hF63 := Mm.ext.trans hF63 hx88
 replace hG70 := Mm.ext.trans hG70 hx88
 have hR89 : Rd M66 [.box b29 cs53 38] w87 := Rd.of hS hG70 (by simp)
 refine ⟨fun _ => hR89, ?_⟩
 obtain ⟨l92, hr91, hz⟩ := bind_ok hz
 obtain ⟨hy91, hs91⟩ := app_some hr91
 refine WB_one (i := 10) (by kernel_rfl) rfl (O_app (α := GOp) (j := 9) tp22 hS rfl rfl rfl hv72 hv88 hy91 ?_)
 intro v91 M91 w90 hx91 hv91 hS
 rw [← hs91] at hv91
 clear hr91 hs91
 replace zb3 := Rep.mono hx91.1 zb3
 replace hb53 := Rep.mono hx91.1 hb53
 replace hv72 := repL.mono hx91.1 hv72
 replace f82_0 := Rep.mono hx91.1 f82_0
 replace ha85 := Rep.mono hx91.1 ha85
 replace hv88 := repL.mono hx91.1 hv88
 replace hE := Mm.ext.trans hE hx91
 replace hF63 := Mm.ext.trans hF63 hx91
 replace hG70 := Mm.ext.trans hG70 hx91
 have hR93 : Rd M66 [.box b29 cs53 38] w90 := Rd.of hS hG70 (by simp)
 refine ⟨fun _ => hR93, ?_⟩
 refine WB_y (i := 11) rfl (by kernel_rfl) rfl (Y_fa fa38_3 hT67_5) (fun _ => hR93) ?_
 obtain ⟨d96, hd95, hz⟩ := bind_ok hz
 refine WB_one (i := 12) (by kernel_rfl) rfl (O_sx 5 1 hS rfl hb53 rfl rfl (repL_rep hv91) (repL_cells hv91) rfl (GFrame.u3 (rr hb53) (Lf (GFrame.p3 (rr hb53)) (repL_rep hv91))) hd95 ?_)
 intro cs95 w94 hb95 ha95 hs95 hS
 have hp97 := (ha95 (by omega)).trans hp57
 have hp98 := (ha95 (by omega)).trans hp58
 have hp99 := (ha95 (by omega)).trans hp59
 have hp100 := hs95
 refine ⟨fun h => Bool.noConfusion (show false = true from h), ?_⟩
 refine WB_done (by kernel_rfl) (nm_blk ?_)
 refine (nm_then ?_)
 refine W_reg <|WL_y (Y_move (.int .i64 y60) hT67_6) <|WL_y (Y_sub rfl rfl) <|WL_y (Y_assign (.int .i64 (IntKind.wrap .i64 (y60 - 1))) rfl) ?_
 refine WL_nil (nm_then ?_)
 exact ⟨M91, k0_82, r83.2, cs95, d96, v91, (IntKind.wrap .i64 (y60 - 1)), hF63, hS, f82_0, hb95, hp100, hp97, hp98, hp99, hT67_2, hT67_4, hT67_5, rfl, (by rw [← hrec61]; exact hz)⟩
end Go.Proofs.Ytopgdemmdcipcaa
namespace Go.Proofs.Ytopgdemmdcipcaa
open Go.RowKit
open Rep (rep)
def byL (s : ByteArray) : List Int := s.data.toList.map fun b => (b.toNat : Int)
theorem byL_len (s : ByteArray) : (byL s).length = s.size := by
  unfold byL
  rw [List.length_map]
  rfl
theorem byL_range {s : ByteArray} {c : Int} (h : c ∈ byL s) : 0 ≤ c ∧ c < 256 := by
  unfold byL at h
  obtain ⟨b, _, rfl⟩ := List.mem_map.1 h
  have := b.toNat_lt
  omega
theorem byL_idx (s : ByteArray) (k : Nat) : idxS s (k : Int) = (byL s)[k]? := by
  unfold idxS byL
  rw [if_pos (Int.natCast_nonneg k), List.getElem?_map]
  have e : ((k : Int)).toNat = k := rfl
  rw [e]
  by_cases hk : k < s.size
  · have h2 : k < s.data.toList.length := hk
    rw [List.getElem?_eq_getElem h2]
    have : s[k]? = some s[k] := getElem?_pos s k hk
    rw [this]
    rfl
  · have h2 : s.data.toList.length ≤ k := by have : s.data.toList.length = s.size := rfl; omega
    rw [List.getElem?_eq_none h2]
    have : s[k]? = none := getElem?_neg s k hk
    rw [this]
theorem byL_cut {s : ByteArray} {k : Nat} (hk : k ≤ s.size) : ∃ s', cutB s (some (k : Int)) none = some s' ∧ byL s' = (byL s).drop k := by
  unfold cutB cutOk
  simp only [Option.getD_some, Option.getD_none]
  rw [if_pos (by omega)]
  refine ⟨_, rfl, ?_⟩
  unfold byL
  rw [Go.Lib.extract_data, ← List.map_drop]
  congr 1
  have e : ((s.size : Int)).toNat = s.size := rfl
  have e2 : ((k : Int)).toNat = k := rfl
  simp only [e, e2]
  refine List.take_of_length_le ?_
  have : s.data.toList.length = s.size := rfl
  rw [List.length_drop]
  omega
theorem byL_empty {s : ByteArray} : (s.toList == (⟨#[]⟩ : ByteArray).toList) = (byL s).isEmpty := by
  rw [ByteArray.toList_eq, ByteArray.toList_eq, Bool.eq_iff_iff]
  unfold byL
  simp
def sixV (a b c d e f : Int) : Int := ((((a * 256 + b) * 256 + c) * 256 + d) * 256 + e) * 256 + f - 140737488355328
def pOps : Nat → List Int → Option (List GOp × List Int)
  | 0, l => some ([], l)
  | n + 1, k :: y :: a :: b :: c :: d :: e :: f :: t => (pOps n t).map fun p => (⟨k, y, sixV a b c d e f⟩ :: p.1, p.2)
  | _ + 1, _ => none
def pDeps (n : Nat) (l : List Int) : Option (List Int × List Int) := if n ≤ l.length then some (l.take n, l.drop n) else none
def pAts : Nat → List Int → Option (List Int × List Int × List Int)
  | 0, l => some ([], [], l)
  | n + 1, k :: a :: b :: c :: d :: e :: f :: t => (pAts n t).map fun p => (k :: p.1, sixV a b c d e f :: p.2.1, p.2.2)
  | _ + 1, _ => none
def pTail (kd nd id : Int) (os : List GOp) (ds : List Int) : List Int → Option (GFrame × List Int)
  | k :: u => (pAts k.toNat u).map fun z => (⟨kd, nd, id, os, ds, z.1, z.2.1⟩, z.2.2)
  | [] => none
def pRest (kd nd id : Int) (os : List GOp) : List Int → Option (GFrame × List Int)
  | m :: r => (pDeps m.toNat r).bind fun q => pTail kd nd id os q.1 q.2
  | [] => none
def parseR : List Int → Option (GFrame × List Int)
  | kd :: nd :: id :: no :: t => (pOps no.toNat t).bind fun p => pRest kd nd id p.1 p.2
  | _ => none
def noF : GFrame := ⟨0, 0, 0, [], [], [], []⟩
def finZ : Option (GFrame × List Int) → GFrame × Int
  | some (f, []) => bif frameZ f == 0 then (f, 0) else (noF, 1)
  | _ => (noF, 1)
def decZ (l : List Int) : GFrame × Int := finZ (parseR l)
structure Rd8 (x : GReader) (l : List Int) : Prop where
  s : byL x.s = l
  ok : x.bad = false
  small : x.s.size ≤ 140737488351232
def Bad8 (x : GReader) : Prop := x.bad = true ∧ x.s.size ≤ 140737488351232
theorem rByte_go {fu : Nat} {x : GReader} {c : Int} {t : List Int} (h : Rd8 x (c :: t)) : ∃ x', rByteD fu x = some (c, x') ∧ Rd8 x' t := by
  have hlen := byL_len x.s
  rw [h.s, List.length_cons] at hlen
  obtain ⟨s', h1, h2⟩ := byL_cut (s := x.s) (k := 1) (by omega)
  have h1 : cutB x.s (some 1) none = some s' := h1
  have hs' := byL_len s'
  rw [h2, List.length_drop, byL_len] at hs'
  have hsm := h.small
  have hi : idxS x.s 0 = some c := by
    have := byL_idx x.s 0
    rw [h.s] at this
    exact this
  have hc := byL_range (s := x.s) (c := c) (by rw [h.s]; exact List.mem_cons_self)
  refine ⟨{ x with s := s' }, ?_, ⟨by rw [h2, h.s]; rfl, h.ok, by show s'.size ≤ _; omega⟩⟩
  unfold rByteD
  rw [byL_empty, h.s, bif_f (by rfl), hi, some_bind, h1, some_bind, chkS_ok (by omega), some_bind, some_bind, wr64 (by omega) (by omega)]
theorem rByte_end {fu : Nat} {x : GReader} (h : Rd8 x []) : ∃ x', rByteD fu x = some (0, x') ∧ Bad8 x' := by
  refine ⟨{ x with bad := true }, ?_, rfl, h.small⟩
  unfold rByteD
  rw [byL_empty, h.s, bif_t (by rfl), some_bind]
theorem rByte_bad {fu : Nat} {x : GReader} (h : Bad8 x) : ∃ v x', rByteD fu x = some (v, x') ∧ Bad8 x' := by
  cases hl : byL x.s with
  | nil =>
    refine ⟨0, { x with bad := true }, ?_, rfl, h.2⟩
    unfold rByteD
    rw [byL_empty, hl, bif_t (by rfl), some_bind]
  | cons c t =>
    have hlen := byL_len x.s
    rw [hl, List.length_cons] at hlen
    obtain ⟨s', h1, h2⟩ := byL_cut (s := x.s) (k := 1) (by omega)
    have h1 : cutB x.s (some 1) none = some s' := h1
    have hs' := byL_len s'
    rw [h2, List.length_drop, byL_len] at hs'
    have hsm := h.2
    have hi : idxS x.s 0 = some c := by
      have := byL_idx x.s 0
      rw [hl] at this
      exact this
    refine ⟨IntKind.wrap .i64 c, { x with s := s' }, ?_, h.1, by show s'.size ≤ _; omega⟩
    unfold rByteD
    rw [byL_empty, hl, bif_f (by rfl), hi, some_bind, h1, some_bind, chkS_ok (by omega), some_bind, some_bind]
theorem orI_byte {y c : Int} (h0 : 0 ≤ y) (h1 : y < 1099511627776) (hc0 : 0 ≤ c) (hc1 : c < 256) : orI .i64 (IntKind.wrap .i64 (y * 2 ^ (min (Int.toNat 8) (IntKind.bits .i64)))) c = y * 256 + c := by
  have e : (2 : Int) ^ (min (Int.toNat 8) (IntKind.bits .i64)) = 256 := by decide
  rw [e, wr64 (by omega) (by omega)]
  obtain ⟨a, rfl⟩ := Int.eq_ofNat_of_zero_le h0
  obtain ⟨b, rfl⟩ := Int.eq_ofNat_of_zero_le hc0
  exact or_bytes a b (by omega) (by omega)
theorem rNumber_l1_bad {fu : Nat} : ∀ (n m : Nat) (x : GReader) (y : Int) (k : Int), (6 - k).toNat = m → 0 ≤ k → m < n → Bad8 x → ∃ v x', rNumber_l1 fu n x y k = some (v, x') ∧ Bad8 x'
  | 0, m, x, y, k, _, _, h, _ => absurd h (by omega)
  | n + 1, m, x, y, k, hm, hk, hn, hx => by
    rw [rNumber_l1]
    by_cases h : k < 6
    · obtain ⟨v, x', h1, h2⟩ := rByte_bad (fu := fu) hx
      rw [bif_t (dec_t h), h1, some_bind, wr64 (x := k + 1) (by omega) (by omega)]
      exact rNumber_l1_bad n (m - 1) x' _ (k + 1) (by omega) (by omega) (by omega) h2
    · rw [bif_f (dec_f h)]
      exact ⟨_, x, rfl, hx⟩
theorem rNumberD_bad {fu : Nat} (hf : 8 ≤ fu) {x : GReader} (hx : Bad8 x) : ∃ v x', rNumberD fu x = some (v, x') ∧ Bad8 x' := rNumber_l1_bad fu 6 x 0 0 rfl (by omega) (by omega) hx
theorem rNumber_step {fu n : Nat} {x : GReader} {c : Int} {t : List Int} (h : Rd8 x (c :: t)) {y k : Int} (hk : k < 6) (hk0 : 0 ≤ k) (h0 : 0 ≤ y) (h1 : y < 1099511627776) : ∃ x', rNumber_l1 fu (n + 1) x y k = rNumber_l1 fu n x' (y * 256 + c) (k + 1) ∧ Rd8 x' t := by
  obtain ⟨x', h2, h3⟩ := rByte_go (fu := fu) h
  have hc := byL_range (s := x.s) (c := c) (by rw [h.s]; exact List.mem_cons_self)
  refine ⟨x', ?_, h3⟩
  rw [rNumber_l1, bif_t (dec_t hk), h2, some_bind, orI_byte h0 h1 hc.1 hc.2, wr64 (x := k + 1) (by omega) (by omega)]
theorem rNumberD_go {fu : Nat} (hf : 8 ≤ fu) {x : GReader} {a b c d e f : Int} {t : List Int} (h : Rd8 x (a :: b :: c :: d :: e :: f :: t)) : ∃ x', rNumberD fu x = some (sixV a b c d e f, x') ∧ Rd8 x' t := by
  have hr : ∀ z ∈ [a, b, c, d, e, f], 0 ≤ z ∧ z < 256 := fun z hz => byL_range (s := x.s) (by rw [h.s]; simp at hz ⊢; rcases hz with rfl | rfl | rfl | rfl | rfl | rfl <;> simp)
  have ha := hr a (by simp)
  have hb := hr b (by simp)
  have hc := hr c (by simp)
  have hd := hr d (by simp)
  have he := hr e (by simp)
  have hff := hr f (by simp)
  obtain ⟨n, rfl⟩ : ∃ n, fu = n + 7 := ⟨fu - 7, by omega⟩
  obtain ⟨x1, e1, r1⟩ := rNumber_step (fu := n + 7) (n := n + 6) h (y := 0) (k := 0) (by omega) (by omega) (by omega) (by omega)
  obtain ⟨x2, e2, r2⟩ := rNumber_step (fu := n + 7) (n := n + 5) r1 (y := 0 * 256 + a) (k := 0 + 1) (by omega) (by omega) (by omega) (by omega)
  obtain ⟨x3, e3, r3⟩ := rNumber_step (fu := n + 7) (n := n + 4) r2 (y := (0 * 256 + a) * 256 + b) (k := 0 + 1 + 1) (by omega) (by omega) (by omega) (by omega)
  obtain ⟨x4, e4, r4⟩ := rNumber_step (fu := n + 7) (n := n + 3) r3 (y := ((0 * 256 + a) * 256 + b) * 256 + c) (k := 0 + 1 + 1 + 1) (by omega) (by omega) (by omega) (by omega)
  obtain ⟨x5, e5, r5⟩ := rNumber_step (fu := n + 7) (n := n + 2) r4 (y := (((0 * 256 + a) * 256 + b) * 256 + c) * 256 + d) (k := 0 + 1 + 1 + 1 + 1) (by omega) (by omega) (by omega) (by omega)
  obtain ⟨x6, e6, r6⟩ := rNumber_step (fu := n + 7) (n := n + 1) r5 (y := ((((0 * 256 + a) * 256 + b) * 256 + c) * 256 + d) * 256 + e) (k := 0 + 1 + 1 + 1 + 1 + 1) (by omega) (by omega) (by omega) (by omega)
  refine ⟨x6, ?_, r6⟩
  unfold rNumberD
  rw [e1, e2, e3, e4, e5, e6, rNumber_l1, bif_f (by rfl), wr64 (by omega) (by omega)]
  unfold sixV
  rw [Int.zero_mul, Int.zero_add]
theorem rNumber_l1_short {fu : Nat} : ∀ (t : List Int) (n : Nat) (x : GReader) (y k : Int), Rd8 x t → (t.length : Int) + k < 6 → 0 ≤ k → (6 - k).toNat < n → ∃ v x', rNumber_l1 fu n x y k = some (v, x') ∧ Bad8 x'
  | _, 0, x, y, k, _, _, _, h => absurd h (by omega)
  | [], n + 1, x, y, k, hx, hs, hk, hn => by
    obtain ⟨x', h1, h2⟩ := rByte_end (fu := fu) hx
    simp at hs
    rw [rNumber_l1, bif_t (dec_t hs), h1, some_bind, wr64 (x := k + 1) (by omega) (by omega)]
    exact rNumber_l1_bad n (6 - (k + 1)).toNat x' _ (k + 1) rfl (by omega) (by omega) h2
  | c :: t, n + 1, x, y, k, hx, hs, hk, hn => by
    obtain ⟨x', h1, h2⟩ := rByte_go (fu := fu) hx
    simp at hs
    rw [rNumber_l1, bif_t (dec_t (by omega)), h1, some_bind, wr64 (x := k + 1) (by omega) (by omega)]
    exact rNumber_l1_short t n x' _ (k + 1) h2 (by omega) (by omega) (by omega)
theorem rNumberD_short {fu : Nat} (hf : 8 ≤ fu) {x : GReader} {t : List Int} (h : Rd8 x t) (hs : t.length < 6) : ∃ v x', rNumberD fu x = some (v, x') ∧ Bad8 x' := rNumber_l1_short t fu x 0 0 h (by omega) (by omega) (by omega)
section
variable {fu : Nat}
theorem dec_l3_bad {n : Nat} {x : GReader} {d : GFrame} {y : Int} (hx : Bad8 x) : decode_l3 fu (n + 1) x d y = some (noF, 1) := by
  rw [decode_l3]
  unfold decode_j6 decode_j8
  rw [hx.1]
  cases decide (y > 0) <;> rfl
theorem dec_l2_bad {n : Nat} (hf : 8 ≤ fu) {x : GReader} {d : GFrame} {y : Int} (hx : Bad8 x) : decode_l2 fu (n + 1) x d y = some (noF, 1) := by
  obtain ⟨v, x', h1, h2⟩ := rByte_bad (fu := fu) hx
  obtain ⟨m, rfl⟩ : ∃ m, fu = m + 1 := ⟨fu - 1, by omega⟩
  have h3 := dec_l3_bad (fu := m + 1) (n := m) (d := d) (y := v) h2
  rw [decode_l2]
  unfold decode_j4
  rw [hx.1]
  cases decide (y > 0)
  · simp only [cond_false]
    rw [h1, some_bind]; exact h3
  · simp only [cond_true, Bool.not_true, cond_false]
    rw [h1, some_bind]; exact h3
theorem dec_l1_bad {n : Nat} (hf : 8 ≤ fu) {x : GReader} {d : GFrame} {y : Int} (hx : Bad8 x) : decode_l1 fu (n + 1) x d y = some (noF, 1) := by
  obtain ⟨v, x', h1, h2⟩ := rByte_bad (fu := fu) hx
  obtain ⟨m, rfl⟩ : ∃ m, fu = m + 1 := ⟨fu - 1, by omega⟩
  have h3 := dec_l2_bad (fu := m + 1) (n := m) hf (d := d) (y := v) h2
  rw [decode_l1]
  unfold decode_j2
  rw [hx.1]
  cases decide (y > 0)
  · simp only [cond_false]
    rw [h1, some_bind]; exact h3
  · simp only [cond_true, Bool.not_true, cond_false]
    rw [h1, some_bind]; exact h3
theorem dec_end {x : GReader} {l : List Int} (hx : Rd8 x l) {n : Nat} {d : GFrame} {y : Int} (hy : ¬ y > 0) : decode_l3 fu (n + 1) x d y = some (finZ (some (d, l))) := by
  rw [decode_l3, bif_f (dec_f hy)]
  unfold decode_j6 decode_j8 decode_j7
  rw [bif_f rfl, hx.ok, bif_f rfl, byL_empty, hx.s]
  cases l with
  | nil =>
    rw [bif_f (by rfl), some_bind]
    have e0 : finZ (some (d, [])) = bif frameZ d == 0 then (d, 0) else (noF, 1) := rfl
    rw [e0]
    by_cases h : frameZ d = 0
    · rw [h]; rfl
    · have e1 : (frameZ d != 0) = true := by simp [h]
      have e2 : (frameZ d == 0) = false := by simp [h]
      rw [e1, e2]; rfl
  | cons c t => rfl
theorem dec_l3_eq (hf : 12 ≤ fu) : ∀ (m n : Nat) (x : GReader) (l : List Int) (d : GFrame), m < n → m < 256 → d.at_.length + m ≤ 300 → d.vals.length + m ≤ 300 → Rd8 x l →
    decode_l3 fu n x d m = some (finZ ((pAts m l).map fun z => ({ d with at_ := d.at_ ++ z.1, vals := d.vals ++ z.2.1 }, z.2.2)))
  | m, 0, _, _, _, h, _, _, _, _ => absurd h (by omega)
  | 0, n + 1, x, l, d, _, _, _, _, hx => by
    rw [dec_end hx (by omega), pAts]
    have e : ({ d with at_ := d.at_ ++ [], vals := d.vals ++ [] } : GFrame) = d := by simp
    simp only [Option.map_some]
    rw [e]
  | m + 1, n + 1, x, l, d, hn, hm, ha, hv, hx => by
    have hy : (((m + 1 : Nat) : Int)) > 0 := by omega
    have e1 : IntKind.wrap .i64 (((m + 1 : Nat) : Int) - 1) = (m : Int) := by rw [wr64 (by omega) (by omega)]; omega
    rw [decode_l3, bif_t (dec_t hy)]
    unfold decode_j6 decode_j5
    rw [hx.ok, bif_t (c := !false) rfl]
    cases l with
    | nil =>
      obtain ⟨x', h1, h2⟩ := rByte_end (fu := fu) hx
      obtain ⟨v, x2, h3, h4⟩ := rNumberD_bad (fu := fu) (by omega) h2
      simp only [h1, h3, some_bind]
      rw [app_ok (by have : Rep.bytes Int = 8 := rfl; rw [this]; simp; omega), some_bind, app_ok (by have : Rep.bytes Int = 8 := rfl; rw [this]; simp; omega), some_bind, e1]
      obtain ⟨n, rfl⟩ : ∃ q, n = q + 1 := ⟨n - 1, by omega⟩
      rw [dec_l3_bad h4]
      rfl
    | cons k t =>
      obtain ⟨x', h1, h2⟩ := rByte_go (fu := fu) hx
      by_cases h6 : t.length < 6
      · obtain ⟨v, x2, h3, h4⟩ := rNumberD_short (fu := fu) (by omega) h2 h6
        simp only [h1, h3, some_bind]
        rw [app_ok (by have : Rep.bytes Int = 8 := rfl; rw [this]; simp; omega), some_bind, app_ok (by have : Rep.bytes Int = 8 := rfl; rw [this]; simp; omega), some_bind, e1]
        obtain ⟨n, rfl⟩ : ∃ q, n = q + 1 := ⟨n - 1, by omega⟩
        rw [dec_l3_bad h4]
        have : pAts (m + 1) (k :: t) = none := by
          match t, h6 with
          | [], _ => rfl
          | [_], _ => rfl
          | [_, _], _ => rfl
          | [_, _, _], _ => rfl
          | [_, _, _, _], _ => rfl
          | [_, _, _, _, _], _ => rfl
          | _ :: _ :: _ :: _ :: _ :: _ :: _, h => simp at h; omega
        rw [this]
        rfl
      · obtain ⟨a, b, c, e, f, g, u, rfl⟩ : ∃ a b c e f g u, t = a :: b :: c :: e :: f :: g :: u := by
          match t, h6 with
          | [], h => simp at h
          | [_], h => simp at h
          | [_, _], h => simp at h
          | [_, _, _], h => simp at h
          | [_, _, _, _], h => simp at h
          | [_, _, _, _, _], h => simp at h
          | a :: b :: c :: e :: f :: g :: u, _ => exact ⟨a, b, c, e, f, g, u, rfl⟩
        obtain ⟨x2, h3, h4⟩ := rNumberD_go (fu := fu) (by omega) h2
        simp only [h1, h3, some_bind]
        rw [app_ok (by have : Rep.bytes Int = 8 := rfl; rw [this]; simp; omega), some_bind, app_ok (by have : Rep.bytes Int = 8 := rfl; rw [this]; simp; omega), some_bind, e1]
        rw [dec_l3_eq hf m n x2 u { d with at_ := d.at_ ++ [k], vals := d.vals ++ [sixV a b c e f g] } (by omega) (by omega) (by simp; omega) (by simp; omega) h4, pAts]
        cases hp : pAts m u with
        | none => rfl
        | some p => simp [List.append_assoc]
theorem dec_l2_eq (hf : 300 ≤ fu) : ∀ (m n : Nat) (x : GReader) (l : List Int) (d : GFrame), m < n → m < 256 → d.deps.length + m ≤ 300 → d.at_ = [] → d.vals = [] → Rd8 x l → (∀ c ∈ l, 0 ≤ c ∧ c < 256) →
    decode_l2 fu n x d m = some (finZ ((pDeps m l).bind fun q => pTail d.kind d.node d.id d.ops (d.deps ++ q.1) q.2))
  | m, 0, _, _, _, h, _, _, _, _, _, _ => absurd h (by omega)
  | 0, n + 1, x, l, d, _, _, _, ha, hv, hx, hr => by
    rw [decode_l2, bif_f (dec_f (by omega))]
    unfold decode_j4
    rw [bif_f rfl]
    cases l with
    | nil =>
      obtain ⟨x', h1, h2⟩ := rByte_end (fu := fu) hx
      obtain ⟨q, rfl⟩ : ∃ q, fu = q + 1 := ⟨fu - 1, by omega⟩
      rw [h1, some_bind]
      simp only
      rw [dec_l3_bad h2]
      rfl
    | cons k u =>
      obtain ⟨x', h1, h2⟩ := rByte_go (fu := fu) hx
      have hk := hr k List.mem_cons_self
      rw [h1, some_bind]
      simp only
      have e : k = ((k.toNat : Nat) : Int) := by omega
      have h3 := dec_l3_eq (fu := fu) (by omega) k.toNat fu x' u d (by omega) (by omega) (by rw [ha]; simp; omega) (by rw [hv]; simp; omega) h2
      rw [← e] at h3
      rw [h3, ha, hv]
      simp [pDeps, pTail]
  | m + 1, n + 1, x, l, d, hn, hm, hd, ha, hv, hx, hr => by
    have hy : (((m + 1 : Nat) : Int)) > 0 := by omega
    have e1 : IntKind.wrap .i64 (((m + 1 : Nat) : Int) - 1) = (m : Int) := by rw [wr64 (by omega) (by omega)]; omega
    rw [decode_l2, bif_t (dec_t hy)]
    unfold decode_j4 decode_j3
    rw [hx.ok, bif_t (c := !false) rfl]
    cases l with
    | nil =>
      obtain ⟨x', h1, h2⟩ := rByte_end (fu := fu) hx
      simp only [h1, some_bind]
      rw [app_ok (by have : Rep.bytes Int = 8 := rfl; rw [this]; simp; omega), some_bind, e1]
      obtain ⟨n, rfl⟩ : ∃ q, n = q + 1 := ⟨n - 1, by omega⟩
      rw [dec_l2_bad (by omega) h2]
      rfl
    | cons k t =>
      obtain ⟨x', h1, h2⟩ := rByte_go (fu := fu) hx
      simp only [h1, some_bind]
      rw [app_ok (by have : Rep.bytes Int = 8 := rfl; rw [this]; simp; omega), some_bind, e1]
      rw [dec_l2_eq hf m n x' t { d with deps := d.deps ++ [k] } (by omega) (by omega) (by simp; omega) ha hv h2 (fun c hc => hr c (List.mem_cons_of_mem _ hc))]
      unfold pDeps
      by_cases hle : m ≤ t.length
      · rw [if_pos hle, if_pos (show m + 1 ≤ (k :: t).length by simp; exact hle)]
        simp only [List.take_succ_cons, List.drop_succ_cons, List.append_assoc, List.cons_append, List.nil_append, Option.bind_some]
      · rw [if_neg hle, if_neg (show ¬ m + 1 ≤ (k :: t).length by simp; omega)]
        rfl
theorem pOps_short {m : Nat} {t : List Int} (h : t.length < 8) : pOps (m + 1) t = none := by
  match t, h with
  | [], _ => rfl
  | [_], _ => rfl
  | [_, _], _ => rfl
  | [_, _, _], _ => rfl
  | [_, _, _, _], _ => rfl
  | [_, _, _, _, _], _ => rfl
  | [_, _, _, _, _, _], _ => rfl
  | [_, _, _, _, _, _, _], _ => rfl
  | _ :: _ :: _ :: _ :: _ :: _ :: _ :: _ :: _, h => simp at h; omega
theorem eight_of {t : List Int} (h : ¬ t.length < 8) : ∃ k y a b c d e f u, t = k :: y :: a :: b :: c :: d :: e :: f :: u := by
  match t, h with
  | [], h => simp at h
  | [_], h => simp at h
  | [_, _], h => simp at h
  | [_, _, _], h => simp at h
  | [_, _, _, _], h => simp at h
  | [_, _, _, _, _], h => simp at h
  | [_, _, _, _, _, _], h => simp at h
  | [_, _, _, _, _, _, _], h => simp at h
  | k :: y :: a :: b :: c :: d :: e :: f :: u, _ => exact ⟨k, y, a, b, c, d, e, f, u, rfl⟩
theorem dec_l1_eq (hf : 300 ≤ fu) : ∀ (m n : Nat) (x : GReader) (l : List Int) (d : GFrame), m < n → m < 256 → d.ops.length + m ≤ 300 → d.deps = [] → d.at_ = [] → d.vals = [] → Rd8 x l → (∀ c ∈ l, 0 ≤ c ∧ c < 256) →
    decode_l1 fu n x d m = some (finZ ((pOps m l).bind fun p => pRest d.kind d.node d.id (d.ops ++ p.1) p.2))
  | m, 0, _, _, _, h, _, _, _, _, _, _, _ => absurd h (by omega)
  | 0, n + 1, x, l, d, _, _, _, hdd, ha, hv, hx, hr => by
    rw [decode_l1, bif_f (dec_f (by omega))]
    unfold decode_j2
    rw [bif_f rfl, pOps]
    simp only [Option.bind_some, List.append_nil]
    cases l with
    | nil =>
      obtain ⟨x', h1, h2⟩ := rByte_end (fu := fu) hx
      obtain ⟨q, rfl⟩ : ∃ q, fu = q + 1 := ⟨fu - 1, by omega⟩
      rw [h1, some_bind]
      simp only
      rw [dec_l2_bad (by omega) h2]
      rfl
    | cons k u =>
      obtain ⟨x', h1, h2⟩ := rByte_go (fu := fu) hx
      have hk := hr k List.mem_cons_self
      rw [h1, some_bind]
      simp only
      have e : k = ((k.toNat : Nat) : Int) := by omega
      have h3 := dec_l2_eq (fu := fu) hf k.toNat fu x' u d (by omega) (by omega) (by rw [hdd]; simp; omega) ha hv h2 (fun c hc => hr c (List.mem_cons_of_mem _ hc))
      rw [← e] at h3
      rw [h3, hdd]
      simp [pRest]
  | m + 1, n + 1, x, l, d, hn, hm, ho, hdd, ha, hv, hx, hr => by
    have hy : (((m + 1 : Nat) : Int)) > 0 := by omega
    have e1 : IntKind.wrap .i64 (((m + 1 : Nat) : Int) - 1) = (m : Int) := by rw [wr64 (by omega) (by omega)]; omega
    rw [decode_l1, bif_t (dec_t hy)]
    unfold decode_j2 decode_j1
    rw [hx.ok, bif_t (c := !false) rfl]
    by_cases h8 : l.length < 8
    · rw [pOps_short h8]
      have hbad : ∃ v1 x1 v2 x2 v3 x3, rByteD fu x = some (v1, x1) ∧ rByteD fu x1 = some (v2, x2) ∧ rNumberD fu x2 = some (v3, x3) ∧ Bad8 x3 := by
        cases l with
        | nil =>
          obtain ⟨x1, h1, r1⟩ := rByte_end (fu := fu) hx
          obtain ⟨v2, x2, h2, r2⟩ := rByte_bad (fu := fu) r1
          obtain ⟨v3, x3, h3, r3⟩ := rNumberD_bad (fu := fu) (by omega) r2
          exact ⟨_, x1, v2, x2, v3, x3, h1, h2, h3, r3⟩
        | cons c t =>
          obtain ⟨x1, h1, r1⟩ := rByte_go (fu := fu) hx
          cases t with
          | nil =>
            obtain ⟨x2, h2, r2⟩ := rByte_end (fu := fu) r1
            obtain ⟨v3, x3, h3, r3⟩ := rNumberD_bad (fu := fu) (by omega) r2
            exact ⟨_, x1, _, x2, v3, x3, h1, h2, h3, r3⟩
          | cons c2 u =>
            obtain ⟨x2, h2, r2⟩ := rByte_go (fu := fu) r1
            obtain ⟨v3, x3, h3, r3⟩ := rNumberD_short (fu := fu) (by omega) r2 (by simp at h8; omega)
            exact ⟨_, x1, _, x2, v3, x3, h1, h2, h3, r3⟩
      obtain ⟨v1, x1, v2, x2, v3, x3, h1, h2, h3, r3⟩ := hbad
      simp only [h1, h2, h3, some_bind]
      rw [app_ok (by have : Rep.bytes GOp = 24 := rfl; rw [this]; simp; omega), some_bind, e1]
      obtain ⟨n, rfl⟩ : ∃ q, n = q + 1 := ⟨n - 1, by omega⟩
      rw [dec_l1_bad (by omega) r3]
      rfl
    · obtain ⟨k, y, a, b, c, dd, e, f, u, rfl⟩ := eight_of h8
      obtain ⟨x1, h1, r1⟩ := rByte_go (fu := fu) hx
      obtain ⟨x2, h2, r2⟩ := rByte_go (fu := fu) r1
      obtain ⟨x3, h3, r3⟩ := rNumberD_go (fu := fu) (by omega) r2
      simp only [h1, h2, h3, some_bind]
      rw [app_ok (by have : Rep.bytes GOp = 24 := rfl; rw [this]; simp; omega), some_bind, e1]
      rw [dec_l1_eq hf m n x3 u { d with ops := d.ops ++ [⟨k, y, sixV a b c dd e f⟩] } (by omega) (by omega) (by simp; omega) hdd ha hv r3 (fun z hz => hr z (by simp [hz])), pOps]
      cases hp : pOps m u with
      | none => rfl
      | some p => simp [List.append_assoc]
theorem decodeD_eq (hf : 300 ≤ fu) {s : ByteArray} (hs : s.size ≤ 140737488351232) : decodeD fu s = some (decZ (byL s)) := by
  have hr : ∀ c ∈ byL s, 0 ≤ c ∧ c < 256 := fun c hc => byL_range hc
  have hx : Rd8 { s := s, bad := Zr.zd } (byL s) := ⟨rfl, rfl, hs⟩
  unfold decodeD
  rw [chkS_ok hs, some_bind, some_bind]
  generalize byL s = l at hr hx
  have hbad : ∀ {x : GReader} {d : GFrame} {y : Int}, Bad8 x → decode_l1 fu fu x d y = some (noF, 1) := fun {x d y} h => by
    obtain ⟨q, hq⟩ : ∃ q, fu = q + 1 := ⟨fu - 1, by omega⟩
    have := dec_l1_bad (fu := fu) (n := q) (by omega) (d := d) (y := y) h
    rw [← hq] at this
    exact this
  have b1 : ∀ {x : GReader}, Bad8 x → ∃ v x', rByteD fu x = some (v, x') ∧ Bad8 x' := fun h => rByte_bad h
  match l, hx, hr with
  | [], hx, _ =>
    obtain ⟨x1, h1, r1⟩ := rByte_end (fu := fu) hx
    obtain ⟨v2, x2, h2, r2⟩ := b1 r1
    obtain ⟨v3, x3, h3, r3⟩ := b1 r2
    obtain ⟨v4, x4, h4, r4⟩ := b1 r3
    simp only [h1, h2, h3, h4, some_bind]
    rw [hbad r4]; rfl
  | [a], hx, _ =>
    obtain ⟨x1, h1, r1⟩ := rByte_go (fu := fu) hx
    obtain ⟨x2, h2, r2⟩ := rByte_end (fu := fu) r1
    obtain ⟨v3, x3, h3, r3⟩ := b1 r2
    obtain ⟨v4, x4, h4, r4⟩ := b1 r3
    simp only [h1, h2, h3, h4, some_bind]
    rw [hbad r4]; rfl
  | [a, b], hx, _ =>
    obtain ⟨x1, h1, r1⟩ := rByte_go (fu := fu) hx
    obtain ⟨x2, h2, r2⟩ := rByte_go (fu := fu) r1
    obtain ⟨x3, h3, r3⟩ := rByte_end (fu := fu) r2
    obtain ⟨v4, x4, h4, r4⟩ := b1 r3
    simp only [h1, h2, h3, h4, some_bind]
    rw [hbad r4]; rfl
  | [a, b, c], hx, _ =>
    obtain ⟨x1, h1, r1⟩ := rByte_go (fu := fu) hx
    obtain ⟨x2, h2, r2⟩ := rByte_go (fu := fu) r1
    obtain ⟨x3, h3, r3⟩ := rByte_go (fu := fu) r2
    obtain ⟨x4, h4, r4⟩ := rByte_end (fu := fu) r3
    simp only [h1, h2, h3, h4, some_bind]
    rw [hbad r4]; rfl
  | a :: b :: c :: no :: t, hx, hr =>
    obtain ⟨x1, h1, r1⟩ := rByte_go (fu := fu) hx
    obtain ⟨x2, h2, r2⟩ := rByte_go (fu := fu) r1
    obtain ⟨x3, h3, r3⟩ := rByte_go (fu := fu) r2
    obtain ⟨x4, h4, r4⟩ := rByte_go (fu := fu) r3
    simp only [h1, h2, h3, h4, some_bind]
    have hno := hr no (by simp)
    have e : no = ((no.toNat : Nat) : Int) := by omega
    have h5 := dec_l1_eq (fu := fu) hf no.toNat fu x4 t { kind := a, node := b, id := c, ops := Zr.zd, deps := Zr.zd, at_ := Zr.zd, vals := Zr.zd } (by omega) (by omega) (by show ([] : List GOp).length + _ ≤ _; simp; omega) rfl rfl rfl r4 (fun z hz => hr z (by simp [hz]))
    rw [← e] at h5
    rw [h5]
    rfl
end
end Go.Proofs.Ytopgdemmdcipcaa
namespace Go.Proofs.Ytopgdemmdcipcaa
open Go.RowKit
open Rep (rep)
theorem takeN_of {s : GNode} {who : Int} {f : GFrame} (hs : GoodN s) (hw : 0 ≤ who ∧ who < 6) (hn : f.node = who) (hz : frameZ f = 0) : takeN s who f = takeK s who f := by
  unfold takeN
  rw [goodN_iff.2 hs, hz, dec_t hw, hn]
  simp
theorem takeK_ask {s : GNode} {who : Int} {f : GFrame} (h1 : f.kind = 1) (ht : touchesZ f.ops (ofZ who) = true) : takeK s who f = (askN s f (ofZ who), [toldF who f.id (eat (askN s f (ofZ who)).entries f.id.toNat).first], 0) := by
  unfold takeK
  rw [bif_t (by simp [h1]), ht]
  rfl
theorem takeK_commit {s : GNode} {who : Int} {f : GFrame} (h3 : f.kind = 3) : takeK s who f = (commitN s f (ofZ who), answers (ofZ who) who f.id (commitN s f (ofZ who)), 0) := by
  unfold takeK
  rw [bif_f (by simp [h3]), bif_t (by simp [h3])]
theorem takeN_ok {s : GNode} {who : Int} {f : GFrame} (h : (takeN s who f).2.2 = 0) : GoodN s ∧ (0 ≤ who ∧ who < 6) ∧ f.node = who ∧ frameZ f = 0 ∧ ((f.kind = 1 ∧ touchesZ f.ops (ofZ who) = true) ∨ f.kind = 3) := by
  unfold takeN at h
  cases hc : (goodN s && (decide (0 ≤ who ∧ who < 6) && f.node == who))
  · rw [hc] at h
    exact absurd (show (2 : Int) = 0 from h) (by decide)
  · rw [hc, cond_true] at h
    simp only [Bool.and_eq_true, decide_eq_true_eq, beq_iff_eq] at hc
    cases hz : (frameZ f == 0)
    · rw [hz] at h
      have h : frameZ f = 0 := h
      rw [h] at hz
      cases hz
    · rw [hz, cond_true] at h
      refine ⟨goodN_iff.1 hc.1, hc.2.1, hc.2.2, by simpa using hz, ?_⟩
      unfold takeK at h
      cases h1 : (f.kind == 1)
      · rw [h1, cond_false] at h
        cases h3 : (f.kind == 3)
        · rw [h3] at h
          exact absurd (show (3 : Int) = 0 from h) (by decide)
        · exact .inr (by simpa using h3)
      · rw [h1, cond_true] at h
        cases ht : touchesZ f.ops (ofZ who)
        · rw [ht] at h
          exact absurd (show (4 : Int) = 0 from h) (by decide)
        · exact .inl ⟨by simpa using h1, rfl⟩
structure Ex (s t : GNode) : Prop where
  ent : ∀ k, k < 32 → eat t.entries k = eat s.entries k ∨ ((eat s.entries k).state = 2 ∧ ∃ a b, eat t.entries k = doneE (eat s.entries k) a b)
  order : ∃ L, t.order = s.order ++ L
theorem Ex.refl (s : GNode) : Ex s s := ⟨fun _ _ => .inl rfl, [], by simp⟩
theorem Ex.trans {s t u : GNode} (h : Ex s t) (k : Ex t u) : Ex s u := by
  refine ⟨fun j hj => ?_, ?_⟩
  · rcases h.ent j hj with e | ⟨e2, a, b, e⟩
    · rcases k.ent j hj with e' | ⟨e2', a, b, e'⟩
      · exact .inl (e'.trans e)
      · rw [e] at e2' e'
        exact .inr ⟨e2', a, b, e'⟩
    · rcases k.ent j hj with e' | ⟨e2', _⟩
      · exact .inr ⟨e2, a, b, e'.trans e⟩
      · rw [e] at e2'
        exact absurd (show (3 : Int) = 2 from e2') (by decide)
  · obtain ⟨L, h1⟩ := h.order
    obtain ⟨L', h2⟩ := k.order
    exact ⟨L ++ L', by rw [h2, h1, List.append_assoc]⟩
theorem Ex.one {s : GNode} {n : Nat} (hn : n < 32) (h2 : (eat s.entries n).state = 2) (sh : Int) : Ex s (oneZ s n sh) := by
  refine ⟨fun k hk => ?_, _, rfl⟩
  show eat (s.entries.setIfInBounds n _) k = _ ∨ _ ∧ ∃ a b, eat (s.entries.setIfInBounds n _) k = _
  rw [eat_setI hn]
  by_cases e : n = k
  · subst e
    rw [if_pos rfl]
    exact .inr ⟨h2, _, _, rfl⟩
  · rw [if_neg e]
    exact .inl rfl
theorem Ex.step {s : GNode} {m : Nat} (hm : m < 32) (sh : Int) : Ex s (stepZ sh s m) := by
  unfold stepZ
  cases h2 : ((eat s.entries m).state == 2)
  · exact .refl s
  · exact .one hm (by simpa using h2) sh
theorem Ex.run (sh : Int) : ∀ (l : List Nat) (s : GNode), (∀ m ∈ l, m < 32) → Ex s (runZ sh s l)
  | [], s, _ => .refl s
  | m :: t, _, hl => (Ex.step (hl m List.mem_cons_self) sh).trans (Ex.run sh t _ fun x hx => hl x (List.mem_cons_of_mem _ hx))
theorem Ex.turn {s : GNode} {n : Nat} (hn : n < 32) (g : GGraph) (sh : Int) : Ex s (turnZ g sh s n) := by
  unfold turnZ
  cases ((eat s.entries n).state == 2)
  · exact .refl s
  · exact Ex.run sh _ s (ordL_lt hn)
theorem Ex.turns (g : GGraph) (sh : Int) : ∀ (l : List Nat) (s : GNode), (∀ m ∈ l, m < 32) → Ex s (l.foldl (turnZ g sh) s)
  | [], s, _ => .refl s
  | m :: t, _, hl => (Ex.turn (hl m List.mem_cons_self) g sh).trans (Ex.turns g sh t _ fun x hx => hl x (List.mem_cons_of_mem _ hx))
theorem Ex.exec (s : GNode) (sh : Int) : Ex s (execZ s sh) := Ex.turns _ sh _ s fun m hm => List.mem_range.1 hm
structure Kp (x y : GEntry) : Prop where
  state : x.state ≤ y.state
  first : x.state ≠ 0 → x.first = y.first
  body : 2 ≤ x.state → x.deps = y.deps ∧ x.ops = y.ops
  done : x.state = 3 → x = y
theorem Kp.refl (x : GEntry) : Kp x x := ⟨Int.le_refl _, fun _ => rfl, fun _ => ⟨rfl, rfl⟩, fun _ => rfl⟩
theorem Kp.trans {x y z : GEntry} (h0 : 0 ≤ x.state) (h : Kp x y) (k : Kp y z) : Kp x z := by
  have h1 := h.state
  refine ⟨Int.le_trans h.state k.state, fun hx => (h.first hx).trans (k.first (by omega)), fun hx => ?_, fun hx => ?_⟩
  · obtain ⟨a, b⟩ := h.body hx
    obtain ⟨c, d⟩ := k.body (by omega)
    exact ⟨a.trans c, b.trans d⟩
  · have e := h.done hx
    rw [e]
    exact k.done (by rw [← e]; exact hx)
structure KeepN (s t : GNode) : Prop where
  ent : ∀ k, k < 32 → Kp (eat s.entries k) (eat t.entries k)
  order : ∃ L, t.order = s.order ++ L
theorem KeepN.refl (s : GNode) : KeepN s s := ⟨fun _ _ => .refl _, [], by simp⟩
theorem takeN_good {s : GNode} {who : Int} {f : GFrame} (h : (takeN s who f).2.2 = 0) : GoodN (takeN s who f).1 := by
  obtain ⟨hs, hw, hn, hz, hk⟩ := takeN_ok h
  rw [takeN_of hs hw hn hz]
  rcases hk with ⟨h1, ht⟩ | h3
  · rw [takeK_ask h1 ht]; exact hs.asked hz h1 _
  · rw [takeK_commit h3]; exact hs.commit hz h3 _
end Go.Proofs.Ytopgdemmdcipcaa
