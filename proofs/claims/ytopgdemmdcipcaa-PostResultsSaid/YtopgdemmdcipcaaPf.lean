/- What is fixed, and what is told, stays so: the plain laws of post. -/
import Derived.Test.YtopgdemmdcipcaaEf
import Derived.Test.YtopgdemmdcipcaaPt
import Derived.Test.YtopgdemmdcipcaaTxni
namespace Go.Proofs.Ytopgdemmdcipcaa
open Go.RowKit
open Rep (rep)

theorem keepPostsD_any {fu : Nat} (hf : 7 ≤ fu) : keepPostsD fu = some true := posts_any hf keepPostsD fun fu => by
  unfold keepPostsD keepPosts_j1
  rfl
theorem keepSameNumbers_l1_eq {a : List Int} (ha : a.length ≤ 9000000000000000) : ∀ (n m k : Nat), a.length = k + m → m < n → keepSameNumbers_l1 a a n k = some true
  | 0, m, k, _, h => absurd h (by omega)
  | n + 1, 0, k, hk, _ => by rw [keepSameNumbers_l1, bif_f (dec_f (by omega))]
  | n + 1, m + 1, k, hk, hn => by
    obtain ⟨x, hx⟩ : ∃ x, a[k]? = some x := ⟨a[k], by simp⟩
    have := keepSameNumbers_l1_eq ha n m (k + 1) (by omega) (by omega)
    rw [keepSameNumbers_l1, bif_t (dec_t (by omega)), idx_nat, hx, some_bind, some_bind, bif_f (by simp), wr64 (by omega) (by omega)]
    simpa using this
theorem keepSameNumbersD_refl {a : List Int} {fu : Nat} (ha : a.length ≤ 9000000000000000) (hf : a.length < fu) : keepSameNumbersD fu a a = some true := by
  rw [keepSameNumbersD, bif_f (by simp)]
  exact keepSameNumbers_l1_eq ha fu a.length 0 (by omega) hf
theorem union_rising (a b : List Int) : risingZ (unionZ a b) = true := (unionTo_rising a b 32 (by omega)).1

/-! What is fixed. -/
theorem hasAt_set {n : Nat} {v : Vector Bool n} {i j : Nat} {x : Bool} (hi : i < n) : hasAt (v.setIfInBounds i x) j = if i = j then x else hasAt v j := by
  unfold hasAt
  by_cases hj : j < n
  · simp only [Vector.getElem?_setIfInBounds, hi]
    by_cases e : i = j
    · subst e; simp
    · simp [e]
  · have hij : i ≠ j := by omega
    simp [hj, hij]
/-- What the law gathers. -/
structure Gathers (t : GTxn) (told : Vector Bool 6) (c : GCase) (deps : List Int) : Prop where
  htold : c.told = told
  hdeps : c.deps = deps
  hops : c.ops = t.ops
  small : deps.length ≤ 32
  enough : c.fixed = true → enoughC c = true
theorem enoughC_same {c d : GCase} (h1 : c.ops = d.ops) (h2 : c.told = d.told) : enoughC c = enoughC d := by unfold enoughC; rw [h1, h2]

/-- One answer more. -/
theorem Gathers.same {t : GTxn} {told : Vector Bool 6} {c d : GCase} {deps : List Int} (h : Gathers t told c deps) (h1 : d.told = c.told) (h2 : d.deps = c.deps) (h3 : d.ops = c.ops) (h4 : d.fixed = c.fixed) : Gathers t told d deps :=
  ⟨h1.trans h.htold, h2.trans h.hdeps, h3.trans h.hops, h.small, fun hf => by rw [enoughC_same h3 h1]; exact h.enough (by rw [← h4]; exact hf)⟩
/-! What is told. -/
/-- A case of this transaction. -/
structure OfTxn (t : GTxn) (c : GCase) : Prop where
  begun : c.begun = true
  ops : c.ops = t.ops
  good : goodOpsZ t.ops = true
  none : c.fixed = false → ∀ k, hasAt c.has k = false
theorem shard_two (k : Int) : shardZ k = 0 ∨ shardZ k = 1 := by
  unfold shardZ
  split
  · exact .inl rfl
  · exact .inr rfl
theorem wholeL_has {has : Nat → Bool} {s : Int} : ∀ (l : List GOp) (k : Nat), wholeL has s l k = true → ∀ i o, l[i]? = some o → shardZ o.key = s → has (k + i) = true
  | [], _, _, i, o, h, _ => by simp at h
  | a :: t, k, h, i, o, hi, hs => by
    rw [wholeL] at h
    cases hb : (shardZ a.key == s && !has k) with
    | true => rw [hb] at h; cases h
    | false =>
      rw [hb] at h
      cases i with
      | zero =>
        cases hi
        have e : (shardZ a.key == s) = true := by simp [hs]
        rw [e, Bool.true_and] at hb
        simpa using hb
      | succ i =>
        have := wholeL_has t (k + 1) h i o hi hs
        rw [show k + (i + 1) = k + 1 + i from by omega]
        exact this
theorem result_has {c : GCase} (h0 : wholeC c 0 = true) (h1 : wholeC c 1 = true) {i : Nat} (hi : i < c.ops.length) : hasAt c.has i = true := by
  have hx : c.ops[i]? = some c.ops[i] := by simp
  rcases shard_two c.ops[i].key with h | h
  · have := wholeL_has c.ops 0 h0 i _ hx h
    rwa [Nat.zero_add] at this
  · have := wholeL_has c.ops 0 h1 i _ hx h
    rwa [Nat.zero_add] at this
theorem resultC_ok {c : GCase} (h : (resultC c).2 = true) : c.begun = true ∧ goodC c = true ∧ wholeC c 0 = true ∧ wholeC c 1 = true ∧ (resultC c).1 = c.values.toList.take c.ops.length := by
  unfold resultC at h ⊢
  cases h1 : c.begun && (goodC c && (wholeC c 0 && wholeC c 1)) with
  | false => rw [h1] at h; cases h
  | true =>
    simp only [Bool.and_eq_true] at h1
    exact ⟨h1.1, h1.2.1, h1.2.2.1, h1.2.2.2, rfl⟩
theorem OfTxn.len {t : GTxn} {c : GCase} (h : OfTxn t c) : 0 < c.ops.length ∧ c.ops.length ≤ 4 := by
  rw [h.ops]; exact goodOps_len h.good
theorem OfTxn.fixed {t : GTxn} {c : GCase} (h : OfTxn t c) (hr : (resultC c).2 = true) : c.fixed = true := by
  obtain ⟨_, _, h0, h1, _⟩ := resultC_ok hr
  cases hf : c.fixed with
  | true => rfl
  | false =>
    have := result_has h0 h1 h.len.1
    rw [h.none hf 0] at this
    cases this
theorem OfTxn.length {t : GTxn} {c : GCase} (h : OfTxn t c) (hr : (resultC c).2 = true) : (resultC c).1.length = t.ops.length := by
  obtain ⟨_, _, _, _, e⟩ := resultC_ok hr
  have := h.len
  rw [e, List.length_take, h.ops]
  rw [h.ops] at this
  simp
  omega
theorem doneL_full {sh : Int} : ∀ {at_ vs : List Int} {c : GCase}, (∀ n ∈ at_, 0 ≤ n) → (∀ i, i < c.ops.length → hasAt c.has i = true) → doneL sh c at_ vs = c
  | [], _, _, _, _ => by unfold doneL; rfl
  | _ :: _, [], _, _, _ => by unfold doneL; rfl
  | k :: at_, v :: vs, c, hn, h => by
    have e : doneStep sh c k v = c := by
      unfold doneStep
      by_cases hk : k < (c.ops.length : Int)
      · have h0 := hn k List.mem_cons_self
        rw [h k.toNat (by omega)]
        simp
      · rw [dec_f hk]; rfl
    unfold doneL
    rw [e]
    exact doneL_full (fun n hm => hn n (List.mem_cons_of_mem _ hm)) h
theorem takeC_kinds {c : GCase} {id : Int} {f : GFrame} (h : (takeC c id f).2.2 = 0) : frameZ f = 0 ∧ (((takeC c id f).1 = c) ∨ (c.fixed = false ∧ (takeC c id f).1 = fixC (toldC c f)) ∨ (c.fixed = true ∧ (takeC c id f).1 = { c with known := c.known.setIfInBounds f.node.toNat true }) ∨ (c.fixed = true ∧ (takeC c id f).1 = doneL (ofZ f.node) c f.at_ f.vals)) := by
  unfold takeC at h ⊢
  cases ht : takes c id f
  · rw [ht] at h; simp at h
  · rw [ht] at h
    simp only [cond_true] at h ⊢
    cases hz : (frameZ f == 0)
    · rw [hz] at h
      simp only [cond_false] at h
      rw [h] at hz; cases hz
    · refine ⟨by simpa using hz, ?_⟩
      rw [hz] at h
      simp only [cond_true] at h ⊢
      unfold takeOk at h ⊢
      cases hk2 : (f.kind == 2)
      · simp only [cond_false]
        cases hk4 : (f.kind == 4)
        · simp only [cond_false]
          cases hk5 : (f.kind == 5)
          · rw [hk2, hk4, hk5] at h; simp at h
          · cases hfx : c.fixed
            · exact .inl rfl
            · exact .inr (.inr (.inr ⟨rfl, rfl⟩))
        · cases hfx : c.fixed
          · exact .inl rfl
          · exact .inr (.inr (.inl ⟨rfl, rfl⟩))
      · simp only [cond_true]
        cases hfx : c.fixed
        · cases (hasAt c.told f.node.toNat || !touchesZ c.ops (ofZ f.node))
          · exact .inr (.inl ⟨rfl, rfl⟩)
          · exact .inl rfl
        · exact .inl rfl
theorem goodC_same {c d : GCase} (h1 : d.begun = c.begun) (h2 : d.ops = c.ops) (h3 : d.deps = c.deps) (hb : c.begun = true) : goodC d = goodC c := by
  unfold goodC
  rw [h1, h2, h3, hb]
  rfl
theorem OfTxn.take {t : GTxn} {c : GCase} (h : OfTxn t c) {f : GFrame} (h0 : (takeC c t.id f).2.2 = 0) : OfTxn t (takeC c t.id f).1 ∧ ((resultC c).2 = true → resultC (takeC c t.id f).1 = resultC c) := by
  obtain ⟨hz, hk⟩ := takeC_kinds h0
  rcases hk with e | ⟨hf, e⟩ | ⟨hf, e⟩ | ⟨hf, e⟩
  · rw [e]; exact ⟨h, fun _ => rfl⟩
  · rw [e]
    refine ⟨⟨h.begun, h.ops, h.good, fun _ => h.none hf⟩, fun hr => ?_⟩
    rw [h.fixed hr] at hf; cases hf
  · rw [e]
    refine ⟨⟨h.begun, h.ops, h.good, fun hn => ?_⟩, fun _ => ?_⟩
    · have hn : c.fixed = false := hn
      rw [hn] at hf; cases hf
    · unfold resultC
      have hg : goodC { c with known := c.known.setIfInBounds f.node.toNat true } = goodC c := goodC_same rfl rfl rfl h.begun
      rw [hg]
      rfl
  · rw [e]
    have hd := doneL_same (sh := ofZ f.node) (at_ := f.at_) (vs := f.vals) (c := c)
    refine ⟨⟨hd.2.2.1.trans h.begun, hd.1.trans h.ops, h.good, fun hn => ?_⟩, fun hr => ?_⟩
    · rw [hd.2.1, hf] at hn; cases hn
    · obtain ⟨_, _, w0, w1, _⟩ := resultC_ok hr
      rw [doneL_full (fun n hn => ((AtOk_of hz).mem n hn).1) fun i hi => result_has w0 w1 hi]
theorem postResults_l1_eq {fu : Nat} (hfu : 60 ≤ fu) {t : GTxn} {l : List GFrame} : ∀ (n m k : Nat) (c : GCase) (was : List Int) (known : Bool), k + m = 40 → m < n → OfTxn t c → was.length ≤ 50 → (known = true → resultC c = (was, true)) → postResults_l1 fu t l n c was known k = some true
  | 0, m, k, _, _, _, _, h, _, _, _ => absurd h (by omega)
  | n + 1, m, k, c, was, known, hk, hn, h, hw, hkn => by
    rw [postResults_l1]
    unfold postResults_j8
    by_cases h1 : (k : Int) < (l.length : Int)
    · rw [bif_t (dec_t h1)]
      cases m with
      | zero => rw [bif_f (dec_f (by omega))]
      | succ m =>
        rw [bif_t (dec_t (by omega))]
        unfold postResults_j2 postResults_j7
        rw [idx_nat, List.getElem?_eq_getElem (by omega), some_bind, postTakeD_eq (by omega), some_bind, some_bind]
        -- the case that follows
        have next : ∀ d : GCase, OfTxn t d → ((resultC c).2 = true → resultC d = resultC c) → postResults_j4 fu t was known k (postResults_l1 fu t l n) d = some true := by
          intro d hd hsame
          have ih := postResults_l1_eq hfu (l := l) n m (k + 1) d (resultC d).1 (resultC d).2 (by omega) (by omega) hd (by
            cases hr : (resultC d).2 with
            | true => have := hd.length hr; have := goodOps_len hd.good; omega
            | false =>
              unfold resultC at hr ⊢
              cases hq : d.begun && (goodC d && (wholeC d 0 && wholeC d 1)) with
              | false => simp
              | true => rw [hq] at hr; cases hr) (fun hr => by rw [← hr])
          have hwrap : IntKind.wrap .i64 ((k : Int) + 1) = ((k + 1 : Nat) : Int) := by rw [wr64 (by omega) (by omega)]; omega
          unfold postResults_j4 postResults_j6 postResults_j5 postResults_j3
          rw [postResultD_eq (by omega), some_bind, hwrap, ih]
          have fine : (resultC d).2 = true → ((bif ((resultC d).1.length : Int) != (t.ops.length : Int) then (bif true then some false else some true) else (bif !d.fixed then some false else some true)) : Option Bool) = some true := fun hr => by
            have e1 := hd.length hr
            have e2 := hd.fixed hr
            rw [bif_f (by simp [e1]), e2]; rfl
          cases hkk : known with
          | false =>
            cases hr : (resultC d).2 with
            | false => rfl
            | true => exact fine hr
          | true =>
            have e0 := hkn hkk
            have e1 : resultC d = (was, true) := by rw [hsame (by rw [e0])]; exact e0
            have hr : (resultC d).2 = true := by rw [e1]
            have e2 : (resultC d).1 = was := by rw [e1]
            rw [hr]
            simp only [Bool.not_true, cond_true, cond_false]
            rw [e2, keepSameNumbersD_refl (by omega) (by omega), some_bind]
            have := fine hr
            rw [e2] at this
            exact this
        by_cases h0 : (takeC c t.id l[k]).2.2 = 0
        · rw [bif_t (by simp [h0]), some_bind]
          obtain ⟨e1, e2⟩ := h.take h0
          exact next _ e1 e2
        · rw [bif_f (by simp [h0])]
          exact next c h fun _ => rfl
    · rw [bif_f (dec_f h1), bif_f rfl]
theorem postResultsD_eq {fu : Nat} (hfu : 110 ≤ fu) (t : GTxn) (l : List GFrame) : postResultsD fu t l = some true := by
  unfold postResultsD postResults_j9
  rw [postBeginD_eq (by omega), some_bind, some_bind, keepPostsD_any (by omega), some_bind, some_bind]
  unfold beginC
  cases decide (0 ≤ t.id ∧ t.id < 32)
  · rfl
  · cases hg : goodOpsZ t.ops
    · rfl
    · refine postResults_l1_eq (by omega) fu 40 0 (newC t.ops) [] false (by omega) (by omega) ⟨rfl, rfl, hg, fun _ k => ?_⟩ (by simp) (fun h => by cases h)
      show hasAt (Vector.replicate 4 false) k = false
      unfold hasAt
      by_cases hk : k < 4 <;> simp [hk]
end Go.Proofs.Ytopgdemmdcipcaa
