/- The laws of the graph that need no answer of the document's: plain. -/
import Derived.Test.YtnfdgjdnlikepabPs
import Derived.Test.YtnfdgjdnlikepabEg
namespace Go.Proofs.Ytnfdgjdnlikepab
open Go.RowKit
open Rep (rep)
theorem keepOrdersD_eq {fu : Nat} (hf : 82 ≤ fu) : keepOrdersD fu = some true := by
  rw [← ordersB_eq hf]
  rfl
theorem keepSameNumbersG_l1_eq {a : List Int} (ha : a.length ≤ 9000000000000000) : ∀ (n m k : Nat), a.length = k + m → m < n → keepSameNumbers_l1 a a n k = some true
  | 0, m, k, _, h => absurd h (by omega)
  | n + 1, 0, k, hk, _ => by rw [keepSameNumbers_l1, bif_f (dec_f (by omega))]
  | n + 1, m + 1, k, hk, hn => by
    obtain ⟨x, hx⟩ : ∃ x, a[k]? = some x := ⟨a[k], by simp⟩
    have := keepSameNumbersG_l1_eq ha n m (k + 1) (by omega) (by omega)
    rw [keepSameNumbers_l1, bif_t (dec_t (by omega)), idx_nat, hx, some_bind, some_bind, bif_f (by simp), wr64 (by omega) (by omega)]
    simpa using this
theorem keepSameNumbersG_refl {a : List Int} {fu : Nat} (ha : a.length ≤ 9000000000000000) (hf : a.length < fu) : keepSameNumbersD fu a a = some true := by
  rw [keepSameNumbersD, bif_f (by simp)]
  exact keepSameNumbersG_l1_eq ha fu a.length 0 (by omega) hf

theorem ready_nat {g : GGraph} {n : Int} (h : readyZ g n = true) : ∃ s : Nat, s < 32 ∧ n = s := ⟨n.toNat, by have := (readyZ_iff.1 h).1; omega, by have := (readyZ_iff.1 h).1; omega⟩
theorem orderZ_ready {g : GGraph} {s : Nat} (h : readyZ g (s : Int) = true) : orderZ g (s : Int) = castL (orderS (pathB g) s) := by
  unfold orderZ
  rw [if_pos h]
  rfl
theorem orderZ_no {g : GGraph} {n : Int} (h : readyZ g n = false) : orderZ g n = [] := by
  unfold orderZ
  rw [if_neg (by simp [h])]
theorem reachZ_bat {g : GGraph} {s : Nat} (hs : s < 32) {d : Nat} (hd : d < 32) : bat (reachZ g (s : Int)) d = pathB g s d := by
  unfold reachZ
  rw [if_pos (by omega), Bool.eq_iff_iff, pathB_iff]
  exact bat_reachV hd
theorem order_len {g : GGraph} {s : Nat} (hs : s < 32) : (orderS (pathB g) s).length ≤ 32 := (orderS_ok (pathB_pre g) hs).len

/-! Ahead. -/
section
variable {g : GGraph} {fu N : Nat}
theorem graphAhead_l2_eq (hN : Small g N) (hfu : N + 82 ≤ fu) {placed : Vector Bool 32} {y : Int} {rec : Vector Bool 32 → Int → Option Bool} {m : Nat} (hm : m < 32) (hb : ∀ d, d < 32 → pathB g m d = true → bat placed d = true ∨ pathB g d m = true) : ∀ (q r k : Nat), k + r = 32 → r < q →
    graphAhead_l2 fu g placed y rec m (reachZ g (m : Int)) q k = rec (placed.set m true) (IntKind.wrap .i64 (y + 1))
  | 0, r, k, _, h => absurd h (by omega)
  | q + 1, 0, k, hk, _ => by
    rw [graphAhead_l2, bif_f (dec_f (by omega)), inR_ok (by omega) (by omega), some_bind, idxB hm, some_bind, setV_ok hm, some_bind, some_bind]
    rfl
  | q + 1, r + 1, k, hk, hq => by
    have hk32 : k < 32 := by omega
    have ih := graphAhead_l2_eq hN hfu (placed := placed) (y := y) (rec := rec) hm hb q r (k + 1) (by omega) (by omega)
    rw [graphAhead_l2, bif_t (dec_t (by omega)), idxB hk32, some_bind, reachZ_bat hm hk32]
    simp only [graphAhead_j5, graphAhead_j4, wrs k (by omega)]
    cases hp : pathB g m k with
    | false => rw [bif_f rfl, bif_f rfl]; exact ih
    | true =>
      rw [bif_t rfl, inR_ok (by omega) (by omega), some_bind, idxB hk32, some_bind]
      cases hpl : bat placed k with
      | true => rw [bif_f (c := !true) rfl, bif_f rfl]; exact ih
      | false =>
        rw [bif_t (c := !false) rfl, reachD_eq hN (by omega), some_bind, idxB hm, some_bind, reachZ_bat hk32 hm]
        rcases hb k hk32 hp with h | h
        · rw [hpl] at h; cases h
        · rw [h, bif_f (c := !true) rfl]; exact ih
theorem graphAhead_l1_eq (hN : Small g N) (hfu : N + 82 ≤ fu) {s : Nat} (hs : s < 32) : ∀ (q r k : Nat) (placed : Vector Bool 32), (orderS (pathB g) s).length = k + r → r < q → (∀ j, j < 32 → bat placed j = decide (j ∈ (orderS (pathB g) s).take k)) →
    graphAhead_l1 fu g (castL (orderS (pathB g) s)) (reachZ g (s : Int)) q placed k = some true
  | 0, r, k, _, _, h, _ => absurd h (by omega)
  | q + 1, 0, k, placed, hk, _, hP => by
    rw [graphAhead_l1, castL_len, bif_f (dec_f (by omega))]
    congr 1
    rw [decide_eq_true_eq]
    refine bat_ext fun j hj => ?_
    rw [hP j hj, reachZ_bat hs hj, List.take_of_length_le (by omega), Bool.eq_iff_iff, decide_eq_true_eq]
    exact orderS_mem (pathB_pre g) hs j
  | q + 1, r + 1, k, placed, hk, hq, hP => by
    have hlt : k < (orderS (pathB g) s).length := by omega
    have hlen := order_len (g := g) hs
    have hok := orderS_ok (pathB_pre g) hs
    have hget : (orderS (pathB g) s)[k]? = some (orderS (pathB g) s)[k] := by simp
    have hm32 := hok.lt _ (List.getElem_mem hlt)
    have hsub := hok.sub _ (List.getElem_mem hlt)
    have hbeh := fun d hd hp => orderS_behind (pathB_pre g) hs hget (d := d) hd hp
    have htake : (orderS (pathB g) s).take (k + 1) = (orderS (pathB g) s).take k ++ [(orderS (pathB g) s)[k]] := List.take_succ_eq_append_getElem hlt
    have hnot : (orderS (pathB g) s)[k] ∉ (orderS (pathB g) s).take k := by
      have h1 := hok.nodup
      have h2 : (orderS (pathB g) s).take (k + 1) <+: orderS (pathB g) s := List.take_prefix _ _
      have h3 := h1.sublist h2.sublist
      rw [htake, List.nodup_append] at h3
      intro hmem
      exact h3.2.2 _ hmem _ (by simp) rfl
    rw [graphAhead_l1, castL_len, bif_t (dec_t (by omega)), idx_nat]
    have hidx : (castL (orderS (pathB g) s))[k]? = some (((orderS (pathB g) s)[k] : Nat) : Int) := by simp [castL, hlt]
    rw [hidx, some_bind]
    have ih := fun placed h => graphAhead_l1_eq hN hfu hs q r (k + 1) placed (by omega) (by omega) h
    rw [htake] at ih
    generalize (orderS (pathB g) s)[k] = m at hm32 hsub hbeh hnot ih
    rw [bif_f (dec_f (by omega)), bif_f (dec_f (by omega)), inR_ok (by omega) (by omega), some_bind, idxB hm32, some_bind, hP m hm32, dec_f hnot, bif_f rfl, some_bind, idxB hm32, some_bind, reachZ_bat hs hm32, hsub, graphAhead_j6, bif_f (c := !true) rfl, graphAhead_j3, reachD_eq hN (by omega), some_bind, some_bind]
    have h2 := graphAhead_l2_eq hN hfu (placed := placed) (y := (k : Int)) (rec := graphAhead_l1 fu g (castL (orderS (pathB g) s)) (reachZ g (s : Int)) q) hm32 (fun d hd hp => by
      rcases hbeh d hd hp with h | h
      · exact .inr h
      · exact .inl (by rw [hP d hd]; exact dec_t h)) fu 32 0 (by omega) (by omega)
    have h2 : graphAhead_l2 fu g placed (k : Int) _ (m : Int) (reachZ g (m : Int)) fu 0 = _ := h2
    rw [h2, wrs k (by omega)]
    refine ih _ fun j hj => ?_
    rw [bat_set hm32, hP j hj]
    by_cases e : m = j
    · subst e; simp
    · have e2 : ¬ j = m := fun h => e h.symm
      simp [e, e2]
theorem graphAheadD_eq (hN : Small g N) (hf : N + 90 ≤ fu) (n : Int) : graphAheadD fu g n = some true := by
  unfold graphAheadD graphAhead_j7 graphAhead_j8 graphAhead_j1
  rw [gorderD_eq hN (by omega), some_bind, readyD_eq hN (by omega), some_bind, keepOrdersD_eq (by omega), some_bind, some_bind]
  cases hr : readyZ g n with
  | false => rw [orderZ_no hr]; rfl
  | true =>
    obtain ⟨s, hs, rfl⟩ := ready_nat hr
    rw [orderZ_ready hr, bif_f (c := !true) rfl, bif_f (c := !true) rfl, reachD_eq hN (by omega), some_bind, some_bind]
    exact graphAhead_l1_eq hN (by omega) hs fu (orderS (pathB g) s).length 0 (Zr.zd : Vector Bool 32) (by omega) (by have := order_len (g := g) hs; omega) fun j hj => by rw [bat_zero]; simp

/-! Parts. -/
theorem keepHas_l1_eq {l : List Int} {x : Int} (hl : l.length ≤ 1000) : ∀ (q r k : Nat), l.length = k + r → r < q → keepHas_l1 l x q k = some (decide (x ∈ l.drop k))
  | 0, r, k, _, h => absurd h (by omega)
  | q + 1, 0, k, hk, _ => by rw [keepHas_l1, bif_f (dec_f (by omega)), List.drop_of_length_le (by omega)]; simp
  | q + 1, r + 1, k, hk, hq => by
    have hlt : k < l.length := by omega
    rw [keepHas_l1, bif_t (dec_t (by omega)), idx_nat, List.getElem?_eq_getElem hlt, some_bind, drop_mem hlt, wrs k (by omega), keepHas_l1_eq hl q r (k + 1) (by omega) (by omega)]
    by_cases e : l[k] = x
    · rw [bif_t (by simp [e])]; simp [e]
    · rw [bif_f (by simp [e])]
      have e2 : ¬ x = l[k] := fun h => e h.symm
      congr 1
      rw [Bool.eq_iff_iff, decide_eq_true_eq, decide_eq_true_eq, List.mem_cons]
      simp only [e2, false_or]
theorem graphParts_l1_eq (hN : Small g N) (hfu : N + 90 ≤ fu) {s m : Nat} (hs : s < 32) (hm : m < 32) (hr : readyZ g (s : Int) = true) (hsm : pathB g s m = true) : ∀ (q r k : Nat), (orderS (pathB g) s).length = k + r → r < q →
    graphParts_l1 fu g m (castL (orderS (pathB g) s)) (reachZ g (m : Int)) q (castL (((orderS (pathB g) s).take k).filter (pathB g m))) k = some true
  | 0, r, k, _, h => absurd h (by omega)
  | q + 1, 0, k, hk, _ => by
    have hpre := pathB_pre g
    have hrm : readyZ g (m : Int) = true := by
      rw [readyZ_iff]
      refine ⟨by omega, fun j _ hj hb => ?_⟩
      rw [reachZ_bat hm hj] at hb
      exact readyZ_known hs hr j (hpre.trans _ _ _ hsm hb)
    rw [graphParts_l1, castL_len, bif_f (dec_f (by omega)), gorderD_eq hN (by omega), some_bind, orderZ_ready hrm, List.take_of_length_le (by omega), orderS_part hpre hs hm hsm]
    have hlen := order_len (g := g) hm
    rw [keepSameNumbersG_refl (by rw [castL_len]; omega) (by rw [castL_len]; omega), some_bind]
  | q + 1, r + 1, k, hk, hq => by
    have hlt : k < (orderS (pathB g) s).length := by omega
    have hlen := order_len (g := g) hs
    have hok := orderS_ok (pathB_pre g) hs
    have hm32 := hok.lt _ (List.getElem_mem hlt)
    have ih := graphParts_l1_eq hN hfu hs hm hr hsm q r (k + 1) (by omega) (by omega)
    have htake : (orderS (pathB g) s).take (k + 1) = (orderS (pathB g) s).take k ++ [(orderS (pathB g) s)[k]] := List.take_succ_eq_append_getElem hlt
    rw [htake, List.filter_append] at ih
    have hidx : (castL (orderS (pathB g) s))[k]? = some (((orderS (pathB g) s)[k] : Nat) : Int) := by simp [castL, hlt]
    have hfl : (((orderS (pathB g) s).take k).filter (pathB g m)).length ≤ 32 := by
      have h1 := List.length_filter_le (pathB g m) ((orderS (pathB g) s).take k)
      have h2 := List.length_take_le k (orderS (pathB g) s)
      rw [List.length_take] at h1
      omega
    rw [graphParts_l1, castL_len, bif_t (dec_t (by omega)), idx_nat, hidx, some_bind]
    generalize (orderS (pathB g) s)[k] = x at hm32 ih
    rw [bif_t (dec_t (by omega)), bif_t (dec_t (by omega)), inR_ok (by omega) (by omega), some_bind, idxB hm32, some_bind, reachZ_bat hm hm32]
    simp only [graphParts_j3, graphParts_j2, wrs k (show k ≤ 17592186043904 by omega)]
    cases hp : pathB g m x with
    | true =>
      rw [bif_t rfl, app_ok (a := castL _) (b := [(x : Int)]) (len_bytes (show (castL (((orderS (pathB g) s).take k).filter (pathB g m))).length ≤ 100 by rw [castL_len]; omega)), some_bind, castL_snoc]
      rw [List.filter_cons_of_pos hp, List.filter_nil] at ih
      exact ih
    | false =>
      rw [bif_f rfl]
      rw [List.filter_cons_of_neg (by simp [hp]), List.filter_nil, List.append_nil] at ih
      exact ih
theorem graphPartsD_eq (hN : Small g N) (hf : N + 90 ≤ fu) (n m : Int) : graphPartsD fu g n m = some true := by
  unfold graphPartsD graphParts_j4 graphParts_j1
  rw [gorderD_eq hN (by omega), some_bind, readyD_eq hN (by omega), some_bind, keepOrdersD_eq (by omega)]
  simp only [some_bind]
  cases hr : readyZ g n with
  | false => rfl
  | true =>
    obtain ⟨s, hs, rfl⟩ := ready_nat hr
    have hlen := order_len (g := g) hs
    have hhas := keepHas_l1_eq (l := castL (orderS (pathB g) s)) (x := m) (by rw [castL_len]; omega) fu (orderS (pathB g) s).length 0 (by rw [castL_len]; omega) (by omega)
    have hhas : keepHasD fu (castL (orderS (pathB g) s)) m = _ := hhas
    rw [orderZ_ready hr, bif_f (c := !true) rfl, hhas, some_bind, List.drop_zero]
    by_cases hm : m ∈ castL (orderS (pathB g) s)
    · rw [dec_t hm, bif_f (c := !true) rfl, bif_f (c := !true) rfl]
      obtain ⟨a, ha, rfl⟩ : ∃ a : Nat, a ∈ orderS (pathB g) s ∧ m = (a : Int) := by
        unfold castL at hm
        obtain ⟨a, h1, h2⟩ := List.mem_map.1 hm
        exact ⟨a, h1, h2.symm⟩
      have hok := orderS_ok (pathB_pre g) hs
      rw [reachD_eq hN (by omega), some_bind]
      have := graphParts_l1_eq hN hf hs (hok.lt a ha) hr (hok.sub a ha) fu (orderS (pathB g) s).length 0 (by omega) (by omega)
      exact this
    · rw [dec_f hm]; rfl

/-! Stays. -/
end
theorem graphStaysD_eq {g : GGraph} {N : Nat} (hN : Small g N) {l : List Int} (hl : l.length * 8 ≤ 140737488351232) {fu : Nat} (hf : N + l.length + 100 ≤ fu) (n m : Int) : graphStaysD fu g n m l = some true := by
  unfold graphStaysD graphStays_j3
  have hk := keepOrdersD_eq (fu := fu) (by omega)
  by_cases h0 : m < 0
  · rw [bif_t (dec_t h0), bif_t rfl, hk, some_bind]
  · by_cases h1 : m ≥ 32
    · rw [bif_f (dec_f h0), bif_t (dec_t h1), bif_t rfl, hk, some_bind]
    · obtain ⟨a, ha, rfl⟩ : ∃ a : Nat, a < 32 ∧ m = a := ⟨m.toNat, by omega, by omega⟩
      rw [bif_f (dec_f h0), bif_f (dec_f h1), readyD_eq hN (by omega), some_bind]
      cases hr : readyZ g n with
      | false => rw [bif_t (c := !false) rfl, bif_t rfl, hk, some_bind]
      | true =>
        obtain ⟨s, hs, rfl⟩ := ready_nat hr
        rw [bif_f (c := !true) rfl, reachD_eq hN (by omega), some_bind, idxB ha, some_bind, reachZ_bat hs ha]
        cases hp : pathB g s a with
        | true => rw [bif_t rfl, hk, some_bind]
        | false =>
          rw [bif_f rfl]
          unfold graphStays_j1 graphStays_j2
          rw [some_bind, inR_ok (by omega) (by omega), some_bind, idxB ha, some_bind, setV_ok ha, some_bind, some_bind, some_bind, idxV_ok ha, some_bind, setV_ok ha, some_bind, some_bind]
          generalize hh : ({ known := g.known.set a true, deps := g.deps.set a l } : GGraph) = h
          have hd : ∀ b, depsAt h b = if b = a then l else depsAt g b := fun b => by
            rw [← hh]
            unfold depsAt
            by_cases hb : b < 32
            · rw [dif_pos hb, dif_pos hb]
              show (g.deps.set a l)[b] = _
              rw [Vector.getElem_set]
              by_cases e : a = b
              · subst e; simp
              · have e2 : ¬ b = a := fun h => e h.symm
                simp [e, e2]
            · rw [dif_neg hb, dif_neg hb, if_neg (by omega)]
          have hkn : ∀ b, bat h.known b = if a = b then true else bat g.known b := fun b => by
            rw [← hh]; exact bat_set ha
          have hS : Small h (N + l.length + 1) := fun b => by
            rw [hd b]
            have := hN b
            split
            · exact ⟨by omega, by omega⟩
            · exact ⟨by omega, this.2⟩
          have hE : ∀ x y, x ≠ a → (Edge h x y ↔ Edge g x y) := fun x y hx => by
            unfold Edge
            rw [hd x, hkn x, if_neg hx, if_neg (fun e => hx e.symm)]
          have hpre := pathB_pre g
          have hne : ∀ x, pathB g s x = true → x ≠ a := fun x hx e => by subst e; rw [hp] at hx; cases hx
          have hpath : ∀ x, pathB g s x = true → ∀ y, pathB h x y = pathB g x y := by
            intro x hx y
            rw [Bool.eq_iff_iff, pathB_iff, pathB_iff]
            constructor
            · intro hxy
              induction hxy with
              | refl => exact .refl _
              | tail p e ih => exact ih.tail ((hE _ _ (hne _ (hpre.trans _ _ _ hx (pathB_iff.2 ih)))).1 e)
            · intro hxy
              induction hxy with
              | refl => exact .refl _
              | tail p e ih => exact ih.tail ((hE _ _ (hne _ (hpre.trans _ _ _ hx (pathB_iff.2 p)))).2 e)
          have hself := hpre.refl s hs
          have hrh : readyZ h (s : Int) = true := by
            rw [readyZ_iff]
            refine ⟨by omega, fun j _ hj hb => ?_⟩
            rw [reachZ_bat hs hj, hpath s hself] at hb
            rw [hkn j]
            split
            · rfl
            · exact readyZ_known hs hr j hb
          have hord : orderZ h (s : Int) = orderZ g (s : Int) := by
            rw [orderZ_ready hrh, orderZ_ready hr]
            unfold orderS
            rw [orderF_congr hpre hs (hpath s hself) hpath]
          rw [readyD_eq hS (by omega), some_bind, hrh, bif_t rfl, gorderD_eq hS (by omega), some_bind, gorderD_eq hN (by omega), some_bind, hord]
          have hlen := order_len (g := g) hs
          rw [keepSameNumbersG_refl (by rw [orderZ_ready hr, castL_len]; omega) (by rw [orderZ_ready hr, castL_len]; omega), some_bind, bif_t rfl, hk, some_bind]
end Go.Proofs.Ytnfdgjdnlikepab
