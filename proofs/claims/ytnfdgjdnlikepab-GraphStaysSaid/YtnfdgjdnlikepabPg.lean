/- What Reach and Ready of graph and their references compute: the same, at every graph. -/
import Derived.Test.YtnfdgjdnlikepabEe
import Derived.Test.YtnfdgjdnlikepabGo
import Derived.Test.YtnfdgjdnlikepabPa
namespace Go.Proofs.Ytnfdgjdnlikepab
open Go.RowKit
open Rep (rep)

/-! Vectors by natural numbers. -/
section
variable {α : Type} {n : Nat} {v : Vector α n} {k : Nat}
theorem idxV_ok (hk : k < n) : idxV v (k : Int) = some v[k] := by
  unfold idxV
  rw [if_pos (Int.natCast_nonneg k)]
  simp [hk]
theorem setV_ok {x : α} (hk : k < n) : setV v (k : Int) x = some (v.set k x) := by
  unfold setV
  rw [if_pos ⟨Int.natCast_nonneg k, by omega⟩]
  congr 1
  refine Vector.ext fun j hj => ?_
  simp [Vector.getElem_setIfInBounds, Vector.getElem_set]
end
def bat (v : Vector Bool 32) (k : Nat) : Bool := v[k]?.getD false
theorem bat_lt {v : Vector Bool 32} {k : Nat} (hk : k < 32) : v[k] = bat v k := by simp [bat, hk]
theorem idxB {v : Vector Bool 32} {k : Nat} (hk : k < 32) : idxV v (k : Int) = some (bat v k) := by rw [idxV_ok hk, bat_lt hk]
theorem bat_set {v : Vector Bool 32} {k j : Nat} {x : Bool} (hk : k < 32) : bat (v.set k x) j = if k = j then x else bat v j := by
  unfold bat
  by_cases hj : j < 32
  · simp only [Vector.getElem?_set]
    by_cases e : k = j
    · subst e; simp
    · simp [e]
  · have hkj : k ≠ j := by omega
    simp [hj, hkj]
theorem bat_ext {v u : Vector Bool 32} (h : ∀ k, k < 32 → bat v k = bat u k) : v = u := by
  refine Vector.ext fun k hk => ?_
  rw [bat_lt hk, bat_lt hk]
  exact h k hk
theorem bat_zero (k : Nat) : bat (Zr.zd : Vector Bool 32) k = false := by
  show bat (Vector.replicate 32 false) k = false
  unfold bat
  by_cases hk : k < 32 <;> simp [hk]
def cz (v : Vector Bool 32) : Nat := (List.range 32).countP fun k => !bat v k
theorem cz_set {v : Vector Bool 32} {k : Nat} (hk : k < 32) (h : bat v k = false) : cz v = cz (v.set k true) + 1 := by
  unfold cz
  refine countP_turn (n := k) (by simp [h]) (by rw [bat_set hk, if_pos rfl]; rfl) (fun j hj => ?_) _ List.nodup_range (List.mem_range.2 hk)
  rw [bat_set hk, if_neg (fun e => hj e.symm)]
theorem cz_le (v : Vector Bool 32) : cz v ≤ 32 := by
  unfold cz
  have := List.countP_le_length (p := fun k => !bat v k) (l := List.range 32)
  rw [List.length_range] at this
  exact this
theorem cz_mono {v u : Vector Bool 32} (h : ∀ k, bat v k = true → bat u k = true) : cz u ≤ cz v := by
  unfold cz
  refine countP_le (fun k hk => ?_) _
  cases hv : bat v k with
  | false => rfl
  | true => rw [h k hv] at hk; cases hk

/-! Graphs. -/
def depsAt (g : GGraph) (a : Nat) : List Int := if h : a < 32 then g.deps[a] else []
theorem idxD {g : GGraph} {a : Nat} (h : a < 32) : idxV g.deps (a : Int) = some (depsAt g a) := by rw [idxV_ok h]; simp [depsAt, h]
/-- The next one: known, and a number there is. -/
def Edge (g : GGraph) (a b : Nat) : Prop := a < 32 ∧ bat g.known a = true ∧ (b : Int) ∈ depsAt g a ∧ b < 32
def Small (g : GGraph) (N : Nat) : Prop := ∀ a, (depsAt g a).length < N ∧ (depsAt g a).length ≤ 17592186043904
theorem path_lt {g : GGraph} {a b : Nat} (h : Path (Edge g) a b) (ha : a < 32) : b < 32 := by
  cases h with
  | refl => exact ha
  | tail _ e => exact e.2.2.2

theorem len_bytes {l : List Int} (h : l.length ≤ 100) : (l.length + 1) * Rep.bytes Int ≤ 140737488351232 := by
  have : Rep.bytes Int = 8 := rfl
  rw [this]; omega
theorem wrs (k : Nat) (h : k ≤ 17592186043904) : IntKind.wrap .i64 ((k : Int) + 1) = ((k + 1 : Nat) : Int) := by rw [wr64 (by omega) (by omega)]; omega
theorem int_cases (x : Int) : (∃ b : Nat, b < 32 ∧ x = b) ∨ ¬ (0 ≤ x ∧ x < 32) := by
  by_cases h : 0 ≤ x ∧ x < 32
  · exact .inl ⟨x.toNat, by omega, by omega⟩
  · exact .inr h
theorem drop_mem {α : Type} {l : List α} {k : Nat} (hk : k < l.length) : l.drop k = l[k] :: l.drop (k + 1) := List.drop_eq_getElem_cons hk

/-! Reach, by what is to be looked at. -/
/-- What the loop over what one hangs on leaves. -/
structure Fed (ds : List Int) (d : Vector Bool 32) (l : List Int) (d' : Vector Bool 32) (l' : List Int) : Prop where
  keep : ∀ k, bat d k = true → bat d' k = true
  all : ∀ b : Nat, b < 32 → (b : Int) ∈ ds → bat d' b = true
  only : ∀ k, bat d' k = true → bat d k = true ∨ ((k : Int) ∈ ds ∧ (k : Int) ∈ l')
  old : ∀ x, x ∈ l → x ∈ l'
  new : ∀ x, x ∈ l' → x ∈ l ∨ ∃ b : Nat, b < 32 ∧ x = b ∧ (b : Int) ∈ ds ∧ bat d' b = true
  cnt : l'.length + cz d' = l.length + cz d
theorem Fed.refl {d : Vector Bool 32} {l : List Int} : Fed [] d l d l := ⟨fun _ h => h, fun _ _ h => by simp at h, fun _ h => .inl h, fun _ h => h, fun _ h => .inl h, rfl⟩
theorem Fed.skip {x : Int} {ds : List Int} {d d' : Vector Bool 32} {l l' : List Int} (hx : ∀ b : Nat, b < 32 → x = b → bat d b = true) (h : Fed ds d l d' l') : Fed (x :: ds) d l d' l' := by
  refine ⟨h.keep, fun b hb hm => ?_, fun k hk => ?_, h.old, fun y hy => ?_, h.cnt⟩
  · rcases List.mem_cons.1 hm with e | hm
    · exact h.keep b (hx b hb e.symm)
    · exact h.all b hb hm
  · rcases h.only k hk with h1 | h1
    · exact .inl h1
    · exact .inr ⟨List.mem_cons_of_mem _ h1.1, h1.2⟩
  · rcases h.new y hy with h1 | ⟨b, h1, h2, h3, h4⟩
    · exact .inl h1
    · exact .inr ⟨b, h1, h2, List.mem_cons_of_mem _ h3, h4⟩
theorem Fed.push {a : Nat} {ds : List Int} {d d' : Vector Bool 32} {l l' : List Int} (ha : a < 32) (hd : bat d a = false) (h : Fed ds (d.set a true) (l ++ [(a : Int)]) d' l') : Fed ((a : Int) :: ds) d l d' l' := by
  have hset : bat (d.set a true) a = true := by rw [bat_set ha, if_pos rfl]
  refine ⟨fun k hk => h.keep k (by rw [bat_set ha]; split <;> simp [hk]), fun b hb hm => ?_, fun k hk => ?_, fun y hy => h.old y (List.mem_append_left _ hy), fun y hy => ?_, ?_⟩
  · rcases List.mem_cons.1 hm with e | hm
    · have : b = a := by omega
      subst this
      exact h.keep b hset
    · exact h.all b hb hm
  · rcases h.only k hk with h1 | h1
    · rw [bat_set ha] at h1
      by_cases e : a = k
      · subst e
        exact .inr ⟨List.mem_cons_self, h.old _ (by simp)⟩
      · rw [if_neg e] at h1
        exact .inl h1
    · exact .inr ⟨List.mem_cons_of_mem _ h1.1, h1.2⟩
  · rcases h.new y hy with h1 | ⟨b, h1, h2, h3, h4⟩
    · rcases List.mem_append.1 h1 with h1 | h1
      · exact .inl h1
      · rw [List.mem_singleton] at h1
        exact .inr ⟨a, ha, h1, List.mem_cons_self, h.keep a hset⟩
    · exact .inr ⟨b, h1, h2, List.mem_cons_of_mem _ h3, h4⟩
  · have h1 := h.cnt
    have h2 := cz_set ha hd
    rw [List.length_append] at h1
    simp only [List.length_cons, List.length_nil] at h1
    omega

theorem reach_l2_eq {rec : Vector Bool 32 → List Int → Option (Vector Bool 32)} {ds : List Int} (hds : ds.length ≤ 17592186043904) : ∀ (n m k : Nat) (d : Vector Bool 32) (l : List Int), ds.length = k + m → m < n → l.length + cz d ≤ 100 →
    ∃ d' l', reach_l2 rec ds n d l k = rec d' l' ∧ Fed (ds.drop k) d l d' l'
  | 0, m, k, d, l, _, h, _ => absurd h (by omega)
  | n + 1, 0, k, d, l, hk, _, _ => ⟨d, l, by rw [reach_l2, bif_f (dec_f (by omega))], by rw [List.drop_of_length_le (by omega)]; exact Fed.refl⟩
  | n + 1, m + 1, k, d, l, hk, hn, hl => by
    have hlt : k < ds.length := by omega
    have ih := fun d l h => reach_l2_eq (rec := rec) hds n m (k + 1) d l (by omega) (by omega) h
    rw [reach_l2, bif_t (dec_t (by omega)), idx_nat, List.getElem?_eq_getElem hlt, some_bind, drop_mem hlt]
    simp only [reach_j3, reach_j2, wrs k (by omega)]
    generalize ds[k] = x
    rcases int_cases x with ⟨b, hb, rfl⟩ | hx
    · rw [bif_t (dec_t (by omega)), bif_t (dec_t (by omega)), inR_ok (by omega) (by omega), some_bind, idxB hb, some_bind]
      cases hd : bat d b with
      | true =>
        obtain ⟨d', l', h1, h2⟩ := ih d l hl
        exact ⟨d', l', by rw [← h1]; rfl, h2.skip fun c _ e => (show c = b by omega) ▸ hd⟩
      | false =>
        have hc := cz_set hb hd
        obtain ⟨d', l', h1, h2⟩ := ih (d.set b true) (l ++ [(b : Int)]) (by simp; omega)
        refine ⟨d', l', ?_, h2.push hb hd⟩
        simp only [Bool.not_false, cond_true, some_bind, setV_ok hb, app_ok (a := l) (b := [(b : Int)]) (len_bytes (show l.length ≤ 100 by omega))]
        exact h1
    · obtain ⟨d', l', h1, h2⟩ := ih d l hl
      refine ⟨d', l', ?_, h2.skip fun c hc e => absurd (show 0 ≤ x ∧ x < 32 by omega) hx⟩
      by_cases h0 : x ≥ 0
      · rw [bif_t (dec_t h0), bif_f (dec_f (by omega))]; exact h1
      · rw [bif_f (dec_f h0)]; exact h1

/-- Where Reach stands. -/
structure Going (g : GGraph) (s : Nat) (d : Vector Bool 32) (l : List Int) : Prop where
  first : bat d s = true
  path : ∀ k, bat d k = true → Path (Edge g) s k
  work : ∀ x ∈ l, ∃ b : Nat, b < 32 ∧ x = b ∧ bat d b = true
  closed : ∀ a b, bat d a = true → (a : Int) ∉ l → Edge g a b → bat d b = true
theorem Going.fin {g : GGraph} {s : Nat} {d : Vector Bool 32} (h : Going g s d []) (k : Nat) : bat d k = true ↔ Path (Edge g) s k :=
  ⟨h.path k, fun hp => Path.closed (S := fun a => bat d a = true) (fun a b ha he => h.closed a b ha (by simp) he) hp h.first⟩
open Classical in
noncomputable def reachV (g : GGraph) (s : Nat) : Vector Bool 32 := Vector.ofFn fun k => decide (Path (Edge g) s k.val)
theorem bat_reachV {g : GGraph} {s k : Nat} (hk : k < 32) : bat (reachV g s) k = true ↔ Path (Edge g) s k := by
  unfold bat reachV
  simp [hk]
theorem reachV_of {g : GGraph} {s : Nat} {d : Vector Bool 32} (h : ∀ k, bat d k = true ↔ Path (Edge g) s k) : d = reachV g s := by
  refine bat_ext fun k hk => ?_
  rw [Bool.eq_iff_iff, h, bat_reachV hk]

theorem cutL_pop {l : List Int} (h : 0 < l.length) : cutL l none (some ((l.length : Int) - 1)) = some l.dropLast := by
  unfold cutL cutOk
  simp only [Option.getD_none, Option.getD_some]
  rw [if_pos (by omega)]
  simp only [Option.map_some, Option.some.injEq]
  rw [List.dropLast_eq_take, show ((0 : Int)).toNat = 0 from rfl, List.drop_zero]
  congr 1
  omega

theorem reach_l1_eq {fu N : Nat} {g : GGraph} (hg : Small g N) (hf : N ≤ fu) {s : Nat} : ∀ (n : Nat) (d : Vector Bool 32) (l : List Int), Going g s d l → l.length + cz d < n → l.length + cz d ≤ 100 → reach_l1 fu g n d l = some (reachV g s)
  | 0, d, l, _, h, _ => absurd h (by omega)
  | n + 1, d, l, hG, hn, hl => by
    rw [reach_l1]
    by_cases h0 : l.length = 0
    · have : l = [] := List.length_eq_zero_iff.1 h0
      subst this
      rw [bif_f (dec_f (by simp)), some_bind, reachV_of hG.fin]
    · rw [bif_t (dec_t (by omega)), wr64 (by omega) (by omega), show ((l.length : Int) - 1) = ((l.length - 1 : Nat) : Int) from by omega, idx_nat, List.getElem?_eq_getElem (by omega), some_bind,
        show (((l.length - 1 : Nat) : Int)) = (l.length : Int) - 1 from by omega, cutL_pop (by omega), some_bind]
      have hlast : l = l.dropLast ++ [l[l.length - 1]] := by
        have h1 := List.dropLast_concat_getLast (l := l) (by rintro rfl; simp at h0)
        rw [List.getLast_eq_getElem] at h1
        exact h1.symm
      obtain ⟨m, hm, hx, hdm⟩ := hG.work l[l.length - 1] (List.getElem_mem _)
      rw [hx] at hlast ⊢
      generalize hl2 : l.dropLast = l2 at hlast ⊢
      have hlen : l.length = l2.length + 1 := by rw [hlast]; simp
      have hmem : ∀ x, x ∈ l → x ∈ l2 ∨ x = m := fun x hx => by
        rw [hlast] at hx
        rcases List.mem_append.1 hx with h | h
        · exact .inl h
        · exact .inr (by simpa using h)
      have hsub : ∀ x, x ∈ l2 → x ∈ l := fun x hx => by rw [hlast]; exact List.mem_append_left _ hx
      rw [inR_ok (by omega) (by omega), some_bind, idxB hm, some_bind]
      cases hk : bat g.known m with
      | false =>
        rw [bif_t (by rfl)]
        refine reach_l1_eq hg hf n d l2 ⟨hG.first, hG.path, fun x hx => hG.work x (hsub x hx), fun a b ha hno he => ?_⟩ (by omega) (by omega)
        by_cases e : a = m
        · subst e; rw [he.2.1] at hk; cases hk
        · refine hG.closed a b ha (fun hal => ?_) he
          rcases hmem _ hal with h1 | h1
          · exact hno h1
          · omega
      | true =>
        rw [bif_f (by rfl), some_bind, idxD hm, some_bind]
        obtain ⟨d', l', h1, h2⟩ := reach_l2_eq (rec := reach_l1 fu g n) (hg m).2 fu (depsAt g m).length 0 d l2 (by omega) (by have := (hg m).1; omega) (by omega)
        have h1 : reach_l2 (reach_l1 fu g n) (depsAt g m) fu d l2 0 = reach_l1 fu g n d' l' := h1
        rw [h1]
        rw [List.drop_zero] at h2
        have hc := h2.cnt
        refine reach_l1_eq hg hf n d' l' ⟨h2.keep _ hG.first, fun k hk' => ?_, fun x hx => ?_, fun a b ha hno he => ?_⟩ (by omega) (by omega)
        · rcases h2.only k hk' with h3 | ⟨h3, h4⟩
          · exact hG.path k h3
          · rcases h2.new k h4 with h5 | ⟨b, hb, e, _, _⟩
            · obtain ⟨b, hb, e, hd⟩ := hG.work _ (hsub _ h5)
              have : k = b := by omega
              subst this
              exact hG.path k hd
            · have : k = b := by omega
              subst this
              exact .tail (hG.path m hdm) ⟨hm, hk, h3, hb⟩
        · rcases h2.new x hx with h3 | ⟨b, hb, e, _, hd⟩
          · obtain ⟨b, hb, e, hd⟩ := hG.work x (hsub x h3)
            exact ⟨b, hb, e, h2.keep b hd⟩
          · exact ⟨b, hb, e, hd⟩
        · by_cases e : a = m
          · subst e; exact h2.all b he.2.2.2 he.2.2.1
          · rcases h2.only a ha with h3 | ⟨_, h3⟩
            · refine h2.keep b (hG.closed a b h3 (fun hal => ?_) he)
              rcases hmem _ hal with h4 | h4
              · exact hno (h2.old _ h4)
              · omega
            · exact absurd h3 hno

/-- What is reached; of a number that there is not, nothing. -/
noncomputable def reachZ (g : GGraph) (x : Int) : Vector Bool 32 := if 0 ≤ x ∧ x < 32 then reachV g x.toNat else Zr.zd
theorem start_going (g : GGraph) {s : Nat} (hs : s < 32) : Going g s ((Zr.zd : Vector Bool 32).set s true) [(s : Int)] := by
  have h1 : ∀ k, bat ((Zr.zd : Vector Bool 32).set s true) k = true ↔ s = k := fun k => by
    rw [bat_set hs, bat_zero]
    by_cases e : s = k <;> simp [e]
  refine ⟨(h1 s).2 rfl, fun k hk => ?_, fun x hx => ?_, fun a b ha hno he => ?_⟩
  · rw [(h1 k).1 hk]; exact .refl _
  · exact ⟨s, hs, by simpa using hx, (h1 s).2 rfl⟩
  · have := (h1 a).1 ha
    subst this
    exact absurd (by simp) hno
theorem reachD_eq {fu N : Nat} {g : GGraph} (hg : Small g N) (hf : N + 40 ≤ fu) (x : Int) : reachD fu g x = some (reachZ g x) := by
  unfold reachD reachZ
  rcases int_cases x with ⟨s, hs, rfl⟩ | hx
  · rw [bif_f (dec_f (by omega)), reach_j4, bif_f (dec_f (by omega)), if_pos (by omega), reach_j1, inR_ok (by omega) (by omega), some_bind, idxB hs, some_bind, setV_ok hs, some_bind, some_bind]
    have hc := cz_le ((Zr.zd : Vector Bool 32).set s true)
    exact reach_l1_eq hg (by omega) fu _ _ (start_going g hs) (by simp; omega) (by simp; omega)
  · rw [if_neg hx]
    by_cases h0 : x < 0
    · rw [bif_t (dec_t h0)]; rfl
    · rw [bif_f (dec_f h0), reach_j4, bif_t (dec_t (by omega))]; rfl

/-! The reference: till nothing is new. -/
structure Grown (ds : List Int) (d : Vector Bool 32) (c : Bool) (d' : Vector Bool 32) (c' : Bool) : Prop where
  keep : ∀ k, bat d k = true → bat d' k = true
  all : ∀ b : Nat, b < 32 → (b : Int) ∈ ds → bat d' b = true
  only : ∀ k, bat d' k = true → bat d k = true ∨ ((k : Int) ∈ ds ∧ k < 32)
  same : c' = false → c = false ∧ d' = d
  less : c' = true → c = true ∨ cz d' < cz d
theorem Grown.cz {ds : List Int} {d d' : Vector Bool 32} {c c' : Bool} (h : Grown ds d c d' c') : cz d' ≤ cz d := cz_mono h.keep
theorem reaches_l3_eq {y : Int} {rec : Vector Bool 32 → Bool → Int → Option (Vector Bool 32)} {ds : List Int} (hds : ds.length ≤ 17592186043904) : ∀ (n m k : Nat) (d : Vector Bool 32) (c : Bool), ds.length = k + m → m < n →
    ∃ d' c', reaches_l3 y rec ds n d c k = rec d' c' (IntKind.wrap .i64 (y + 1)) ∧ Grown (ds.drop k) d c d' c'
  | 0, m, k, d, c, _, h => absurd h (by omega)
  | n + 1, 0, k, d, c, hk, _ => ⟨d, c, by rw [reaches_l3, bif_f (dec_f (by omega))]; rfl, by
      rw [List.drop_of_length_le (by omega)]
      exact ⟨fun _ h => h, fun _ _ h => by simp at h, fun _ h => .inl h, fun h => ⟨h, rfl⟩, fun h => .inl h⟩⟩
  | n + 1, m + 1, k, d, c, hk, hn => by
    have hlt : k < ds.length := by omega
    have ih := fun d c => reaches_l3_eq (y := y) (rec := rec) hds n m (k + 1) d c (by omega) (by omega)
    rw [reaches_l3, bif_t (dec_t (by omega)), idx_nat, List.getElem?_eq_getElem hlt, some_bind, some_bind, drop_mem hlt]
    simp only [reaches_j4, reaches_j3, wrs k (by omega)]
    generalize ds[k] = x
    have skip : ∀ {d' c'}, (∀ b : Nat, b < 32 → x = b → bat d b = true) → Grown (ds.drop (k + 1)) d c d' c' → Grown (x :: ds.drop (k + 1)) d c d' c' := fun {d' c'} hx h2 =>
      ⟨h2.keep, fun b hb hm => by
        rcases List.mem_cons.1 hm with e | hm
        · exact h2.keep b (hx b hb e.symm)
        · exact h2.all b hb hm, fun j hj => by
        rcases h2.only j hj with h | h
        · exact .inl h
        · exact .inr ⟨List.mem_cons_of_mem _ h.1, h.2⟩, h2.same, h2.less⟩
    rcases int_cases x with ⟨b, hb, rfl⟩ | hx
    · rw [bif_t (dec_t (by omega)), inR_ok (by omega) (by omega), some_bind, idxB hb, some_bind]
      cases hd : bat d b with
      | true =>
        obtain ⟨d', c', h1, h2⟩ := ih d c
        exact ⟨d', c', by rw [← h1]; rfl, skip (fun a _ e => (show a = b by omega) ▸ hd) h2⟩
      | false =>
        obtain ⟨d', c', h1, h2⟩ := ih (d.set b true) true
        have hset : bat (d.set b true) b = true := by rw [bat_set hb, if_pos rfl]
        have hcz := cz_set hb hd
        have hcz2 := h2.cz
        refine ⟨d', c', ?_, ⟨fun j hj => h2.keep j (by rw [bat_set hb]; split <;> simp [hj]), fun a ha hm => ?_, fun j hj => ?_, fun hc => ?_, fun _ => .inr (by omega)⟩⟩
        · simp only [Bool.not_false, cond_true, some_bind, setV_ok hb]
          exact h1
        · rcases List.mem_cons.1 hm with e | hm
          · have : a = b := by omega
            subst this
            exact h2.keep a hset
          · exact h2.all a ha hm
        · rcases h2.only j hj with h | h
          · rw [bat_set hb] at h
            by_cases e : b = j
            · subst e; exact .inr ⟨List.mem_cons_self, hb⟩
            · rw [if_neg e] at h; exact .inl h
          · exact .inr ⟨List.mem_cons_of_mem _ h.1, h.2⟩
        · have := (h2.same hc).1; cases this
    · obtain ⟨d', c', h1, h2⟩ := ih d c
      refine ⟨d', c', ?_, skip (fun a ha e => absurd (show 0 ≤ x ∧ x < 32 by omega) hx) h2⟩
      rw [bif_f (dec_f hx)]; exact h1

/-- A pass over all. -/
structure Pass (g : GGraph) (s : Nat) (k : Nat) (d0 d : Vector Bool 32) (c : Bool) : Prop where
  keep : ∀ j, bat d0 j = true → bat d j = true
  path : ∀ j, bat d j = true → Path (Edge g) s j
  same : c = false → d = d0 ∧ ∀ a b, a < k → bat d0 a = true → Edge g a b → bat d0 b = true
  less : c = true → cz d < cz d0
theorem reaches_l2_eq {fu N : Nat} {g : GGraph} (hg : Small g N) (hf : N ≤ fu) {s : Nat} {rec : Vector Bool 32 → Bool → Option (Vector Bool 32)} {d0 : Vector Bool 32} : ∀ (n m k : Nat) (d : Vector Bool 32) (c : Bool), k + m = 32 → m < n → Pass g s k d0 d c →
    ∃ d' c', reaches_l2 fu g rec n d c k = rec d' c' ∧ Pass g s 32 d0 d' c'
  | 0, m, k, d, c, _, h, _ => absurd h (by omega)
  | n + 1, 0, k, d, c, hk, _, hp => ⟨d, c, by rw [reaches_l2, bif_f (dec_f (by omega))], by rw [show (32 : Nat) = k from by omega]; exact hp⟩
  | n + 1, m + 1, k, d, c, hk, hn, hp => by
    have hk32 : k < 32 := by omega
    have ih := fun d c => reaches_l2_eq (s := s) hg hf (rec := rec) (d0 := d0) n m (k + 1) d c (by omega) (by omega)
    have stay : (bat d k = true → bat g.known k = true → False) → Pass g s (k + 1) d0 d c := fun hno =>
      ⟨hp.keep, hp.path, fun hc => ⟨(hp.same hc).1, fun a b ha h0 he => by
        by_cases e : a = k
        · subst e
          exact (hno (hp.keep a h0) he.2.1).elim
        · exact (hp.same hc).2 a b (by omega) h0 he⟩, hp.less⟩
    rw [reaches_l2, bif_t (dec_t (by omega)), inR_ok (by omega) (by omega), some_bind, idxB hk32, some_bind]
    cases hd : bat d k with
    | false =>
      obtain ⟨d', c', h1, h2⟩ := ih d c (stay fun h => by rw [hd] at h; cases h)
      refine ⟨d', c', ?_, h2⟩
      simp only [Bool.not_false, cond_true, reaches_j5, reaches_j1, wrs k (by omega)]
      exact h1
    | true =>
      rw [bif_f (by rfl), some_bind, idxB hk32, some_bind]
      cases hkn : bat g.known k with
      | false =>
        obtain ⟨d', c', h1, h2⟩ := ih d c (stay fun _ h => by rw [hkn] at h; cases h)
        refine ⟨d', c', ?_, h2⟩
        simp only [Bool.not_false, cond_true, reaches_j5, reaches_j1, wrs k (by omega)]
        exact h1
      | true =>
        obtain ⟨d1, c1, h1, h2⟩ := reaches_l3_eq (y := (k : Int)) (rec := reaches_l2 fu g rec n) (hg k).2 fu (depsAt g k).length 0 d c (by omega) (by have := (hg k).1; omega)
        have h1 : reaches_l3 (k : Int) (reaches_l2 fu g rec n) (depsAt g k) fu d c 0 = _ := h1
        rw [List.drop_zero] at h2
        have hpass : Pass g s (k + 1) d0 d1 c1 := by
          refine ⟨fun j hj => h2.keep j (hp.keep j hj), fun j hj => ?_, fun hc => ?_, fun hc => ?_⟩
          · rcases h2.only j hj with h | h
            · exact hp.path j h
            · exact .tail (hp.path k hd) ⟨hk32, hkn, h.1, h.2⟩
          · obtain ⟨hc0, hdd⟩ := h2.same hc
            obtain ⟨e0, hcl⟩ := hp.same hc0
            refine ⟨hdd.trans e0, fun a b ha h0 he => ?_⟩
            by_cases e : a = k
            · subst e
              have := h2.all b he.2.2.2 he.2.2.1
              rw [hdd, e0] at this
              exact this
            · exact hcl a b (by omega) h0 he
          · rcases h2.less hc with h | h
            · have h3 := hp.less h
              have h4 := h2.cz
              omega
            · have h3 := cz_mono hp.keep
              omega
        obtain ⟨d', c', h3, h4⟩ := ih d1 c1 hpass
        refine ⟨d', c', ?_, h4⟩
        simp only [Bool.not_true, cond_false, reaches_j5, reaches_j2]
        rw [inR_ok (by omega) (by omega), some_bind, idxD hk32, some_bind, h1, wrs k (by omega)]
        exact h3
theorem reaches_l1_eq {fu N : Nat} {g : GGraph} (hg : Small g N) (hf : N + 40 ≤ fu) {s : Nat} : ∀ (n : Nat) (d : Vector Bool 32), bat d s = true → (∀ j, bat d j = true → Path (Edge g) s j) → cz d + 1 < n → reaches_l1 fu g n d true = some (reachV g s)
  | 0, d, _, _, h => absurd h (by omega)
  | n + 1, d, h0, hp, hn => by
    rw [reaches_l1, bif_t rfl]
    obtain ⟨d', c', h1, h2⟩ := reaches_l2_eq (s := s) hg (show N ≤ fu by omega) (rec := reaches_l1 fu g n) (d0 := d) fu 32 0 d false (by omega) (by omega)
      ⟨fun _ h => h, hp, fun _ => ⟨rfl, fun a b ha => absurd ha (by omega)⟩, fun h => by cases h⟩
    have h1 : reaches_l2 fu g (reaches_l1 fu g n) fu d false 0 = _ := h1
    rw [h1]
    cases c' with
    | true =>
      have := h2.less rfl
      exact reaches_l1_eq hg hf n d' (h2.keep s h0) h2.path (by omega)
    | false =>
      obtain ⟨rfl, hcl⟩ := h2.same rfl
      obtain ⟨n, rfl⟩ : ∃ q, n = q + 1 := ⟨n - 1, by omega⟩
      rw [reaches_l1, bif_f rfl, some_bind]
      refine congrArg some (reachV_of fun k => ⟨hp k, fun h => Path.closed (S := fun a => bat d' a = true) (fun a b ha he => hcl a b he.1 ha he) h h0⟩)
theorem reachesD_eq {fu N : Nat} {g : GGraph} (hg : Small g N) (hf : N + 40 ≤ fu) (x : Int) : reachesD fu g x = some (reachZ g x) := by
  unfold reachesD reachZ
  rw [some_bind]
  rcases int_cases x with ⟨s, hs, rfl⟩ | hx
  · rw [dec_t (show (0 : Int) ≤ s ∧ (s : Int) < 32 by omega), bif_f (c := !true) rfl, if_pos (by omega), inR_ok (by omega) (by omega), some_bind, idxB hs, some_bind, setV_ok hs, some_bind, some_bind]
    have hG := start_going g hs
    have hc := cz_le ((Zr.zd : Vector Bool 32).set s true)
    exact reaches_l1_eq hg hf fu _ hG.first hG.path (by omega)
  · rw [dec_f hx, bif_t (c := !false) rfl, if_neg hx, some_bind]

/-! Ready. -/
def allKnown (g : GGraph) (d : Vector Bool 32) (k : Nat) : Prop := ∀ j, k ≤ j → j < 32 → bat d j = true → bat g.known j = true
open Classical in
noncomputable def readyZ (g : GGraph) (x : Int) : Bool := decide ((0 ≤ x ∧ x < 32) ∧ ∀ j, j < 32 → bat (reachZ g x) j = true → bat g.known j = true)
theorem ready_l1_eq {g : GGraph} {d : Vector Bool 32} : ∀ (n m k : Nat), k + m = 32 → m < n → ∃ b, ready_l1 g d n k = some b ∧ (b = true ↔ allKnown g d k)
  | 0, m, k, _, h => absurd h (by omega)
  | n + 1, 0, k, hk, _ => ⟨true, by rw [ready_l1, bif_f (dec_f (by omega))], by simp only [true_iff]; intro j h1 h2; omega⟩
  | n + 1, m + 1, k, hk, hn => by
    have hk32 : k < 32 := by omega
    obtain ⟨b, h1, h2⟩ := ready_l1_eq (g := g) (d := d) n m (k + 1) (by omega) (by omega)
    rw [ready_l1, bif_t (dec_t (by omega)), idxB hk32, some_bind]
    simp only [ready_j3, ready_j2, wrs k (by omega)]
    have step : (bat d k = true → bat g.known k = true) → (b = true ↔ allKnown g d k) := fun hs => by
      rw [h2]
      constructor
      · intro h j hj
        by_cases e : j = k
        · subst e; intro _; exact hs
        · exact h j (by omega)
      · intro h j hj
        exact h j (by omega)
    cases hd : bat d k with
    | false => exact ⟨b, h1, step fun h => by rw [hd] at h; cases h⟩
    | true =>
      rw [bif_t rfl, inR_ok (by omega) (by omega), some_bind, idxB hk32, some_bind]
      cases hkn : bat g.known k with
      | true => exact ⟨b, h1, step fun _ => hkn⟩
      | false =>
        refine ⟨false, rfl, ?_⟩
        simp only [Bool.false_eq_true, false_iff]
        intro h
        have := h k (Nat.le_refl _) hk32 hd
        rw [hkn] at this; cases this
theorem readyIn_l1_eq {g : GGraph} {x : Int} {d : Vector Bool 32} : ∀ (n m k : Nat), k + m = 32 → m < n → ∃ b, readyIn_l1 g x d n k = some b ∧ (b = true ↔ (0 ≤ x ∧ x < 32) ∧ allKnown g d k)
  | 0, m, k, _, h => absurd h (by omega)
  | n + 1, 0, k, hk, _ => ⟨decide (0 ≤ x ∧ x < 32), by rw [readyIn_l1, bif_f (dec_f (by omega)), some_bind], by
      simp only [decide_eq_true_eq]
      exact ⟨fun h => ⟨h, fun j h1 h2 => by omega⟩, fun h => h.1⟩⟩
  | n + 1, m + 1, k, hk, hn => by
    have hk32 : k < 32 := by omega
    obtain ⟨b, h1, h2⟩ := readyIn_l1_eq (g := g) (x := x) (d := d) n m (k + 1) (by omega) (by omega)
    rw [readyIn_l1, bif_t (dec_t (by omega)), idxB hk32, some_bind]
    simp only [readyIn_j2, readyIn_j1, wrs k (by omega)]
    have step : (bat d k = true → bat g.known k = true) → (b = true ↔ (0 ≤ x ∧ x < 32) ∧ allKnown g d k) := fun hs => by
      rw [h2]
      refine and_congr_right fun _ => ?_
      constructor
      · intro h j hj
        by_cases e : j = k
        · subst e; intro _; exact hs
        · exact h j (by omega)
      · intro h j hj
        exact h j (by omega)
    cases hd : bat d k with
    | false => exact ⟨b, h1, step fun h => by rw [hd] at h; cases h⟩
    | true =>
      rw [bif_t rfl, inR_ok (by omega) (by omega), some_bind, idxB hk32, some_bind]
      cases hkn : bat g.known k with
      | true => exact ⟨b, h1, step fun _ => hkn⟩
      | false =>
        refine ⟨false, rfl, ?_⟩
        simp only [Bool.false_eq_true, false_iff]
        intro h
        have := h.2 k (Nat.le_refl _) hk32 hd
        rw [hkn] at this; cases this
theorem readyZ_iff {g : GGraph} {x : Int} : readyZ g x = true ↔ (0 ≤ x ∧ x < 32) ∧ allKnown g (reachZ g x) 0 := by
  unfold readyZ allKnown
  simp
theorem readyD_eq {fu N : Nat} {g : GGraph} (hg : Small g N) (hf : N + 40 ≤ fu) (x : Int) : readyD fu g x = some (readyZ g x) := by
  unfold readyD
  rcases int_cases x with ⟨s, hs, rfl⟩ | hx
  · rw [bif_f (dec_f (by omega)), ready_j4, bif_f (dec_f (by omega)), ready_j1, reachD_eq hg hf, some_bind]
    obtain ⟨b, h1, h2⟩ := ready_l1_eq (g := g) (d := reachZ g s) fu 32 0 (by omega) (by omega)
    have h1 : ready_l1 g (reachZ g s) fu 0 = some b := h1
    rw [h1]
    congr 1
    rw [Bool.eq_iff_iff, h2, readyZ_iff]
    simp; omega
  · have : readyZ g x = false := by
      cases h : readyZ g x with
      | false => rfl
      | true => exact absurd (readyZ_iff.1 h).1 hx
    rw [this]
    by_cases h0 : x < 0
    · rw [bif_t (dec_t h0)]; rfl
    · rw [bif_f (dec_f h0), ready_j4, bif_t (dec_t (by omega))]
theorem readyInD_eq {fu N : Nat} {g : GGraph} (hg : Small g N) (hf : N + 40 ≤ fu) (x : Int) : readyInD fu g x = some (readyZ g x) := by
  unfold readyInD
  rw [reachesD_eq hg hf, some_bind]
  obtain ⟨b, h1, h2⟩ := readyIn_l1_eq (g := g) (x := x) (d := reachZ g x) fu 32 0 (by omega) (by omega)
  have h1 : readyIn_l1 g x (reachZ g x) fu 0 = some b := h1
  rw [h1]
  congr 1
  rw [Bool.eq_iff_iff, h2, readyZ_iff]
end Go.Proofs.Ytnfdgjdnlikepab
