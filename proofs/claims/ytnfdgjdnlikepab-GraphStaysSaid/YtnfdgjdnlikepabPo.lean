/- The order: what Order of graph and its reference compute, the same at every graph. -/
import Derived.Test.YtnfdgjdnlikepabPv
namespace Go.Proofs.Ytnfdgjdnlikepab
open Go.RowKit
open Rep (rep)

open Classical in
noncomputable def pathB (g : GGraph) (a b : Nat) : Bool := decide (Path (Edge g) a b)
theorem pathB_iff {g : GGraph} {a b : Nat} : pathB g a b = true ↔ Path (Edge g) a b := by simp [pathB]
theorem pathB_pre (g : GGraph) : Pre (pathB g) :=
  ⟨fun a _ => pathB_iff.2 (.refl a), fun a b c h1 h2 => pathB_iff.2 ((pathB_iff.1 h1).trans (pathB_iff.1 h2)), fun a b ha h => path_lt (pathB_iff.1 h) ha⟩
noncomputable def orderZ (g : GGraph) (x : Int) : List Int := if readyZ g x = true then (orderS (pathB g) x.toNat).map (fun k => ((k : Nat) : Int)) else []

def castL (l : List Nat) : List Int := l.map fun k => ((k : Nat) : Int)
theorem castL_len (l : List Nat) : (castL l).length = l.length := by simp [castL]
theorem castL_snoc (l : List Nat) (k : Nat) : castL l ++ [(k : Int)] = castL (l ++ [k]) := by simp [castL]
theorem mem_castL {l : List Nat} {k : Nat} : (k : Int) ∈ castL l ↔ k ∈ l := by
  unfold castL
  rw [List.mem_map]
  constructor
  · rintro ⟨a, ha, e⟩
    have : a = k := cast_inj e
    subst this; exact ha
  · exact fun h => ⟨k, h, rfl⟩
theorem hasZ_castL {l : List Nat} {k : Nat} : hasZ (castL l) (k : Int) = decide (k ∈ l) := by
  rw [Bool.eq_iff_iff, decide_eq_true_eq, ← mem_castL]
  unfold hasZ
  simp

/-- What holds of the search once all that is reached is known. -/
structure Rings (g : GGraph) (n : Nat) (x : GSearch) : Prop where
  same : x.g = g
  known : ∀ k, pathB g n k = true → bat g.known k = true
  mark : ∀ k, k < 32 → (0 < iat x.mark_ k ↔ pathB g n k = true)
  nonneg : ∀ k, k < 32 → 0 ≤ iat x.mark_ k
  ring : ∀ k, k < 32 → pathB g n k = true → ∃ r : Nat, iat x.ring k = r ∧ Least (Edge g) k r

theorem path_same {g : GGraph} {n : Nat} (hk : ∀ k, pathB g n k = true → bat g.known k = true) {a b : Nat} (ha : pathB g n a = true) : Path (DE g) a b ↔ Path (Edge g) a b := by
  constructor
  · intro h
    induction h with
    | refl => exact .refl _
    | tail _ e ih => exact ih.tail ⟨e.1, hk _ (pathB_iff.2 ((pathB_iff.1 ha).trans ih)), e.2.1, e.2.2⟩
  · intro h
    induction h with
    | refl => exact .refl _
    | tail _ e ih => exact ih.tail ⟨e.1, e.2.2.1, e.2.2.2⟩
theorem least_uniq {E : Nat → Nat → Prop} {u v r q : Nat} (hr : Least E u r) (hq : Least E v q) (h1 : Path E u v) (h2 : Path E v u) : r = q := by
  have a := hr.2.2 q (h1.trans hq.1) (hq.2.1.trans h2)
  have b := hq.2.2 r (h2.trans hr.1) (hr.2.1.trans h1)
  omega

section
variable {g : GGraph} {n : Nat} {x : GSearch} {out : List Nat} {placed : Vector Bool 32}
theorem Rings.least (h : Rings g n x) (hn : n < 32) {k : Nat} (hk : pathB g n k = true) {r : Nat} (hr : iat x.ring k = r) : Least (Edge g) k r := by
  obtain ⟨q, h1, h2⟩ := h.ring k (path_lt (pathB_iff.1 hk) hn) hk
  rw [hr] at h1
  rw [cast_inj h1]; exact h2

/-- Is all placed that a ring hangs on, beside itself? -/
def Free (g : GGraph) (x : GSearch) (y : Int) (placed : Vector Bool 32) (k : Nat) : Prop := ∀ m, k ≤ m → m < 32 → iat x.mark_ m ≠ 0 → iat x.ring m = y → ∀ d : Nat, d < 32 → (d : Int) ∈ depsAt g m → iat x.ring d ≠ y → bat placed d = true
theorem free_l2_eq {y9 : Int} {y : Int} {rec : Int → Option Bool} {ds : List Int} (hds : ds.length ≤ 17592186043904) : ∀ (q r k : Nat), ds.length = k + r → r < q →
    (free_l2 x y placed y9 rec ds q k = rec (IntKind.wrap .i64 (y9 + 1)) ∧ ∀ d : Nat, d < 32 → (d : Int) ∈ ds.drop k → iat x.ring d ≠ y → bat placed d = true) ∨
    (free_l2 x y placed y9 rec ds q k = some false ∧ ∃ d : Nat, d < 32 ∧ (d : Int) ∈ ds.drop k ∧ iat x.ring d ≠ y ∧ bat placed d = false)
  | 0, r, k, _, h => absurd h (by omega)
  | q + 1, 0, k, hk, _ => by
    left
    refine ⟨by rw [free_l2, bif_f (dec_f (by omega))]; rfl, fun d _ hm => ?_⟩
    rw [List.drop_of_length_le (by omega)] at hm; simp at hm
  | q + 1, r + 1, k, hk, hq => by
    have hlt : k < ds.length := by omega
    have ih := free_l2_eq (y9 := y9) (y := y) (rec := rec) hds q r (k + 1) (by omega) (by omega)
    rw [free_l2, bif_t (dec_t (by omega)), idx_nat, List.getElem?_eq_getElem hlt, some_bind, drop_mem hlt]
    simp only [free_j4, free_j3, wrs k (by omega)]
    generalize ds[k] = z
    have more : (∀ d : Nat, d < 32 → z = (d : Int) → iat x.ring d ≠ y → bat placed d = true) →
        (free_l2 x y placed y9 rec ds q ((k + 1 : Nat) : Int) = rec (IntKind.wrap .i64 (y9 + 1)) ∧ ∀ d : Nat, d < 32 → (d : Int) ∈ z :: ds.drop (k + 1) → iat x.ring d ≠ y → bat placed d = true) ∨
        (free_l2 x y placed y9 rec ds q ((k + 1 : Nat) : Int) = some false ∧ ∃ d : Nat, d < 32 ∧ (d : Int) ∈ z :: ds.drop (k + 1) ∧ iat x.ring d ≠ y ∧ bat placed d = false) := fun hz => by
      rcases ih with ⟨h1, h2⟩ | ⟨h1, d, h2, h3, h4, h5⟩
      · refine .inl ⟨h1, fun d hd hm hr => ?_⟩
        rcases List.mem_cons.1 hm with e | hm
        · exact hz d hd e.symm hr
        · exact h2 d hd hm hr
      · exact .inr ⟨h1, d, h2, List.mem_cons_of_mem _ h3, h4, h5⟩
    rcases int_cases z with ⟨d, hd, rfl⟩ | hz
    · rw [bif_t (dec_t (by omega)), bif_t (dec_t (by omega)), inR_ok (by omega) (by omega), some_bind, idxI hd, some_bind]
      by_cases hr : iat x.ring d = y
      · rw [bif_f (by simp [hr])]
        exact more fun c _ e hne => by
          have : d = c := cast_inj e
          subst this
          exact absurd hr hne
      · rw [bif_t (by simp [hr]), some_bind, idxB hd, some_bind]
        cases hp : bat placed d with
        | true =>
          exact more fun c _ e _ => by
            have : d = c := cast_inj e
            subst this
            exact hp
        | false => exact .inr ⟨rfl, d, hd, List.mem_cons_self, hr, hp⟩
    · have := more fun d hd e _ => absurd (show 0 ≤ z ∧ z < 32 by omega) hz
      by_cases h0 : z ≥ 0
      · rw [bif_t (dec_t h0), bif_f (dec_f (by omega))]; exact this
      · rw [bif_f (dec_f h0)]; exact this
theorem free_l1_eq {fu N : Nat} (hN : Small g N) (hfu : N ≤ fu) (hg : x.g = g) {y : Int} : ∀ (q r k : Nat), k + r = 32 → r < q → ∃ b, free_l1 fu x y placed q k = some b ∧ (b = true ↔ Free g x y placed k)
  | 0, r, k, _, h => absurd h (by omega)
  | q + 1, 0, k, hk, _ => ⟨true, by rw [free_l1, bif_f (dec_f (by omega))], by simp only [true_iff]; intro m h1 h2; omega⟩
  | q + 1, r + 1, k, hk, hq => by
    have hk32 : k < 32 := by omega
    obtain ⟨b, h1, h2⟩ := free_l1_eq hN hfu hg q r (k + 1) (by omega) (by omega)
    have step : (iat x.mark_ k ≠ 0 → iat x.ring k = y → ∀ d : Nat, d < 32 → (d : Int) ∈ depsAt g k → iat x.ring d ≠ y → bat placed d = true) → (b = true ↔ Free g x y placed k) := fun hs => by
      rw [h2]
      constructor
      · intro h m hm
        by_cases e : m = k
        · subst e; intro _; exact hs
        · exact h m (by omega)
      · intro h m hm
        exact h m (by omega)
    rw [free_l1, bif_t (dec_t (by omega)), inR_ok (by omega) (by omega), some_bind, idxI hk32, some_bind]
    simp only [free_j5, free_j1, wrs k (by omega)]
    by_cases h0 : iat x.mark_ k = 0
    · rw [bif_t (by simp [h0])]
      exact ⟨b, h1, step fun h => absurd h0 h⟩
    · rw [bif_f (by simp [h0]), some_bind, idxI hk32, some_bind]
      by_cases hr : iat x.ring k = y
      · rw [bif_f (by simp [hr]), free_j2, inR_ok (by omega) (by omega), some_bind, hg, idxD hk32, some_bind]
        have := free_l2_eq (x := x) (placed := placed) (y9 := (k : Int)) (y := y) (rec := free_l1 fu x y placed q) (hN k).2 fu (depsAt g k).length 0 (by omega) (by have := (hN k).1; omega)
        rw [List.drop_zero, wrs k (by omega)] at this
        rcases this with ⟨h3, h4⟩ | ⟨h3, d, hd, h4, h5, h6⟩
        · have h3 : free_l2 x y placed (k : Int) (free_l1 fu x y placed q) (depsAt g k) fu 0 = _ := h3
          exact ⟨b, by rw [h3]; exact h1, step fun _ _ => h4⟩
        · have h3 : free_l2 x y placed (k : Int) (free_l1 fu x y placed q) (depsAt g k) fu 0 = _ := h3
          refine ⟨false, h3, ?_⟩
          simp only [Bool.false_eq_true, false_iff]
          intro hf
          have := hf k (Nat.le_refl _) hk32 h0 hr d hd h4 h5
          rw [h6] at this; cases this
      · rw [bif_t (by simp [hr])]
        exact ⟨b, h1, step fun _ h => absurd h hr⟩

/-- The test of the search for the next. -/
def Test (g : GGraph) (n : Nat) (x : GSearch) (out : List Nat) (placed : Vector Bool 32) (y : Nat) : Prop := pathB g n y = true ∧ y ∉ out ∧ iat x.ring y = (y : Int) ∧ Free g x y placed 0

theorem Test.cand (hR : Rings g n x) (hn : n < 32) (hO : OKO (pathB g) n out) (hP : ∀ k, k < 32 → bat placed k = decide (k ∈ out)) {y : Nat} (h : Test g n x out placed y) : candO (pathB g) n out y = true := by
  obtain ⟨h1, h2, h3, h4⟩ := h
  have hpre := pathB_pre g
  have hy32 := hpre.lt _ _ hn h1
  rw [candO_iff]
  refine ⟨h1, h2, fun d hd hyd => ?_⟩
  have hcl : ∀ a b, ((pathB g y a = true ∧ pathB g a y = true) ∨ a ∈ out) → Edge g a b → ((pathB g y b = true ∧ pathB g b y = true) ∨ b ∈ out) := by
    intro a b ha hab
    rcases ha with ⟨ha1, ha2⟩ | ha
    · have hyb := hpre.trans _ _ _ ha1 (pathB_iff.2 (Path.one hab))
      cases hby : pathB g b y with
      | true => exact .inl ⟨hyb, rfl⟩
      | false =>
        right
        have hna := hpre.trans _ _ _ h1 ha1
        have ha32 := hpre.lt _ _ hn hna
        obtain ⟨r, hr1, hr2⟩ := hR.ring a ha32 hna
        have hra : iat x.ring a = (y : Int) := by
          rw [hr1, least_uniq hr2 (hR.least hn h1 h3) (pathB_iff.1 ha2) (pathB_iff.1 ha1)]
        have hma : iat x.mark_ a ≠ 0 := by have := (hR.mark a ha32).2 hna; omega
        have hnb := hpre.trans _ _ _ h1 hyb
        have hrb : iat x.ring b ≠ (y : Int) := fun e => by
          have := (hR.least hn hnb e).1
          rw [pathB_iff.2 this] at hby; cases hby
        have := h4 a (Nat.zero_le _) ha32 hma hra b hab.2.2.2 hab.2.2.1 hrb
        rw [hP b hab.2.2.2] at this
        simpa using this
    · exact .inr (hO.dc a ha b (pathB_iff.2 (Path.one hab)))
  have := Path.closed (S := fun a => (pathB g y a = true ∧ pathB g a y = true) ∨ a ∈ out) hcl (pathB_iff.1 hyd) (.inl ⟨hpre.refl y hy32, hpre.refl y hy32⟩)
  rcases this with h5 | h5
  · exact .inl h5.2
  · exact .inr h5
theorem Test.of_next (hR : Rings g n x) (hn : n < 32) (hO : OKO (pathB g) n out) (hP : ∀ k, k < 32 → bat placed k = decide (k ∈ out)) {c : Nat} (h : nextO (pathB g) n out = some c) : Test g n x out placed c := by
  have hpre := pathB_pre g
  obtain ⟨hc32, hcand, hmin⟩ := nextO_some h
  have hcand' := candO_iff.1 hcand
  obtain ⟨h1, h2, h3⟩ := hcand'
  obtain ⟨r, hr1, hr2⟩ := hR.ring c hc32 h1
  have hcr : pathB g c r = true := pathB_iff.2 hr2.1
  have hrc : pathB g r c = true := pathB_iff.2 hr2.2.1
  have hrle : r ≤ c := hr2.2.2 c (.refl _) (.refl _)
  have hr : r = c := by
    rcases Nat.lt_or_ge r c with hlt | hge
    · have hno := hmin r hlt
      have hy : candO (pathB g) n out r = true := by
        rw [candO_iff]
        refine ⟨hpre.trans _ _ _ h1 hcr, fun hro => h2 (hO.dc r hro c hrc), fun d hd hrd => ?_⟩
        · rcases h3 d hd (hpre.trans _ _ _ hcr hrd) with h4 | h4
          · exact .inl (hpre.trans _ _ _ h4 hcr)
          · exact .inr h4
      rw [hy] at hno; cases hno
    · omega
  subst hr
  refine ⟨h1, h2, hr1, fun a _ ha32 hma hra d hd hmd hrd => ?_⟩
  have hna := (hR.mark a ha32).1 (by have := hR.nonneg a ha32; omega)
  have hl := hR.least hn hna hra
  have had : pathB g a d = true := pathB_iff.2 (Path.one ⟨ha32, hR.known a hna, hmd, hd⟩)
  have hcd := hpre.trans _ _ _ (pathB_iff.2 hl.2.1) had
  rw [hP d hd]
  rcases h3 d hd hcd with h4 | h4
  · exfalso
    have hnd := hpre.trans _ _ _ h1 hcd
    obtain ⟨q, hq1, hq2⟩ := hR.ring d hd hnd
    refine hrd ?_
    rw [hq1, least_uniq hq2 hr2 (pathB_iff.1 h4) (pathB_iff.1 hcd)]
  · exact dec_t h4

def optI : Option Nat → Int
  | some a => a
  | none => -1

/-! The loops of Order. -/
def PlacedBy (placed : Vector Bool 32) (out : List Nat) : Prop := ∀ k, k < 32 → bat placed k = decide (k ∈ out)
theorem ring_mem (hR : Rings g n x) (hn : n < 32) {c : Nat} (hc : pathB g n c = true) (hrc : iat x.ring c = (c : Int)) {k : Nat} (hk : k < 32) : (0 < iat x.mark_ k ∧ iat x.ring k = (c : Int)) ↔ (pathB g c k = true ∧ pathB g k c = true) := by
  have hpre := pathB_pre g
  constructor
  · rintro ⟨h1, h2⟩
    have hl := hR.least hn ((hR.mark k hk).1 h1) h2
    exact ⟨pathB_iff.2 hl.2.1, pathB_iff.2 hl.1⟩
  · rintro ⟨h1, h2⟩
    have hnk := hpre.trans _ _ _ hc h1
    refine ⟨(hR.mark k hk).2 hnk, ?_⟩
    obtain ⟨r, hr1, hr2⟩ := hR.ring k hk hnk
    rw [hr1, least_uniq hr2 (hR.least hn hc hrc) (pathB_iff.1 h2) (pathB_iff.1 h1)]

/-- All of a ring are placed. -/
theorem gorder_l2_eq {rec : Vector Bool 32 → GSearch → List Int → Option (List Int)} (hR : Rings g n x) (hn : n < 32) {c : Nat} (hc : pathB g n c = true) (hrc : iat x.ring c = (c : Int)) : ∀ (q r k : Nat) (placed : Vector Bool 32) (o : List Nat), k + r = 32 → r < q → o.length ≤ k + 32 →
    PlacedBy placed o → ∃ placed', gorder_l2 rec x (c : Int) q placed (castL o) k = rec placed' x (castL (o ++ ((List.range 32).drop k).filter fun m => pathB g c m && pathB g m c)) ∧ PlacedBy placed' (o ++ ((List.range 32).drop k).filter fun m => pathB g c m && pathB g m c)
  | 0, r, k, placed, o, _, h, _, _ => absurd h (by omega)
  | q + 1, 0, k, placed, o, hk, _, _, hP => ⟨placed, by
      rw [gorder_l2, bif_f (dec_f (by omega)), List.drop_of_length_le (by simp; omega), List.filter_nil, List.append_nil], by
      rw [List.drop_of_length_le (by simp; omega), List.filter_nil, List.append_nil]; exact hP⟩
  | q + 1, r + 1, k, placed, o, hk, hq, ho, hP => by
    have hk32 : k < 32 := by omega
    have ih := fun placed o h1 h2 => gorder_l2_eq (rec := rec) hR hn hc hrc q r (k + 1) placed o (by omega) (by omega) h1 h2
    have hmem := ring_mem hR hn hc hrc hk32
    have hdrop : (List.range 32).drop k = k :: (List.range 32).drop (k + 1) := by
      rw [List.drop_eq_getElem_cons (by simp; omega)]
      simp
    rw [gorder_l2, bif_t (dec_t (by omega)), hdrop, List.filter_cons]
    simp only [inR_ok (show (0 : Int) ≤ (k : Int) by omega) (show (k : Int) < 32 by omega), some_bind, idxI hk32, gorder_j3, gorder_j2, wrs k (by omega)]
    have hno : ¬ (0 < iat x.mark_ k ∧ iat x.ring k = (c : Int)) → (pathB g c k && pathB g k c) = false := fun h => by
      cases h1 : (pathB g c k && pathB g k c) with
      | false => rfl
      | true => exact absurd (hmem.2 (by simpa using h1)) h
    by_cases h1 : 0 < iat x.mark_ k
    · rw [bif_t (dec_t h1)]
      by_cases h2 : iat x.ring k = (c : Int)
      · have h3 := hmem.1 ⟨h1, h2⟩
        rw [bif_t (by simp [h2]), idxB hk32]
        simp only [some_bind, setV_ok hk32]
        rw [app_ok (a := castL o) (b := [(k : Int)]) (len_bytes (show (castL o).length ≤ 100 by rw [castL_len]; omega)), some_bind, castL_snoc, h3.1, h3.2]
        obtain ⟨p', e1, e2⟩ := ih (placed.set k true) (o ++ [k]) (by simp; omega) (fun j hj => by
          rw [bat_set hk32, hP j hj]
          by_cases e : k = j
          · subst e; simp
          · have e2 : ¬ j = k := fun h => e h.symm
            simp [e, e2])
        refine ⟨p', ?_, ?_⟩
        · rw [e1]; simp
        · simpa using e2
      · rw [bif_f (by simp [h2]), hno (fun h => h2 h.2)]
        exact ih placed o (by omega) hP
    · rw [bif_f (dec_f h1), bif_f rfl, hno (fun h => h1 h.1)]
      exact ih placed o (by omega) hP

/-- The search for the next. -/
theorem gorder_l3_eq {fu N : Nat} (hN : Small g N) (hfu : N + 40 ≤ fu) {rec : Vector Bool 32 → GSearch → List Int → Option (List Int)} (hR : Rings g n x) (hn : n < 32) (hO : OKO (pathB g) n out) (hP : PlacedBy placed out) : ∀ (q r k : Nat), k + r = 32 → r < q → (∀ j, j < k → candO (pathB g) n out j = true → nextO (pathB g) n out ≠ some j) →
    gorder_l3 fu placed (castL out) rec q x (-1) k = gorder_j1 fu placed (castL out) rec x (optI (nextO (pathB g) n out))
  | 0, r, k, _, h, _ => absurd h (by omega)
  | q + 1, 0, k, hk, _, hno => by
    rw [gorder_l3, bif_f (dec_f (by omega))]
    cases hc : nextO (pathB g) n out with
    | none => rfl
    | some c =>
      have := nextO_some hc
      exact absurd hc (hno c (by omega) this.2.1)
  | q + 1, r + 1, k, hk, hq, hno => by
    have hk32 : k < 32 := by omega
    have ih := fun h => gorder_l3_eq hN hfu (rec := rec) hR hn hO hP q r (k + 1) (by omega) (by omega) h
    have step : ¬ Test g n x out placed k → (∀ j, j < k + 1 → candO (pathB g) n out j = true → nextO (pathB g) n out ≠ some j) := fun ht j hj hcj he => by
      by_cases e : j = k
      · subst e
        exact ht (Test.of_next hR hn hO hP he)
      · exact hno j (by omega) hcj he
    rw [gorder_l3, bif_t (dec_t (by omega))]
    simp only [inR_ok (show (0 : Int) ≤ (k : Int) by omega) (show (k : Int) < 32 by omega), some_bind, idxI hk32, idxB hk32, gorder_j5, gorder_j4, wrs k (by omega)]
    by_cases h1 : 0 < iat x.mark_ k
    · have hnk := (hR.mark k hk32).1 h1
      rw [bif_t (dec_t h1), hP k hk32]
      by_cases h2 : k ∈ out
      · rw [dec_t h2, bif_f (c := !true) rfl]
        exact ih (step fun ht => ht.2.1 h2)
      · rw [dec_f h2, bif_t (c := !false) rfl]
        by_cases h3 : iat x.ring k = (k : Int)
        · rw [bif_t (by simp [h3])]
          obtain ⟨b, h4, h5⟩ := free_l1_eq (placed := placed) hN (show N ≤ fu by omega) hR.same (y := (k : Int)) fu 32 0 (by omega) (by omega)
          have h4 : freeD fu x (k : Int) placed = some b := h4
          rw [h4, some_bind]
          cases hb : b with
          | true =>
            rw [bif_t rfl]
            have ht : Test g n x out placed k := ⟨hnk, h2, h3, h5.1 hb⟩
            have hcand := ht.cand hR hn hO hP
            have hnext : nextO (pathB g) n out = some k := by
              cases hc : nextO (pathB g) n out with
              | none => rw [nextO_none.1 hc k hk32] at hcand; cases hcand
              | some c =>
                obtain ⟨c1, c2, c3⟩ := nextO_some hc
                rcases Nat.lt_trichotomy c k with h | h | h
                · exact absurd hc (hno c h c2)
                · rw [h]
                · rw [c3 k h] at hcand; cases hcand
            rw [hnext]; rfl
          | false =>
            rw [bif_f rfl]
            refine ih (step fun ht => ?_)
            rw [h5.2 ht.2.2.2] at hb
            cases hb
        · rw [bif_f (by simp [h3]), bif_f rfl]
          exact ih (step fun ht => h3 ht.2.2.1)
    · rw [bif_f (dec_f h1), bif_f rfl]
      exact ih (step fun ht => h1 ((hR.mark k hk32).2 ht.1))

theorem gorder_l1_eq {fu N : Nat} (hN : Small g N) (hfu : N + 40 ≤ fu) (hR : Rings g n x) (hn : n < 32) : ∀ (q k : Nat) (out : List Nat) (placed : Vector Bool 32), OKO (pathB g) n out → PlacedBy placed out → k < q → 32 ≤ k + out.length →
    gorder_l1 fu q placed x (castL out) = some (castL (orderF (pathB g) n k out))
  | 0, k, out, placed, _, _, h, _ => absurd h (by omega)
  | q + 1, k, out, placed, hO, hP, hq, hk => by
    have hpre := pathB_pre g
    have h3 := gorder_l3_eq hN hfu (rec := gorder_l1 fu q) hR hn hO hP fu 32 0 (by omega) (by omega) (fun j hj => absurd hj (by omega))
    have h3 : gorder_l3 fu placed (castL out) (gorder_l1 fu q) fu x (-1) 0 = _ := h3
    rw [gorder_l1, h3, gorder_j1]
    cases hc : nextO (pathB g) n out with
    | none =>
      rw [bif_t (by rfl)]
      cases k with
      | zero => rfl
      | succ k => simp [orderF, hc]
    | some c =>
      obtain ⟨hc32, hcand, _⟩ := nextO_some hc
      have ht := Test.of_next hR hn hO hP hc
      have hle := hO.len
      show (bif decide ((c : Int) < 0) then _ else _) = _
      rw [bif_f (dec_f (by omega))]
      obtain ⟨p', e1, e2⟩ := gorder_l2_eq (rec := gorder_l1 fu q) hR hn ht.1 ht.2.2.1 fu 32 0 placed out (by omega) (by omega) (by omega) hP
      have e1 : gorder_l2 (gorder_l1 fu q) x (c : Int) fu placed (castL out) 0 = _ := e1
      show gorder_l2 (gorder_l1 fu q) x (c : Int) fu placed (castL out) 0 = _
      rw [e1]
      rw [List.drop_zero] at e2 ⊢
      have hstep := hO.step hpre hn hc
      have hlen := List.length_pos_of_mem (ringO_self hpre hc32)
      cases k with
      | zero => rw [hO.full (by omega)] at hc; cases hc
      | succ k =>
        have := gorder_l1_eq hN hfu hR hn q k (out ++ ringO (pathB g) c) p' hstep e2 (by omega) (by rw [List.length_append]; omega)
        rw [orderF, hc]
        exact this
end

theorem readyZ_known {g : GGraph} {s : Nat} (hs : s < 32) (h : readyZ g (s : Int) = true) : ∀ k, pathB g s k = true → bat g.known k = true := by
  intro k hk
  have h1 := (readyZ_iff.1 h).2 k (Nat.zero_le _) (path_lt (pathB_iff.1 hk) hs)
  refine h1 ?_
  unfold reachZ
  rw [if_pos (by omega)]
  exact (bat_reachV (path_lt (pathB_iff.1 hk) hs)).2 (pathB_iff.1 hk)
theorem gorderD_eq {fu N : Nat} {g : GGraph} (hN : Small g N) (hfu : N + 80 ≤ fu) (x : Int) : gorderD fu g x = some (orderZ g x) := by
  unfold gorderD orderZ
  rw [readyD_eq hN (by omega), some_bind]
  cases hr : readyZ g x with
  | false => rw [bif_t (c := !false) rfl, if_neg (by simp)]
  | true =>
    rw [bif_f (c := !true) rfl, if_pos rfl, some_bind]
    obtain ⟨hx, _⟩ := readyZ_iff.1 hr
    obtain ⟨s, hs, rfl⟩ : ∃ s : Nat, s < 32 ∧ x = s := ⟨x.toNat, by omega, by omega⟩
    have hkn := readyZ_known hs hr
    obtain ⟨x', l', h1, h2, h3, h4, h5⟩ := visitD_eq hN (show N + 40 ≤ fu by omega) hs
    rw [h1, some_bind]
    have hself : pathB g s s = true := (pathB_pre g).refl s hs
    have hR : Rings g s x' := ⟨h2, hkn, fun k hk => by rw [h3 k hk, path_same hkn hself, pathB_iff], h4, fun k hk hp => by
      obtain ⟨r, e1, e2, e3, e4⟩ := h5 k hk ((path_same hkn hself).2 (pathB_iff.1 hp))
      have hnr : pathB g s r = true := pathB_iff.2 ((pathB_iff.1 hp).trans ((path_same hkn hp).1 e2))
      refine ⟨r, e1, (path_same hkn hp).1 e2, (path_same hkn hnr).1 e3, fun w hw1 hw2 => e4 w ((path_same hkn hp).2 hw1) ?_⟩
      exact (path_same hkn (pathB_iff.2 ((pathB_iff.1 hp).trans hw1))).2 hw2⟩
    exact gorder_l1_eq hN (by omega) hR hs fu 32 [] (Zr.zd : Vector Bool 32) OKO.nil (fun k _ => by rw [bat_zero]; simp) (by omega) (by simp)

/-! The reference. -/
section
variable {g : GGraph} {n : Nat} {out : List Nat} {R : Vector (Vector Bool 32) 32}
theorem idxR {m : Nat} (hm : m < 32) : idxV R (m : Int) = some R[m] := idxV_ok hm
/-- Of each, what it reaches. -/
def Reaches (g : GGraph) (R : Vector (Vector Bool 32) 32) : Prop := ∀ m (h : m < 32), ∀ d, d < 32 → bat R[m] d = pathB g m d
theorem orderOf_l4_eq (hR : Reaches g R) {y59 : Int} {rec : Int → Int → Option (List Int)} {m : Nat} (hm : m < 32) : ∀ (q r k : Nat) (c : Bool), k + r = 32 → r < q →
    orderOf_l4 R (castL out) y59 m rec q c k = rec (bif (c && ((List.range 32).drop k).all fun d => !pathB g m d || (pathB g d m || out.contains d)) then (m : Int) else y59) (IntKind.wrap .i64 ((m : Int) - 1))
  | 0, r, k, c, _, h => absurd h (by omega)
  | q + 1, 0, k, c, hk, _ => by
    rw [orderOf_l4, bif_f (dec_f (by omega)), List.drop_of_length_le (by simp; omega)]
    cases c <;> rfl
  | q + 1, r + 1, k, c, hk, hq => by
    have hk32 : k < 32 := by omega
    have ih := fun c => orderOf_l4_eq hR (y59 := y59) (rec := rec) hm q r (k + 1) c (by omega) (by omega)
    have hdrop : (List.range 32).drop k = k :: (List.range 32).drop (k + 1) := by
      rw [List.drop_eq_getElem_cons (by simp; omega)]
      simp
    rw [orderOf_l4, bif_t (dec_t (by omega)), hdrop, List.all_cons]
    have i1 : inR (k : Int) 32 = some () := inR_ok (by omega) (by omega)
    have i2 : inR (m : Int) 32 = some () := inR_ok (by omega) (by omega)
    simp only [orderOf_j4, wrs k (by omega), i1, i2, some_bind, idxR hm, idxR hk32, idxB hk32, idxB hm, hR m hm k hk32, hR k hk32 m hm, hasZ_castL, ih]
    cases c with
    | false => rfl
    | true =>
      cases hp : pathB g m k with
      | false => rfl
      | true =>
        cases hq : pathB g k m with
        | true => rfl
        | false =>
          simp only [Bool.not_true, cond_false, cond_true, Bool.false_or, Bool.true_and, List.contains_eq_mem]
theorem orderOf_l3_eq (hR : Reaches g R) (hn : n < 32) {fu : Nat} (hfu : 40 ≤ fu) {rec : List Int → Option (List Int)} : ∀ (q k : Nat) (c : Option Nat), k ≤ 32 → k < q → (∀ a, c = some a → k ≤ a ∧ a < 32 ∧ candO (pathB g) n out a = true ∧ ∀ j, k ≤ j → j < a → candO (pathB g) n out j = false) → (c = none → ∀ j, k ≤ j → j < 32 → candO (pathB g) n out j = false) →
    orderOf_l3 fu n R (castL out) rec q (optI c) ((k : Int) - 1) =
      match nextO (pathB g) n out with | none => some (castL out) | some a => orderOf_l5 R rec a fu (castL out) 0
  | 0, k, c, _, h, _, _ => absurd h (by omega)
  | q + 1, 0, c, _, _, hs, hnn => by
    rw [orderOf_l3, bif_f (dec_f (by omega))]
    cases c with
    | none =>
      rw [nextO_none.2 fun j hj => hnn rfl j (by omega) hj]
      rw [bif_t (by rfl)]; rfl
    | some a =>
      obtain ⟨_, h1, h2, h3⟩ := hs a rfl
      rw [nextO_of h1 h2 fun j hj => h3 j (by omega) hj]
      show (bif decide ((a : Int) < 0) then _ else _) = _
      rw [bif_f (dec_f (by omega))]
      rfl
  | q + 1, k + 1, c, hk, hq, hs, hnn => by
    have hk32 : k < 32 := by omega
    have e0 : (((k + 1 : Nat) : Int) - 1) = (k : Int) := by omega
    have e1 : IntKind.wrap .i64 ((k : Int) - 1) = (k : Int) - 1 := wr64 (by omega) (by omega)
    have ih := fun c h1 h2 => orderOf_l3_eq hR hn hfu (rec := rec) q k c (by omega) (by omega) h1 h2
    have i1 : inR (k : Int) 32 = some () := inR_ok (by omega) (by omega)
    have i2 : inR (n : Int) 32 = some () := inR_ok (by omega) (by omega)
    rw [e0, orderOf_l3, bif_t (dec_t (by omega))]
    simp only [i1, i2, some_bind, idxR hn, idxB hk32, hR n hn k hk32, hasZ_castL, orderOf_j5, orderOf_j2, orderOf_j3, e1]
    have hno : candO (pathB g) n out k = false → orderOf_l3 fu n R (castL out) rec q (optI c) ((k : Int) - 1) =
        match nextO (pathB g) n out with | none => some (castL out) | some a => orderOf_l5 R rec a fu (castL out) 0 := fun hc => by
      refine ih c (fun a ha => ?_) (fun hcn j hj hj2 => ?_)
      · obtain ⟨h1, h2, h3, h4⟩ := hs a ha
        refine ⟨by omega, h2, h3, fun j hj hj2 => ?_⟩
        by_cases e : j = k
        · subst e; exact hc
        · exact h4 j (by omega) hj2
      · by_cases e : j = k
        · subst e; exact hc
        · exact hnn hcn j (by omega) hj2
    cases hp : pathB g n k with
    | false =>
      rw [bif_t (c := !false) rfl, bif_t rfl]
      exact hno (by simp [candO, hp])
    | true =>
      rw [bif_f (c := !true) rfl]
      by_cases hm : k ∈ out
      · rw [dec_t hm, bif_t rfl]
        exact hno (by simp [candO, hm])
      · rw [dec_f hm, bif_f rfl]
        have h4 := orderOf_l4_eq (out := out) hR (y59 := (optI c)) (rec := orderOf_l3 fu n R (castL out) rec q) hk32 fu 32 0 true (by omega) (by omega)
        have h4 : orderOf_l4 R (castL out) (optI c) (k : Int) (orderOf_l3 fu n R (castL out) rec q) fu true 0 = _ := h4
        rw [h4, e1, List.drop_zero, Bool.true_and]
        have hcand : candO (pathB g) n out k = (List.range 32).all fun d => !pathB g k d || (pathB g d k || out.contains d) := by
          unfold candO
          rw [hp]
          simp [hm]
        cases hall : (List.range 32).all fun d => !pathB g k d || (pathB g d k || out.contains d) with
        | false =>
          rw [bif_f rfl]
          exact hno (by rw [hcand, hall])
        | true =>
          rw [bif_t rfl]
          refine ih (some k) (fun a ha => ?_) (fun h => by cases h)
          cases ha
          exact ⟨Nat.le_refl _, hk32, by rw [hcand, hall], fun j hj hj2 => by omega⟩
theorem orderOf_l5_eq (hR : Reaches g R) {rec : List Int → Option (List Int)} {c : Nat} (hc : c < 32) : ∀ (q r k : Nat) (o : List Nat), k + r = 32 → r < q → o.length ≤ k + 32 →
    orderOf_l5 R rec c q (castL o) k = rec (castL (o ++ ((List.range 32).drop k).filter fun m => pathB g c m && pathB g m c))
  | 0, r, k, o, _, h, _ => absurd h (by omega)
  | q + 1, 0, k, o, hk, _, _ => by
    rw [orderOf_l5, bif_f (dec_f (by omega)), List.drop_of_length_le (by simp; omega), List.filter_nil, List.append_nil]
  | q + 1, r + 1, k, o, hk, hq, ho => by
    have hk32 : k < 32 := by omega
    have ih := fun o h => orderOf_l5_eq hR (rec := rec) hc q r (k + 1) o (by omega) (by omega) h
    have hdrop : (List.range 32).drop k = k :: (List.range 32).drop (k + 1) := by
      rw [List.drop_eq_getElem_cons (by simp; omega)]
      simp
    have i1 : inR (k : Int) 32 = some () := inR_ok (by omega) (by omega)
    have i2 : inR (c : Int) 32 = some () := inR_ok (by omega) (by omega)
    rw [orderOf_l5, bif_t (dec_t (by omega)), hdrop, List.filter_cons]
    simp only [i1, i2, some_bind, idxR hc, idxR hk32, idxB hk32, idxB hc, hR c hc k hk32, hR k hk32 c hc, orderOf_j7, orderOf_j6, wrs k (by omega)]
    have i0 := ih o (by omega)
    have i3 := ih (o ++ [k]) (by simp; omega)
    cases pathB g k c <;> cases pathB g c k
    · exact i0
    · exact i0
    · exact i0
    · simp only [cond_true, Bool.and_self, if_true]
      rw [app_ok (a := castL o) (b := [(k : Int)]) (len_bytes (show (castL o).length ≤ 100 by rw [castL_len]; omega)), some_bind, castL_snoc, i3]
      simp
theorem orderOf_l2_eq (hR : Reaches g R) (hn : n < 32) {fu : Nat} (hfu : 40 ≤ fu) : ∀ (q k : Nat) (out : List Nat), OKO (pathB g) n out → k < q → 32 ≤ k + out.length → orderOf_l2 fu n R q (castL out) = some (castL (orderF (pathB g) n k out))
  | 0, k, out, _, h, _ => absurd h (by omega)
  | q + 1, k, out, hO, hq, hk => by
    have hpre := pathB_pre g
    rw [orderOf_l2, castL_len]
    by_cases hl : out.length < 32
    · rw [bif_t (dec_t (by omega))]
      have h3 := orderOf_l3_eq (out := out) hR hn hfu (rec := orderOf_l2 fu n R q) fu 32 none (by omega) (by omega) (fun a h => by cases h) (fun _ j h1 h2 => by omega)
      have h3 : orderOf_l3 fu n R (castL out) (orderOf_l2 fu n R q) fu (-1) 31 = _ := h3
      rw [h3]
      obtain ⟨k, rfl⟩ : ∃ a, k = a + 1 := ⟨k - 1, by omega⟩
      rw [orderF]
      cases hc : nextO (pathB g) n out with
      | none => rfl
      | some c =>
        obtain ⟨hc32, hcand, _⟩ := nextO_some hc
        have hstep := hO.step hpre hn hc
        have hlen := List.length_pos_of_mem (ringO_self hpre hc32)
        have h5 := orderOf_l5_eq hR (rec := orderOf_l2 fu n R q) hc32 fu 32 0 out (by omega) (by omega) (by omega)
        have h5 : orderOf_l5 R (orderOf_l2 fu n R q) (c : Int) fu (castL out) 0 = _ := h5
        show orderOf_l5 R (orderOf_l2 fu n R q) (c : Int) fu (castL out) 0 = some (castL (orderF (pathB g) n k (out ++ ringO (pathB g) c)))
        rw [h5, List.drop_zero]
        exact orderOf_l2_eq hR hn hfu q k (out ++ ringO (pathB g) c) hstep (by omega) (by rw [List.length_append]; omega)
    · rw [bif_f (dec_f (by omega))]
      have hfull := hO.full (by omega)
      cases k with
      | zero => rfl
      | succ k => simp [orderF, hfull, orderOf_j1]
end
theorem orderOf_l1_eq {fu N : Nat} {g : GGraph} (hN : Small g N) (hfu : N + 40 ≤ fu) {s : Nat} (hs : s < 32) : ∀ (q r k : Nat) (R : Vector (Vector Bool 32) 32), k + r = 32 → r < q → (∀ m (h : m < 32), m < k → ∀ d, d < 32 → bat R[m] d = pathB g m d) →
    orderOf_l1 fu g s q R k = some (castL (orderS (pathB g) s))
  | 0, r, k, R, _, h, _ => absurd h (by omega)
  | q + 1, 0, k, R, hk, _, hR => by
    rw [orderOf_l1, bif_f (dec_f (by omega))]
    exact orderOf_l2_eq (fun m h d hd => hR m h (by omega) d hd) hs (by omega) fu 32 [] OKO.nil (by omega) (by simp)
  | q + 1, r + 1, k, R, hk, hq, hR => by
    have hk32 : k < 32 := by omega
    rw [orderOf_l1, bif_t (dec_t (by omega)), reachesD_eq hN hfu, some_bind, inR_ok (by omega) (by omega), some_bind, idxV_ok hk32, some_bind, setV_ok hk32, some_bind, some_bind, wrs k (by omega)]
    refine orderOf_l1_eq hN hfu hs q r (k + 1) _ (by omega) (by omega) fun m h hm d hd => ?_
    rw [Vector.getElem_set]
    by_cases e : k = m
    · subst e
      rw [if_pos rfl]
      unfold reachZ
      rw [if_pos (by omega), Bool.eq_iff_iff, bat_reachV hd, pathB_iff]
      rfl
    · rw [if_neg e]
      exact hR m h (by omega) d hd
theorem orderOfD_eq {fu N : Nat} {g : GGraph} (hN : Small g N) (hfu : N + 80 ≤ fu) (x : Int) : orderOfD fu g x = some (orderZ g x) := by
  unfold orderOfD orderZ
  rw [readyInD_eq hN (by omega), some_bind]
  cases hr : readyZ g x with
  | false => rw [bif_t (c := !false) rfl, if_neg (by simp)]
  | true =>
    rw [bif_f (c := !true) rfl, if_pos rfl]
    obtain ⟨hx, _⟩ := readyZ_iff.1 hr
    obtain ⟨s, hs, rfl⟩ : ∃ s : Nat, s < 32 ∧ x = s := ⟨x.toNat, by omega, by omega⟩
    exact orderOf_l1_eq hN (by omega) hs fu 32 0 _ (by omega) (by omega) fun m h hm => absurd hm (by omega)
end Go.Proofs.Ytnfdgjdnlikepab
