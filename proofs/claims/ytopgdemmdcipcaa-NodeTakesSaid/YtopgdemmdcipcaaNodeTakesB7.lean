/- What the proof of NodeTakes rests on, part 7: rules of walks, what functions compute, and plain laws of it. -/
import Derived.Test.YtopgdemmdcipcaaNodeTakesB6
import Derived.ProofKit
import Derived.OpenShut
import Derived.ShutString
import Derived.ChangeOld
import Derived.SizedLaws
import Derived.Deep.Slices
namespace Go.Proofs.Ytopgdemmdcipcaa
open Go.RowKit
open Rep (rep)
open Classical in
noncomputable def pathB (g : GGraph) (a b : Nat) : Bool := decide (Path (Edge g) a b)
theorem pathB_iff {g : GGraph} {a b : Nat} : pathB g a b = true ↔ Path (Edge g) a b := by simp [pathB]
theorem pathB_pre (g : GGraph) : Pre (pathB g) :=
  ⟨fun a _ => pathB_iff.2 (.refl a), fun a b c h1 h2 => pathB_iff.2 ((pathB_iff.1 h1).trans (pathB_iff.1 h2)), fun a b ha h => path_lt (pathB_iff.1 h) ha⟩
noncomputable def orderZ (g : GGraph) (x : Int) : List Int := if readyZ g x = true then (orderS (pathB g) x.toNat).map (fun k => ((k : Nat) : Int)) else []
def castL (l : List Nat) : List Int := l.map fun k => ((k : Nat) : Int)
theorem castL_len (l : List Nat) : (castL l).length = l.length := by simp [castL]
theorem castL_snoc (l : List Nat) (k : Nat) : castL l ++ [(k : Int)] = castL (l ++ [k]) := by simp [castL]
theorem mem_castL {l : List Nat} {k : Nat} : (k : Int) ∈ castL l ↔ k ∈ l := by
  unfold castL
  rw [List.mem_map]
  constructor
  · rintro ⟨a, ha, e⟩
    have : a = k := cast_inj e
    subst this; exact ha
  · exact fun h => ⟨k, h, rfl⟩
theorem hasZ_castL {l : List Nat} {k : Nat} : hasZ (castL l) (k : Int) = decide (k ∈ l) := by
  rw [Bool.eq_iff_iff, decide_eq_true_eq, ← mem_castL]
  unfold hasZ
  simp
structure Rings (g : GGraph) (n : Nat) (x : GSearch) : Prop where
  same : x.g = g
  known : ∀ k, pathB g n k = true → bat g.known k = true
  mark : ∀ k, k < 32 → (0 < iat x.mark_ k ↔ pathB g n k = true)
  nonneg : ∀ k, k < 32 → 0 ≤ iat x.mark_ k
  ring : ∀ k, k < 32 → pathB g n k = true → ∃ r : Nat, iat x.ring k = r ∧ Least (Edge g) k r
theorem path_same {g : GGraph} {n : Nat} (hk : ∀ k, pathB g n k = true → bat g.known k = true) {a b : Nat} (ha : pathB g n a = true) : Path (DE g) a b ↔ Path (Edge g) a b := by
  constructor
  · intro h
    induction h with
    | refl => exact .refl _
    | tail _ e ih => exact ih.tail ⟨e.1, hk _ (pathB_iff.2 ((pathB_iff.1 ha).trans ih)), e.2.1, e.2.2⟩
  · intro h
    induction h with
    | refl => exact .refl _
    | tail _ e ih => exact ih.tail ⟨e.1, e.2.2.1, e.2.2.2⟩
theorem least_uniq {E : Nat → Nat → Prop} {u v r q : Nat} (hr : Least E u r) (hq : Least E v q) (h1 : Path E u v) (h2 : Path E v u) : r = q := by
  have a := hr.2.2 q (h1.trans hq.1) (hq.2.1.trans h2)
  have b := hq.2.2 r (h2.trans hr.1) (hr.2.1.trans h1)
  omega
section
variable {g : GGraph} {n : Nat} {x : GSearch} {out : List Nat} {placed : Vector Bool 32}
theorem Rings.least (h : Rings g n x) (hn : n < 32) {k : Nat} (hk : pathB g n k = true) {r : Nat} (hr : iat x.ring k = r) : Least (Edge g) k r := by
  obtain ⟨q, h1, h2⟩ := h.ring k (path_lt (pathB_iff.1 hk) hn) hk
  rw [hr] at h1
  rw [cast_inj h1]; exact h2
def Free (g : GGraph) (x : GSearch) (y : Int) (placed : Vector Bool 32) (k : Nat) : Prop := ∀ m, k ≤ m → m < 32 → iat x.mark_ m ≠ 0 → iat x.ring m = y → ∀ d : Nat, d < 32 → (d : Int) ∈ depsAt g m → iat x.ring d ≠ y → bat placed d = true
theorem free_l2_eq {y9 : Int} {y : Int} {rec : Int → Option Bool} {ds : List Int} (hds : ds.length ≤ 17592186043904) : ∀ (q r k : Nat), ds.length = k + r → r < q →
    (free_l2 x y placed y9 rec ds q k = rec (IntKind.wrap .i64 (y9 + 1)) ∧ ∀ d : Nat, d < 32 → (d : Int) ∈ ds.drop k → iat x.ring d ≠ y → bat placed d = true) ∨
    (free_l2 x y placed y9 rec ds q k = some false ∧ ∃ d : Nat, d < 32 ∧ (d : Int) ∈ ds.drop k ∧ iat x.ring d ≠ y ∧ bat placed d = false)
  | 0, r, k, _, h => absurd h (by omega)
  | q + 1, 0, k, hk, _ => by
    left
    refine ⟨by rw [free_l2, bif_f (dec_f (by omega))]; rfl, fun d _ hm => ?_⟩
    rw [List.drop_of_length_le (by omega)] at hm; simp at hm
  | q + 1, r + 1, k, hk, hq => by
    have hlt : k < ds.length := by omega
    have ih := free_l2_eq (y9 := y9) (y := y) (rec := rec) hds q r (k + 1) (by omega) (by omega)
    rw [free_l2, bif_t (dec_t (by omega)), idx_nat, List.getElem?_eq_getElem hlt, some_bind, drop_mem hlt]
    simp only [free_j4, free_j3, wrs k (by omega)]
    generalize ds[k] = z
    have more : (∀ d : Nat, d < 32 → z = (d : Int) → iat x.ring d ≠ y → bat placed d = true) →
        (free_l2 x y placed y9 rec ds q ((k + 1 : Nat) : Int) = rec (IntKind.wrap .i64 (y9 + 1)) ∧ ∀ d : Nat, d < 32 → (d : Int) ∈ z :: ds.drop (k + 1) → iat x.ring d ≠ y → bat placed d = true) ∨
        (free_l2 x y placed y9 rec ds q ((k + 1 : Nat) : Int) = some false ∧ ∃ d : Nat, d < 32 ∧ (d : Int) ∈ z :: ds.drop (k + 1) ∧ iat x.ring d ≠ y ∧ bat placed d = false) := fun hz => by
      rcases ih with ⟨h1, h2⟩ | ⟨h1, d, h2, h3, h4, h5⟩
      · refine .inl ⟨h1, fun d hd hm hr => ?_⟩
        rcases List.mem_cons.1 hm with e | hm
        · exact hz d hd e.symm hr
        · exact h2 d hd hm hr
      · exact .inr ⟨h1, d, h2, List.mem_cons_of_mem _ h3, h4, h5⟩
    rcases int_cases z with ⟨d, hd, rfl⟩ | hz
    · rw [bif_t (dec_t (by omega)), bif_t (dec_t (by omega)), inR_ok (by omega) (by omega), some_bind, idxI hd, some_bind]
      by_cases hr : iat x.ring d = y
      · rw [bif_f (by simp [hr])]
        exact more fun c _ e hne => by
          have : d = c := cast_inj e
          subst this
          exact absurd hr hne
      · rw [bif_t (by simp [hr]), some_bind, idxB hd, some_bind]
        cases hp : bat placed d with
        | true =>
          exact more fun c _ e _ => by
            have : d = c := cast_inj e
            subst this
            exact hp
        | false => exact .inr ⟨rfl, d, hd, List.mem_cons_self, hr, hp⟩
    · have := more fun d hd e _ => absurd (show 0 ≤ z ∧ z < 32 by omega) hz
      by_cases h0 : z ≥ 0
      · rw [bif_t (dec_t h0), bif_f (dec_f (by omega))]; exact this
      · rw [bif_f (dec_f h0)]; exact this
theorem free_l1_eq {fu N : Nat} (hN : Small g N) (hfu : N ≤ fu) (hg : x.g = g) {y : Int} : ∀ (q r k : Nat), k + r = 32 → r < q → ∃ b, free_l1 fu x y placed q k = some b ∧ (b = true ↔ Free g x y placed k)
  | 0, r, k, _, h => absurd h (by omega)
  | q + 1, 0, k, hk, _ => ⟨true, by rw [free_l1, bif_f (dec_f (by omega))], by simp only [true_iff]; intro m h1 h2; omega⟩
  | q + 1, r + 1, k, hk, hq => by
    have hk32 : k < 32 := by omega
    obtain ⟨b, h1, h2⟩ := free_l1_eq hN hfu hg q r (k + 1) (by omega) (by omega)
    have step : (iat x.mark_ k ≠ 0 → iat x.ring k = y → ∀ d : Nat, d < 32 → (d : Int) ∈ depsAt g k → iat x.ring d ≠ y → bat placed d = true) → (b = true ↔ Free g x y placed k) := fun hs => by
      rw [h2]
      constructor
      · intro h m hm
        by_cases e : m = k
        · subst e; intro _; exact hs
        · exact h m (by omega)
      · intro h m hm
        exact h m (by omega)
    rw [free_l1, bif_t (dec_t (by omega)), inR_ok (by omega) (by omega), some_bind, idxI hk32, some_bind]
    simp only [free_j5, free_j1, wrs k (by omega)]
    by_cases h0 : iat x.mark_ k = 0
    · rw [bif_t (by simp [h0])]
      exact ⟨b, h1, step fun h => absurd h0 h⟩
    · rw [bif_f (by simp [h0]), some_bind, idxI hk32, some_bind]
      by_cases hr : iat x.ring k = y
      · rw [bif_f (by simp [hr]), free_j2, inR_ok (by omega) (by omega), some_bind, hg, idxD hk32, some_bind]
        have := free_l2_eq (x := x) (placed := placed) (y9 := (k : Int)) (y := y) (rec := free_l1 fu x y placed q) (hN k).2 fu (depsAt g k).length 0 (by omega) (by have := (hN k).1; omega)
        rw [List.drop_zero, wrs k (by omega)] at this
        rcases this with ⟨h3, h4⟩ | ⟨h3, d, hd, h4, h5, h6⟩
        · have h3 : free_l2 x y placed (k : Int) (free_l1 fu x y placed q) (depsAt g k) fu 0 = _ := h3
          exact ⟨b, by rw [h3]; exact h1, step fun _ _ => h4⟩
        · have h3 : free_l2 x y placed (k : Int) (free_l1 fu x y placed q) (depsAt g k) fu 0 = _ := h3
          refine ⟨false, h3, ?_⟩
          simp only [Bool.false_eq_true, false_iff]
          intro hf
          have := hf k (Nat.le_refl _) hk32 h0 hr d hd h4 h5
          rw [h6] at this; cases this
      · rw [bif_t (by simp [hr])]
        exact ⟨b, h1, step fun _ h => absurd h hr⟩
def Test (g : GGraph) (n : Nat) (x : GSearch) (out : List Nat) (placed : Vector Bool 32) (y : Nat) : Prop := pathB g n y = true ∧ y ∉ out ∧ iat x.ring y = (y : Int) ∧ Free g x y placed 0
theorem Test.cand (hR : Rings g n x) (hn : n < 32) (hO : OKO (pathB g) n out) (hP : ∀ k, k < 32 → bat placed k = decide (k ∈ out)) {y : Nat} (h : Test g n x out placed y) : candO (pathB g) n out y = true := by
  obtain ⟨h1, h2, h3, h4⟩ := h
  have hpre := pathB_pre g
  have hy32 := hpre.lt _ _ hn h1
  rw [candO_iff]
  refine ⟨h1, h2, fun d hd hyd => ?_⟩
  have hcl : ∀ a b, ((pathB g y a = true ∧ pathB g a y = true) ∨ a ∈ out) → Edge g a b → ((pathB g y b = true ∧ pathB g b y = true) ∨ b ∈ out) := by
    intro a b ha hab
    rcases ha with ⟨ha1, ha2⟩ | ha
    · have hyb := hpre.trans _ _ _ ha1 (pathB_iff.2 (Path.one hab))
      cases hby : pathB g b y with
      | true => exact .inl ⟨hyb, rfl⟩
      | false =>
        right
        have hna := hpre.trans _ _ _ h1 ha1
        have ha32 := hpre.lt _ _ hn hna
        obtain ⟨r, hr1, hr2⟩ := hR.ring a ha32 hna
        have hra : iat x.ring a = (y : Int) := by
          rw [hr1, least_uniq hr2 (hR.least hn h1 h3) (pathB_iff.1 ha2) (pathB_iff.1 ha1)]
        have hma : iat x.mark_ a ≠ 0 := by have := (hR.mark a ha32).2 hna; omega
        have hnb := hpre.trans _ _ _ h1 hyb
        have hrb : iat x.ring b ≠ (y : Int) := fun e => by
          have := (hR.least hn hnb e).1
          rw [pathB_iff.2 this] at hby; cases hby
        have := h4 a (Nat.zero_le _) ha32 hma hra b hab.2.2.2 hab.2.2.1 hrb
        rw [hP b hab.2.2.2] at this
        simpa using this
    · exact .inr (hO.dc a ha b (pathB_iff.2 (Path.one hab)))
  have := Path.closed (S := fun a => (pathB g y a = true ∧ pathB g a y = true) ∨ a ∈ out) hcl (pathB_iff.1 hyd) (.inl ⟨hpre.refl y hy32, hpre.refl y hy32⟩)
  rcases this with h5 | h5
  · exact .inl h5.2
  · exact .inr h5
theorem Test.of_next (hR : Rings g n x) (hn : n < 32) (hO : OKO (pathB g) n out) (hP : ∀ k, k < 32 → bat placed k = decide (k ∈ out)) {c : Nat} (h : nextO (pathB g) n out = some c) : Test g n x out placed c := by
  have hpre := pathB_pre g
  obtain ⟨hc32, hcand, hmin⟩ := nextO_some h
  have hcand' := candO_iff.1 hcand
  obtain ⟨h1, h2, h3⟩ := hcand'
  obtain ⟨r, hr1, hr2⟩ := hR.ring c hc32 h1
  have hcr : pathB g c r = true := pathB_iff.2 hr2.1
  have hrc : pathB g r c = true := pathB_iff.2 hr2.2.1
  have hrle : r ≤ c := hr2.2.2 c (.refl _) (.refl _)
  have hr : r = c := by
    rcases Nat.lt_or_ge r c with hlt | hge
    · have hno := hmin r hlt
      have hy : candO (pathB g) n out r = true := by
        rw [candO_iff]
        refine ⟨hpre.trans _ _ _ h1 hcr, fun hro => h2 (hO.dc r hro c hrc), fun d hd hrd => ?_⟩
        · rcases h3 d hd (hpre.trans _ _ _ hcr hrd) with h4 | h4
          · exact .inl (hpre.trans _ _ _ h4 hcr)
          · exact .inr h4
      rw [hy] at hno; cases hno
    · omega
  subst hr
  refine ⟨h1, h2, hr1, fun a _ ha32 hma hra d hd hmd hrd => ?_⟩
  have hna := (hR.mark a ha32).1 (by have := hR.nonneg a ha32; omega)
  have hl := hR.least hn hna hra
  have had : pathB g a d = true := pathB_iff.2 (Path.one ⟨ha32, hR.known a hna, hmd, hd⟩)
  have hcd := hpre.trans _ _ _ (pathB_iff.2 hl.2.1) had
  rw [hP d hd]
  rcases h3 d hd hcd with h4 | h4
  · exfalso
    have hnd := hpre.trans _ _ _ h1 hcd
    obtain ⟨q, hq1, hq2⟩ := hR.ring d hd hnd
    refine hrd ?_
    rw [hq1, least_uniq hq2 hr2 (pathB_iff.1 h4) (pathB_iff.1 hcd)]
  · exact dec_t h4
def optI : Option Nat → Int
  | some a => a
  | none => -1
def PlacedBy (placed : Vector Bool 32) (out : List Nat) : Prop := ∀ k, k < 32 → bat placed k = decide (k ∈ out)
theorem ring_mem (hR : Rings g n x) (hn : n < 32) {c : Nat} (hc : pathB g n c = true) (hrc : iat x.ring c = (c : Int)) {k : Nat} (hk : k < 32) : (0 < iat x.mark_ k ∧ iat x.ring k = (c : Int)) ↔ (pathB g c k = true ∧ pathB g k c = true) := by
  have hpre := pathB_pre g
  constructor
  · rintro ⟨h1, h2⟩
    have hl := hR.least hn ((hR.mark k hk).1 h1) h2
    exact ⟨pathB_iff.2 hl.2.1, pathB_iff.2 hl.1⟩
  · rintro ⟨h1, h2⟩
    have hnk := hpre.trans _ _ _ hc h1
    refine ⟨(hR.mark k hk).2 hnk, ?_⟩
    obtain ⟨r, hr1, hr2⟩ := hR.ring k hk hnk
    rw [hr1, least_uniq hr2 (hR.least hn hc hrc) (pathB_iff.1 h2) (pathB_iff.1 h1)]
theorem gorder_l2_eq {rec : Vector Bool 32 → GSearch → List Int → Option (List Int)} (hR : Rings g n x) (hn : n < 32) {c : Nat} (hc : pathB g n c = true) (hrc : iat x.ring c = (c : Int)) : ∀ (q r k : Nat) (placed : Vector Bool 32) (o : List Nat), k + r = 32 → r < q → o.length ≤ k + 32 →
    PlacedBy placed o → ∃ placed', gorder_l2 rec x (c : Int) q placed (castL o) k = rec placed' x (castL (o ++ ((List.range 32).drop k).filter fun m => pathB g c m && pathB g m c)) ∧ PlacedBy placed' (o ++ ((List.range 32).drop k).filter fun m => pathB g c m && pathB g m c)
  | 0, r, k, placed, o, _, h, _, _ => absurd h (by omega)
  | q + 1, 0, k, placed, o, hk, _, _, hP => ⟨placed, by
      rw [gorder_l2, bif_f (dec_f (by omega)), List.drop_of_length_le (by simp; omega), List.filter_nil, List.append_nil], by
      rw [List.drop_of_length_le (by simp; omega), List.filter_nil, List.append_nil]; exact hP⟩
  | q + 1, r + 1, k, placed, o, hk, hq, ho, hP => by
    have hk32 : k < 32 := by omega
    have ih := fun placed o h1 h2 => gorder_l2_eq (rec := rec) hR hn hc hrc q r (k + 1) placed o (by omega) (by omega) h1 h2
    have hmem := ring_mem hR hn hc hrc hk32
    have hdrop : (List.range 32).drop k = k :: (List.range 32).drop (k + 1) := by
      rw [List.drop_eq_getElem_cons (by simp; omega)]
      simp
    rw [gorder_l2, bif_t (dec_t (by omega)), hdrop, List.filter_cons]
    simp only [inR_ok (show (0 : Int) ≤ (k : Int) by omega) (show (k : Int) < 32 by omega), some_bind, idxI hk32, gorder_j3, gorder_j2, wrs k (by omega)]
    have hno : ¬ (0 < iat x.mark_ k ∧ iat x.ring k = (c : Int)) → (pathB g c k && pathB g k c) = false := fun h => by
      cases h1 : (pathB g c k && pathB g k c) with
      | false => rfl
      | true => exact absurd (hmem.2 (by simpa using h1)) h
    by_cases h1 : 0 < iat x.mark_ k
    · rw [bif_t (dec_t h1)]
      by_cases h2 : iat x.ring k = (c : Int)
      · have h3 := hmem.1 ⟨h1, h2⟩
        rw [bif_t (by simp [h2]), idxB hk32]
        simp only [some_bind, setV_ok hk32]
        rw [app_ok (a := castL o) (b := [(k : Int)]) (len_bytes (show (castL o).length ≤ 100 by rw [castL_len]; omega)), some_bind, castL_snoc, h3.1, h3.2]
        obtain ⟨p', e1, e2⟩ := ih (placed.set k true) (o ++ [k]) (by simp; omega) (fun j hj => by
          rw [bat_set hk32, hP j hj]
          by_cases e : k = j
          · subst e; simp
          · have e2 : ¬ j = k := fun h => e h.symm
            simp [e, e2])
        refine ⟨p', ?_, ?_⟩
        · rw [e1]; simp
        · simpa using e2
      · rw [bif_f (by simp [h2]), hno (fun h => h2 h.2)]
        exact ih placed o (by omega) hP
    · rw [bif_f (dec_f h1), bif_f rfl, hno (fun h => h1 h.1)]
      exact ih placed o (by omega) hP
theorem gorder_l3_eq {fu N : Nat} (hN : Small g N) (hfu : N + 40 ≤ fu) {rec : Vector Bool 32 → GSearch → List Int → Option (List Int)} (hR : Rings g n x) (hn : n < 32) (hO : OKO (pathB g) n out) (hP : PlacedBy placed out) : ∀ (q r k : Nat), k + r = 32 → r < q → (∀ j, j < k → candO (pathB g) n out j = true → nextO (pathB g) n out ≠ some j) →
    gorder_l3 fu placed (castL out) rec q x (-1) k = gorder_j1 fu placed (castL out) rec x (optI (nextO (pathB g) n out))
  | 0, r, k, _, h, _ => absurd h (by omega)
  | q + 1, 0, k, hk, _, hno => by
    rw [gorder_l3, bif_f (dec_f (by omega))]
    cases hc : nextO (pathB g) n out with
    | none => rfl
    | some c =>
      have := nextO_some hc
      exact absurd hc (hno c (by omega) this.2.1)
  | q + 1, r + 1, k, hk, hq, hno => by
    have hk32 : k < 32 := by omega
    have ih := fun h => gorder_l3_eq hN hfu (rec := rec) hR hn hO hP q r (k + 1) (by omega) (by omega) h
    have step : ¬ Test g n x out placed k → (∀ j, j < k + 1 → candO (pathB g) n out j = true → nextO (pathB g) n out ≠ some j) := fun ht j hj hcj he => by
      by_cases e : j = k
      · subst e
        exact ht (Test.of_next hR hn hO hP he)
      · exact hno j (by omega) hcj he
    rw [gorder_l3, bif_t (dec_t (by omega))]
    simp only [inR_ok (show (0 : Int) ≤ (k : Int) by omega) (show (k : Int) < 32 by omega), some_bind, idxI hk32, idxB hk32, gorder_j5, gorder_j4, wrs k (by omega)]
    by_cases h1 : 0 < iat x.mark_ k
    · have hnk := (hR.mark k hk32).1 h1
      rw [bif_t (dec_t h1), hP k hk32]
      by_cases h2 : k ∈ out
      · rw [dec_t h2, bif_f (c := !true) rfl]
        exact ih (step fun ht => ht.2.1 h2)
      · rw [dec_f h2, bif_t (c := !false) rfl]
        by_cases h3 : iat x.ring k = (k : Int)
        · rw [bif_t (by simp [h3])]
          obtain ⟨b, h4, h5⟩ := free_l1_eq (placed := placed) hN (show N ≤ fu by omega) hR.same (y := (k : Int)) fu 32 0 (by omega) (by omega)
          have h4 : freeD fu x (k : Int) placed = some b := h4
          rw [h4, some_bind]
          cases hb : b with
          | true =>
            rw [bif_t rfl]
            have ht : Test g n x out placed k := ⟨hnk, h2, h3, h5.1 hb⟩
            have hcand := ht.cand hR hn hO hP
            have hnext : nextO (pathB g) n out = some k := by
              cases hc : nextO (pathB g) n out with
              | none => rw [nextO_none.1 hc k hk32] at hcand; cases hcand
              | some c =>
                obtain ⟨c1, c2, c3⟩ := nextO_some hc
                rcases Nat.lt_trichotomy c k with h | h | h
                · exact absurd hc (hno c h c2)
                · rw [h]
                · rw [c3 k h] at hcand; cases hcand
            rw [hnext]; rfl
          | false =>
            rw [bif_f rfl]
            refine ih (step fun ht => ?_)
            rw [h5.2 ht.2.2.2] at hb
            cases hb
        · rw [bif_f (by simp [h3]), bif_f rfl]
          exact ih (step fun ht => h3 ht.2.2.1)
    · rw [bif_f (dec_f h1), bif_f rfl]
      exact ih (step fun ht => h1 ((hR.mark k hk32).2 ht.1))
theorem gorder_l1_eq {fu N : Nat} (hN : Small g N) (hfu : N + 40 ≤ fu) (hR : Rings g n x) (hn : n < 32) : ∀ (q k : Nat) (out : List Nat) (placed : Vector Bool 32), OKO (pathB g) n out → PlacedBy placed out → k < q → 32 ≤ k + out.length →
    gorder_l1 fu q placed x (castL out) = some (castL (orderF (pathB g) n k out))
  | 0, k, out, placed, _, _, h, _ => absurd h (by omega)
  | q + 1, k, out, placed, hO, hP, hq, hk => by
    have hpre := pathB_pre g
    have h3 := gorder_l3_eq hN hfu (rec := gorder_l1 fu q) hR hn hO hP fu 32 0 (by omega) (by omega) (fun j hj => absurd hj (by omega))
    have h3 : gorder_l3 fu placed (castL out) (gorder_l1 fu q) fu x (-1) 0 = _ := h3
    rw [gorder_l1, h3, gorder_j1]
    cases hc : nextO (pathB g) n out with
    | none =>
      rw [bif_t (by rfl)]
      cases k with
      | zero => rfl
      | succ k => simp [orderF, hc]
    | some c =>
      obtain ⟨hc32, hcand, _⟩ := nextO_some hc
      have ht := Test.of_next hR hn hO hP hc
      have hle := hO.len
      show (bif decide ((c : Int) < 0) then _ else _) = _
      rw [bif_f (dec_f (by omega))]
      obtain ⟨p', e1, e2⟩ := gorder_l2_eq (rec := gorder_l1 fu q) hR hn ht.1 ht.2.2.1 fu 32 0 placed out (by omega) (by omega) (by omega) hP
      have e1 : gorder_l2 (gorder_l1 fu q) x (c : Int) fu placed (castL out) 0 = _ := e1
      show gorder_l2 (gorder_l1 fu q) x (c : Int) fu placed (castL out) 0 = _
      rw [e1]
      rw [List.drop_zero] at e2 ⊢
      have hstep := hO.step hpre hn hc
      have hlen := List.length_pos_of_mem (ringO_self hpre hc32)
      cases k with
      | zero => rw [hO.full (by omega)] at hc; cases hc
      | succ k =>
        have := gorder_l1_eq hN hfu hR hn q k (out ++ ringO (pathB g) c) p' hstep e2 (by omega) (by rw [List.length_append]; omega)
        rw [orderF, hc]
        exact this
end
theorem readyZ_known {g : GGraph} {s : Nat} (hs : s < 32) (h : readyZ g (s : Int) = true) : ∀ k, pathB g s k = true → bat g.known k = true := by
  intro k hk
  have h1 := (readyZ_iff.1 h).2 k (Nat.zero_le _) (path_lt (pathB_iff.1 hk) hs)
  refine h1 ?_
  unfold reachZ
  rw [if_pos (by omega)]
  exact (bat_reachV (path_lt (pathB_iff.1 hk) hs)).2 (pathB_iff.1 hk)
theorem gorderD_eq {fu N : Nat} {g : GGraph} (hN : Small g N) (hfu : N + 80 ≤ fu) (x : Int) : gorderD fu g x = some (orderZ g x) := by
  unfold gorderD orderZ
  rw [readyD_eq hN (by omega), some_bind]
  cases hr : readyZ g x with
  | false => rw [bif_t (c := !false) rfl, if_neg (by simp)]
  | true =>
    rw [bif_f (c := !true) rfl, if_pos rfl, some_bind]
    obtain ⟨hx, _⟩ := readyZ_iff.1 hr
    obtain ⟨s, hs, rfl⟩ : ∃ s : Nat, s < 32 ∧ x = s := ⟨x.toNat, by omega, by omega⟩
    have hkn := readyZ_known hs hr
    obtain ⟨x', l', h1, h2, h3, h4, h5⟩ := visitD_eq hN (show N + 40 ≤ fu by omega) hs
    rw [h1, some_bind]
    have hself : pathB g s s = true := (pathB_pre g).refl s hs
    have hR : Rings g s x' := ⟨h2, hkn, fun k hk => by rw [h3 k hk, path_same hkn hself, pathB_iff], h4, fun k hk hp => by
      obtain ⟨r, e1, e2, e3, e4⟩ := h5 k hk ((path_same hkn hself).2 (pathB_iff.1 hp))
      have hnr : pathB g s r = true := pathB_iff.2 ((pathB_iff.1 hp).trans ((path_same hkn hp).1 e2))
      refine ⟨r, e1, (path_same hkn hp).1 e2, (path_same hkn hnr).1 e3, fun w hw1 hw2 => e4 w ((path_same hkn hp).2 hw1) ?_⟩
      exact (path_same hkn (pathB_iff.2 ((pathB_iff.1 hp).trans hw1))).2 hw2⟩
    exact gorder_l1_eq hN (by omega) hR hs fu 32 [] (Zr.zd : Vector Bool 32) OKO.nil (fun k _ => by rw [bat_zero]; simp) (by omega) (by simp)
section
variable {g : GGraph} {n : Nat} {out : List Nat} {R : Vector (Vector Bool 32) 32}
theorem idxR {m : Nat} (hm : m < 32) : idxV R (m : Int) = some R[m] := idxV_ok hm
def Reaches (g : GGraph) (R : Vector (Vector Bool 32) 32) : Prop := ∀ m (h : m < 32), ∀ d, d < 32 → bat R[m] d = pathB g m d
theorem orderOf_l4_eq (hR : Reaches g R) {y59 : Int} {rec : Int → Int → Option (List Int)} {m : Nat} (hm : m < 32) : ∀ (q r k : Nat) (c : Bool), k + r = 32 → r < q →
    orderOf_l4 R (castL out) y59 m rec q c k = rec (bif (c && ((List.range 32).drop k).all fun d => !pathB g m d || (pathB g d m || out.contains d)) then (m : Int) else y59) (IntKind.wrap .i64 ((m : Int) - 1))
  | 0, r, k, c, _, h => absurd h (by omega)
  | q + 1, 0, k, c, hk, _ => by
    rw [orderOf_l4, bif_f (dec_f (by omega)), List.drop_of_length_le (by simp; omega)]
    cases c <;> rfl
  | q + 1, r + 1, k, c, hk, hq => by
    have hk32 : k < 32 := by omega
    have ih := fun c => orderOf_l4_eq hR (y59 := y59) (rec := rec) hm q r (k + 1) c (by omega) (by omega)
    have hdrop : (List.range 32).drop k = k :: (List.range 32).drop (k + 1) := by
      rw [List.drop_eq_getElem_cons (by simp; omega)]
      simp
    rw [orderOf_l4, bif_t (dec_t (by omega)), hdrop, List.all_cons]
    have i1 : inR (k : Int) 32 = some () := inR_ok (by omega) (by omega)
    have i2 : inR (m : Int) 32 = some () := inR_ok (by omega) (by omega)
    simp only [orderOf_j4, wrs k (by omega), i1, i2, some_bind, idxR hm, idxR hk32, idxB hk32, idxB hm, hR m hm k hk32, hR k hk32 m hm, hasZ_castL, ih]
    cases c with
    | false => rfl
    | true =>
      cases hp : pathB g m k with
      | false => rfl
      | true =>
        cases hq : pathB g k m with
        | true => rfl
        | false =>
          simp only [Bool.not_true, cond_false, cond_true, Bool.false_or, Bool.true_and, List.contains_eq_mem]
theorem orderOf_l3_eq (hR : Reaches g R) (hn : n < 32) {fu : Nat} (hfu : 40 ≤ fu) {rec : List Int → Option (List Int)} : ∀ (q k : Nat) (c : Option Nat), k ≤ 32 → k < q → (∀ a, c = some a → k ≤ a ∧ a < 32 ∧ candO (pathB g) n out a = true ∧ ∀ j, k ≤ j → j < a → candO (pathB g) n out j = false) → (c = none → ∀ j, k ≤ j → j < 32 → candO (pathB g) n out j = false) →
    orderOf_l3 fu n R (castL out) rec q (optI c) ((k : Int) - 1) =
      match nextO (pathB g) n out with | none => some (castL out) | some a => orderOf_l5 R rec a fu (castL out) 0
  | 0, k, c, _, h, _, _ => absurd h (by omega)
  | q + 1, 0, c, _, _, hs, hnn => by
    rw [orderOf_l3, bif_f (dec_f (by omega))]
    cases c with
    | none =>
      rw [nextO_none.2 fun j hj => hnn rfl j (by omega) hj]
      rw [bif_t (by rfl)]; rfl
    | some a =>
      obtain ⟨_, h1, h2, h3⟩ := hs a rfl
      rw [nextO_of h1 h2 fun j hj => h3 j (by omega) hj]
      show (bif decide ((a : Int) < 0) then _ else _) = _
      rw [bif_f (dec_f (by omega))]
      rfl
  | q + 1, k + 1, c, hk, hq, hs, hnn => by
    have hk32 : k < 32 := by omega
    have e0 : (((k + 1 : Nat) : Int) - 1) = (k : Int) := by omega
    have e1 : IntKind.wrap .i64 ((k : Int) - 1) = (k : Int) - 1 := wr64 (by omega) (by omega)
    have ih := fun c h1 h2 => orderOf_l3_eq hR hn hfu (rec := rec) q k c (by omega) (by omega) h1 h2
    have i1 : inR (k : Int) 32 = some () := inR_ok (by omega) (by omega)
    have i2 : inR (n : Int) 32 = some () := inR_ok (by omega) (by omega)
    rw [e0, orderOf_l3, bif_t (dec_t (by omega))]
    simp only [i1, i2, some_bind, idxR hn, idxB hk32, hR n hn k hk32, hasZ_castL, orderOf_j5, orderOf_j2, orderOf_j3, e1]
    have hno : candO (pathB g) n out k = false → orderOf_l3 fu n R (castL out) rec q (optI c) ((k : Int) - 1) =
        match nextO (pathB g) n out with | none => some (castL out) | some a => orderOf_l5 R rec a fu (castL out) 0 := fun hc => by
      refine ih c (fun a ha => ?_) (fun hcn j hj hj2 => ?_)
      · obtain ⟨h1, h2, h3, h4⟩ := hs a ha
        refine ⟨by omega, h2, h3, fun j hj hj2 => ?_⟩
        by_cases e : j = k
        · subst e; exact hc
        · exact h4 j (by omega) hj2
      · by_cases e : j = k
        · subst e; exact hc
        · exact hnn hcn j (by omega) hj2
    cases hp : pathB g n k with
    | false =>
      rw [bif_t (c := !false) rfl, bif_t rfl]
      exact hno (by simp [candO, hp])
    | true =>
      rw [bif_f (c := !true) rfl]
      by_cases hm : k ∈ out
      · rw [dec_t hm, bif_t rfl]
        exact hno (by simp [candO, hm])
      · rw [dec_f hm, bif_f rfl]
        have h4 := orderOf_l4_eq (out := out) hR (y59 := (optI c)) (rec := orderOf_l3 fu n R (castL out) rec q) hk32 fu 32 0 true (by omega) (by omega)
        have h4 : orderOf_l4 R (castL out) (optI c) (k : Int) (orderOf_l3 fu n R (castL out) rec q) fu true 0 = _ := h4
        rw [h4, e1, List.drop_zero, Bool.true_and]
        have hcand : candO (pathB g) n out k = (List.range 32).all fun d => !pathB g k d || (pathB g d k || out.contains d) := by
          unfold candO
          rw [hp]
          simp [hm]
        cases hall : (List.range 32).all fun d => !pathB g k d || (pathB g d k || out.contains d) with
        | false =>
          rw [bif_f rfl]
          exact hno (by rw [hcand, hall])
        | true =>
          rw [bif_t rfl]
          refine ih (some k) (fun a ha => ?_) (fun h => by cases h)
          cases ha
          exact ⟨Nat.le_refl _, hk32, by rw [hcand, hall], fun j hj hj2 => by omega⟩
theorem orderOf_l5_eq (hR : Reaches g R) {rec : List Int → Option (List Int)} {c : Nat} (hc : c < 32) : ∀ (q r k : Nat) (o : List Nat), k + r = 32 → r < q → o.length ≤ k + 32 →
    orderOf_l5 R rec c q (castL o) k = rec (castL (o ++ ((List.range 32).drop k).filter fun m => pathB g c m && pathB g m c))
  | 0, r, k, o, _, h, _ => absurd h (by omega)
  | q + 1, 0, k, o, hk, _, _ => by
    rw [orderOf_l5, bif_f (dec_f (by omega)), List.drop_of_length_le (by simp; omega), List.filter_nil, List.append_nil]
  | q + 1, r + 1, k, o, hk, hq, ho => by
    have hk32 : k < 32 := by omega
    have ih := fun o h => orderOf_l5_eq hR (rec := rec) hc q r (k + 1) o (by omega) (by omega) h
    have hdrop : (List.range 32).drop k = k :: (List.range 32).drop (k + 1) := by
      rw [List.drop_eq_getElem_cons (by simp; omega)]
      simp
    have i1 : inR (k : Int) 32 = some () := inR_ok (by omega) (by omega)
    have i2 : inR (c : Int) 32 = some () := inR_ok (by omega) (by omega)
    rw [orderOf_l5, bif_t (dec_t (by omega)), hdrop, List.filter_cons]
    simp only [i1, i2, some_bind, idxR hc, idxR hk32, idxB hk32, idxB hc, hR c hc k hk32, hR k hk32 c hc, orderOf_j7, orderOf_j6, wrs k (by omega)]
    have i0 := ih o (by omega)
    have i3 := ih (o ++ [k]) (by simp; omega)
    cases pathB g k c <;> cases pathB g c k
    · exact i0
    · exact i0
    · exact i0
    · simp only [cond_true, Bool.and_self, if_true]
      rw [app_ok (a := castL o) (b := [(k : Int)]) (len_bytes (show (castL o).length ≤ 100 by rw [castL_len]; omega)), some_bind, castL_snoc, i3]
      simp
theorem orderOf_l2_eq (hR : Reaches g R) (hn : n < 32) {fu : Nat} (hfu : 40 ≤ fu) : ∀ (q k : Nat) (out : List Nat), OKO (pathB g) n out → k < q → 32 ≤ k + out.length → orderOf_l2 fu n R q (castL out) = some (castL (orderF (pathB g) n k out))
  | 0, k, out, _, h, _ => absurd h (by omega)
  | q + 1, k, out, hO, hq, hk => by
    have hpre := pathB_pre g
    rw [orderOf_l2, castL_len]
    by_cases hl : out.length < 32
    · rw [bif_t (dec_t (by omega))]
      have h3 := orderOf_l3_eq (out := out) hR hn hfu (rec := orderOf_l2 fu n R q) fu 32 none (by omega) (by omega) (fun a h => by cases h) (fun _ j h1 h2 => by omega)
      have h3 : orderOf_l3 fu n R (castL out) (orderOf_l2 fu n R q) fu (-1) 31 = _ := h3
      rw [h3]
      obtain ⟨k, rfl⟩ : ∃ a, k = a + 1 := ⟨k - 1, by omega⟩
      rw [orderF]
      cases hc : nextO (pathB g) n out with
      | none => rfl
      | some c =>
        obtain ⟨hc32, hcand, _⟩ := nextO_some hc
        have hstep := hO.step hpre hn hc
        have hlen := List.length_pos_of_mem (ringO_self hpre hc32)
        have h5 := orderOf_l5_eq hR (rec := orderOf_l2 fu n R q) hc32 fu 32 0 out (by omega) (by omega) (by omega)
        have h5 : orderOf_l5 R (orderOf_l2 fu n R q) (c : Int) fu (castL out) 0 = _ := h5
        show orderOf_l5 R (orderOf_l2 fu n R q) (c : Int) fu (castL out) 0 = some (castL (orderF (pathB g) n k (out ++ ringO (pathB g) c)))
        rw [h5, List.drop_zero]
        exact orderOf_l2_eq hR hn hfu q k (out ++ ringO (pathB g) c) hstep (by omega) (by rw [List.length_append]; omega)
    · rw [bif_f (dec_f (by omega))]
      have hfull := hO.full (by omega)
      cases k with
      | zero => rfl
      | succ k => simp [orderF, hfull, orderOf_j1]
end
theorem orderOf_l1_eq {fu N : Nat} {g : GGraph} (hN : Small g N) (hfu : N + 40 ≤ fu) {s : Nat} (hs : s < 32) : ∀ (q r k : Nat) (R : Vector (Vector Bool 32) 32), k + r = 32 → r < q → (∀ m (h : m < 32), m < k → ∀ d, d < 32 → bat R[m] d = pathB g m d) →
    orderOf_l1 fu g s q R k = some (castL (orderS (pathB g) s))
  | 0, r, k, R, _, h, _ => absurd h (by omega)
  | q + 1, 0, k, R, hk, _, hR => by
    rw [orderOf_l1, bif_f (dec_f (by omega))]
    exact orderOf_l2_eq (fun m h d hd => hR m h (by omega) d hd) hs (by omega) fu 32 [] OKO.nil (by omega) (by simp)
  | q + 1, r + 1, k, R, hk, hq, hR => by
    have hk32 : k < 32 := by omega
    rw [orderOf_l1, bif_t (dec_t (by omega)), reachesD_eq hN hfu, some_bind, inR_ok (by omega) (by omega), some_bind, idxV_ok hk32, some_bind, setV_ok hk32, some_bind, some_bind, wrs k (by omega)]
    refine orderOf_l1_eq hN hfu hs q r (k + 1) _ (by omega) (by omega) fun m h hm d hd => ?_
    rw [Vector.getElem_set]
    by_cases e : k = m
    · subst e
      rw [if_pos rfl]
      unfold reachZ
      rw [if_pos (by omega), Bool.eq_iff_iff, bat_reachV hd, pathB_iff]
      rfl
    · rw [if_neg e]
      exact hR m h (by omega) d hd
theorem orderOfD_eq {fu N : Nat} {g : GGraph} (hN : Small g N) (hfu : N + 80 ≤ fu) (x : Int) : orderOfD fu g x = some (orderZ g x) := by
  unfold orderOfD orderZ
  rw [readyInD_eq hN (by omega), some_bind]
  cases hr : readyZ g x with
  | false => rw [bif_t (c := !false) rfl, if_neg (by simp)]
  | true =>
    rw [bif_f (c := !true) rfl, if_pos rfl]
    obtain ⟨hx, _⟩ := readyZ_iff.1 hr
    obtain ⟨s, hs, rfl⟩ : ∃ s : Nat, s < 32 ∧ x = s := ⟨x.toNat, by omega, by omega⟩
    exact orderOf_l1_eq hN (by omega) hs fu 32 0 _ (by omega) (by omega) fun m h hm => absurd hm (by omega)
end Go.Proofs.Ytopgdemmdcipcaa
namespace Go.Proofs.Ytopgdemmdcipcaa
open Go.RowKit
open Rep (rep)
theorem rising_ge {l : List Int} (h : risingZ l = true) : ∀ i, i < l.length → (i : Int) ≤ l.getD i 0 ∧ l.getD i 0 < 32 := by
  unfold risingZ at h
  rw [allTo_iff] at h
  intro i
  induction i with
  | zero =>
    intro hi
    have := h 0 hi
    unfold riseAt at this
    simp only [Bool.and_eq_true, decide_eq_true_eq] at this
    exact ⟨by have := this.1.1; simpa using this, this.1.2⟩
  | succ i ih =>
    intro hi
    have h1 := ih (by omega)
    have := h (i + 1) hi
    unfold riseAt at this
    simp only [Bool.and_eq_true, decide_eq_true_eq, Bool.or_eq_true, beq_iff_eq, Nat.add_sub_cancel] at this
    refine ⟨?_, this.1.2⟩
    rcases this.2 with h2 | h2
    · omega
    · push_cast
      omega
theorem rising_len {l : List Int} (h : risingZ l = true) : l.length ≤ 32 := by
  rcases Nat.lt_or_ge 32 l.length with h1 | h1
  · have := rising_ge h 32 h1
    omega
  · exact h1
theorem goodOps_len {l : List GOp} (h : goodOpsZ l = true) : 0 < l.length ∧ l.length ≤ 4 := by
  unfold goodOpsZ at h
  simp only [Bool.and_eq_true, decide_eq_true_eq] at h
  omega
theorem goodOps_mem {l : List GOp} (h : goodOpsZ l = true) : ∀ o ∈ l, 1 ≤ o.kind ∧ o.kind ≤ 3 ∧ 0 ≤ o.key ∧ o.key < 8 ∧ -1099511627776 ≤ o.n ∧ o.n ≤ 1099511627776 := by
  intro o ho
  unfold goodOpsZ at h
  simp only [Bool.and_eq_true] at h
  have h1 := (allTo_iff _ _).1 h.1
  obtain ⟨i, hi, rfl⟩ := List.getElem_of_mem ho
  have := h1 i hi
  unfold opAt at this
  rw [List.getD_eq_getElem?_getD, List.getElem?_eq_getElem hi] at this
  simp only [Option.getD_some, Bool.and_eq_true] at this
  have := this.1
  unfold goodOp at this
  simp only [decide_eq_true_eq] at this
  omega
def FSz (f : GFrame) : Prop := f.ops.length * 24 ≤ 140737488351232 ∧ f.deps.length * 8 ≤ 140737488351232 ∧ f.at_.length * 8 ≤ 140737488351232 ∧ f.vals.length * 8 ≤ 140737488351232
theorem lawFrameD_eq {f : GFrame} (h : FSz f) {fu : Nat} : lawFrameD fu f = some f := by
  obtain ⟨h1, h2, h3, h4⟩ := h
  unfold lawFrameD
  rw [app_ok (by simp [Rep.bytes]; omega), some_bind, app_ok (by simp [Rep.bytes]; omega), some_bind, some_bind, some_bind, app_ok (by simp [Rep.bytes]; omega), some_bind, app_ok (by simp [Rep.bytes]; omega), some_bind, some_bind, some_bind, some_bind]
  rfl
end Go.Proofs.Ytopgdemmdcipcaa
namespace Go.Proofs.Ytopgdemmdcipcaa
open Go.RowKit
open Rep (rep)
theorem sameOps_l1_eq {a : List GOp} (ha : a.length ≤ 9000000000000000) : ∀ (n m k : Nat), a.length = k + m → m < n → sameOps_l1 a a n k = some true
  | 0, m, k, _, h => absurd h (by omega)
  | n + 1, 0, k, hk, _ => by rw [sameOps_l1, bif_f (dec_f (by omega))]
  | n + 1, m + 1, k, hk, hn => by
    obtain ⟨x, hx⟩ : ∃ x, a[k]? = some x := ⟨a[k], by simp⟩
    have := sameOps_l1_eq ha n m (k + 1) (by omega) (by omega)
    rw [sameOps_l1, bif_t (dec_t (by omega)), idx_nat, hx, some_bind, some_bind, bif_f (by simp), wr64 (by omega) (by omega)]
    simpa using this
theorem sameOpsD_refl {a : List GOp} {fu : Nat} (ha : a.length ≤ 9000000000000000) (hf : a.length < fu) : sameOpsD fu a a = some true := by
  rw [sameOpsD, bif_f (by simp)]
  exact sameOps_l1_eq ha fu a.length 0 (by omega) hf
theorem sameOpsD_nil {a : List GOp} {fu : Nat} (hf : 0 < fu) : sameOpsD fu a [] = some ((a.length : Int) == 0) := by
  obtain ⟨fu, rfl⟩ : ∃ n, fu = n + 1 := ⟨fu - 1, by omega⟩
  unfold sameOpsD
  cases a with
  | nil => rfl
  | cons o t =>
    rw [bif_t (by simp; omega)]
    congr 1
theorem sameZ_nil (l : List Int) : sameZ l [] = ((l.length : Int) == 0) := by
  cases l with
  | nil => rfl
  | cons a t =>
    rw [show ((((a :: t).length : Nat) : Int) == 0) = false from by simp; omega]
    unfold sameZ
    simp
theorem sameFrameD_refl {fu : Nat} {f : GFrame} (h : f.ops.length ≤ 4) (hf : 5 ≤ fu) : sameFrameD fu f f = some true := by
  unfold sameFrameD sameFrame_j1
  rw [sameOpsD_refl (by omega) (by omega)]
  simp only [some_bind, sameZ_refl, beq_self_eq_true, cond_true]
theorem sameFrames_l1_eq {fu : Nat} {a : List GFrame} (hf : 5 ≤ fu) (ha : a.length ≤ 9000000000000000) (h : ∀ f ∈ a, f.ops.length ≤ 4) : ∀ (n m k : Nat), a.length = k + m → m < n → sameFrames_l1 fu a a n k = some true
  | 0, m, k, _, h => absurd h (by omega)
  | n + 1, 0, k, hk, _ => by rw [sameFrames_l1, bif_f (dec_f (by omega))]
  | n + 1, m + 1, k, hk, hn => by
    obtain ⟨x, hx⟩ : ∃ x, a[k]? = some x := ⟨a[k], by simp⟩
    have := sameFrames_l1_eq hf ha h n m (k + 1) (by omega) (by omega)
    rw [sameFrames_l1, bif_t (dec_t (by omega)), idx_nat, hx, some_bind, some_bind, sameFrameD_refl (h x (List.mem_of_getElem? hx)) hf, some_bind, bif_f (c := !true) rfl, wr64 (by omega) (by omega)]
    simpa using this
theorem sameFramesD_refl {fu : Nat} {a : List GFrame} (hf : a.length + 5 ≤ fu) (ha : a.length ≤ 9000000000000000) (h : ∀ f ∈ a, f.ops.length ≤ 4) : sameFramesD fu a a = some true := by
  rw [sameFramesD, bif_f (by simp)]
  exact sameFrames_l1_eq (by omega) ha h fu a.length 0 (by omega) (by omega)
end Go.Proofs.Ytopgdemmdcipcaa
namespace Go.Proofs.Ytopgdemmdcipcaa
open Go.RowKit
open Rep (rep)
def eat (v : Vector GEntry 32) (k : Nat) : GEntry := v[k]?.getD Zr.zd
theorem eat_lt {v : Vector GEntry 32} {k : Nat} (hk : k < 32) : v[k] = eat v k := by simp [eat, hk]
theorem idxE {v : Vector GEntry 32} {k : Nat} (hk : k < 32) : idxV v (k : Int) = some (eat v k) := by rw [idxV_ok hk, eat_lt hk]
theorem eat_set {v : Vector GEntry 32} {k j : Nat} {x : GEntry} (hk : k < 32) : eat (v.set k x) j = if k = j then x else eat v j := by
  unfold eat
  by_cases hj : j < 32
  · simp only [Vector.getElem?_set]
    by_cases e : k = j
    · subst e; simp
    · simp [e]
  · have hkj : k ≠ j := by omega
    simp [hj, hkj]
theorem eat_ext {v u : Vector GEntry 32} (h : ∀ k, k < 32 → eat v k = eat u k) : v = u := by
  refine Vector.ext fun k hk => ?_
  rw [eat_lt hk, eat_lt hk]
  exact h k hk
theorem eat_out {v : Vector GEntry 32} {k : Nat} (hk : ¬ k < 32) : eat v k = Zr.zd := by simp [eat, hk]
def emptyE (e : GEntry) : Bool := ((e.ops.length : Int) == 0) && (((e.first.length : Int) == 0) && (((e.deps.length : Int) == 0) && (((e.at_.length : Int) == 0) && ((e.values.length : Int) == 0))))
def atUp (m : Int) : Int → List Int → Bool
  | _, [] => true
  | b, k :: t => decide (b < k ∧ k < m) && atUp m k t
def bodyOk (k : Int) (e : GEntry) : Bool := goodOpsZ e.ops && (risingZ e.first && (risingZ e.deps && (!hasZ e.first k && (!hasZ e.deps k && (!(e.state == 1 && decide ((e.deps.length : Int) > 0)) && (!(e.state != 3 && decide ((e.at_.length : Int) > 0)) && (!((e.at_.length : Int) != (e.values.length : Int)) && atUp e.ops.length (-1) e.at_)))))))
def restOk (k : Int) (e : GEntry) : Bool := bif e.state == 0 then emptyE e else bodyOk k e
def entryOk (k : Int) (e : GEntry) (there : Bool) : Bool := decide (0 ≤ e.state ∧ e.state ≤ 3) && (((e.state == 3) == there) && restOk k e)
structure GoodN (s : GNode) : Prop where
  nodup : s.order.Nodup
  inr : ∀ m ∈ s.order, 0 ≤ m ∧ m < 32
  ent : ∀ k : Nat, k < 32 → entryOk k (eat s.entries k) (decide ((k : Int) ∈ s.order)) = true
open Classical in
noncomputable def goodN (s : GNode) : Bool := decide (GoodN s)
theorem goodN_iff {s : GNode} : goodN s = true ↔ GoodN s := by simp [goodN]
structure ESz (e : GEntry) (N : Nat) : Prop where
  ops : e.ops.length < N ∧ e.ops.length * 24 ≤ 140737488351232
  first : e.first.length < N ∧ e.first.length ≤ 17592186043904
  deps : e.deps.length < N ∧ e.deps.length ≤ 17592186043904
  at_ : e.at_.length < N ∧ e.at_.length ≤ 17592186043904
  values : e.values.length < N ∧ e.values.length ≤ 17592186043904
structure NSz (s : GNode) (N : Nat) : Prop where
  order : s.order.length < N ∧ s.order.length ≤ 17592186043904
  ent : ∀ k, ESz (eat s.entries k) N
theorem nodeGood_l3_eq {y69 : Int} {rec70 : Int → Option Bool} {e : GEntry} (ha : e.at_.length ≤ 17592186043904) : ∀ (n m k : Nat) (b : Int), e.at_.length = k + m → m < n → -1 ≤ b → (k = 0 → b = -1) → (∀ j, k = j + 1 → e.at_[j]? = some b) →
    nodeGood_l3 y69 rec70 e n k = bif atUp e.ops.length b (e.at_.drop k) then nodeGood_j4 y69 rec70 else some false
  | 0, m, k, b, _, h, _, _, _ => absurd h (by omega)
  | n + 1, 0, k, b, hk, _, _, _, _ => by
    rw [nodeGood_l3, bif_f (dec_f (by omega)), List.drop_of_length_le (by omega)]
    rfl
  | n + 1, m + 1, k, b, hk, hn, hb, hb0, hbj => by
    have hlt : k < e.at_.length := by omega
    have hx : e.at_[k]? = some e.at_[k] := List.getElem?_eq_getElem hlt
    have ih := nodeGood_l3_eq (y69 := y69) (rec70 := rec70) ha n m (k + 1) e.at_[k] (by omega) (by omega)
    rw [nodeGood_l3, bif_t (dec_t (by omega)), idx_nat, hx, some_bind, List.drop_eq_getElem_cons hlt]
    simp only [nodeGood_j8, nodeGood_j7, wrs k (by omega), atUp]
    generalize hg : e.at_[k] = x at ih hx
    by_cases h1 : x < 0
    · rw [bif_t (dec_t h1), dec_f (show ¬ (b < x ∧ x < (e.ops.length : Int)) by omega)]
      rfl
    · rw [bif_f (dec_f h1)]
      have ih := ih (by omega) (by omega) (fun j hj => by rw [show j = k from by omega]; exact hx)
      by_cases h2 : x ≥ (e.ops.length : Int)
      · rw [bif_t (dec_t h2), dec_f (show ¬ (b < x ∧ x < (e.ops.length : Int)) by omega)]
        rfl
      · rw [bif_f (dec_f h2)]
        cases k with
        | zero =>
          rw [bif_f (dec_f (by omega)), dec_t (show b < x ∧ x < (e.ops.length : Int) by have := hb0 rfl; omega), Bool.true_and, ← ih]
          rfl
        | succ j =>
          rw [bif_t (dec_t (by omega)), show IntKind.wrap .i64 (((j + 1 : Nat) : Int) - 1) = (j : Int) by rw [wr64 (by omega) (by omega)]; omega, idx_nat, hbj j rfl, some_bind]
          by_cases h3 : b ≥ x
          · rw [dec_t h3, dec_f (show ¬ (b < x ∧ x < (e.ops.length : Int)) by omega)]
            rfl
          · rw [dec_f h3, dec_t (show b < x ∧ x < (e.ops.length : Int) by omega), Bool.true_and, ← ih]
            rfl
theorem empty_sum {e : GEntry} {N : Nat} (h : ESz e N) : decide ((IntKind.wrap .i64 ((IntKind.wrap .i64 ((IntKind.wrap .i64 ((IntKind.wrap .i64 ((e.ops.length : Int) + (e.first.length : Int))) + (e.deps.length : Int))) + (e.at_.length : Int))) + (e.values.length : Int))) > 0) = !emptyE e := by
  obtain ⟨⟨_, h1⟩, ⟨_, h2⟩, ⟨_, h3⟩, ⟨_, h4⟩, ⟨_, h5⟩⟩ := h
  unfold emptyE
  generalize e.ops.length = a1 at *
  generalize e.first.length = a2 at *
  generalize e.deps.length = a3 at *
  generalize e.at_.length = a4 at *
  generalize e.values.length = a5 at *
  rw [wr64 (x := (a1 : Int) + a2) (by omega) (by omega), wr64 (x := (a1 : Int) + a2 + a3) (by omega) (by omega), wr64 (x := (a1 : Int) + a2 + a3 + a4) (by omega) (by omega), wr64 (by omega) (by omega)]
  by_cases h : (a1 : Int) + a2 + a3 + a4 + a5 > 0
  · rw [dec_t h]
    symm
    rw [Bool.not_eq_true']
    apply Bool.eq_false_iff.2
    simp only [ne_eq, Bool.and_eq_true, beq_iff_eq]
    omega
  · rw [dec_f h]
    symm
    rw [Bool.not_eq_false']
    simp only [Bool.and_eq_true, beq_iff_eq]
    omega
theorem nodeGood_ent {fu N k : Nat} {e : GEntry} {there : Bool} (h : ESz e N) (hfu : N ≤ fu) {rec : Int → Option Bool} :
    (bif decide (e.state < 0) then nodeGood_j10 fu k rec e true else (bif decide (e.state > 3) then nodeGood_j10 fu k rec e true else nodeGood_j10 fu k rec e (!((e.state == 3) == there)))) = bif entryOk k e there then nodeGood_j4 k rec else some false := by
  unfold entryOk
  by_cases h1 : e.state < 0
  · rw [bif_t (dec_t h1), dec_f (show ¬ (0 ≤ e.state ∧ e.state ≤ 3) by omega)]; rfl
  · rw [bif_f (dec_f h1)]
    by_cases h2 : e.state > 3
    · rw [bif_t (dec_t h2), dec_f (show ¬ (0 ≤ e.state ∧ e.state ≤ 3) by omega)]; rfl
    · rw [bif_f (dec_f h2), dec_t (show 0 ≤ e.state ∧ e.state ≤ 3 by omega), Bool.true_and]
      unfold nodeGood_j10
      cases h3 : ((e.state == 3) == there)
      · rfl
      · rw [Bool.true_and, bif_f (c := !true) rfl]
        unfold nodeGood_j5 restOk
        cases h0 : (e.state == 0)
        · rw [cond_false, cond_false]
          have hl := nodeGood_l3_eq (y69 := k) (rec70 := rec) h.at_.2 fu e.at_.length 0 (-1) (by omega) (by have := h.at_.1; omega) (by omega) (by omega) (by omega)
          have hl : nodeGood_l3 k rec e fu 0 = bif atUp e.ops.length (-1) e.at_ then nodeGood_j4 k rec else some false := hl
          simp only [some_bind, nodeGood_j9, nodeGood_j6, hl]
          unfold bodyOk
          generalize goodOpsZ e.ops = b1
          generalize risingZ e.first = b2
          generalize risingZ e.deps = b3
          generalize hasZ e.first k = b4
          generalize hasZ e.deps k = b5
          generalize decide ((e.deps.length : Int) > 0) = b7
          generalize decide ((e.at_.length : Int) > 0) = b9
          generalize ((e.at_.length : Int) != (e.values.length : Int)) = b10
          cases b1
          · rfl
          cases b2
          · rfl
          cases b3
          · rfl
          cases b4
          case true => rfl
          cases b5
          case true => rfl
          generalize (e.state == 1) = b6
          generalize (e.state != 3) = b8
          cases b6 <;> cases b7 <;> cases b8 <;> cases b9 <;> cases b10 <;> rfl
        · rw [cond_true, cond_true, empty_sum h]
          cases emptyE e <;> rfl
theorem nodeGood_l2_eq {fu N : Nat} {s : GNode} {d : Vector Bool 32} (h : NSz s N) (hfu : N ≤ fu) : ∀ (n m k : Nat), k + m = 32 → m < n → ∃ b, nodeGood_l2 fu s d n k = some b ∧ (b = true ↔ ∀ j, k ≤ j → j < 32 → entryOk j (eat s.entries j) (bat d j) = true)
  | 0, m, k, _, h => absurd h (by omega)
  | n + 1, 0, k, hk, _ => ⟨true, by rw [nodeGood_l2, bif_f (dec_f (by omega))], by simp only [true_iff]; intro j h1 h2; omega⟩
  | n + 1, m + 1, k, hk, hn => by
    have hk32 : k < 32 := by omega
    obtain ⟨b, h1, h2⟩ := nodeGood_l2_eq (d := d) h hfu n m (k + 1) (by omega) (by omega)
    rw [nodeGood_l2, bif_t (dec_t (by omega)), idxE hk32, some_bind, some_bind, inR_ok (by omega) (by omega), some_bind, idxB hk32, some_bind, nodeGood_ent (h.ent k) hfu]
    cases he : entryOk k (eat s.entries k) (bat d k) with
    | false =>
      refine ⟨false, rfl, ?_⟩
      simp only [Bool.false_eq_true, false_iff]
      intro h
      rw [h k (Nat.le_refl _) hk32] at he; cases he
    | true =>
      refine ⟨b, ?_, ?_⟩
      · rw [cond_true, nodeGood_j4, wrs k (by omega)]; exact h1
      · rw [h2]
        constructor
        · intro h j hj
          by_cases e : j = k
          · subst e; intro _; exact he
          · exact h j (by omega)
        · intro h j hj
          exact h j (by omega)
theorem entry_three {k : Int} {e : GEntry} {t : Bool} (h : entryOk k e t = true) : (e.state = 3 ↔ t = true) := by
  unfold entryOk at h
  simp only [Bool.and_eq_true] at h
  have h1 := h.2.1
  cases t
  · simp at h1; simp [h1]
  · simp at h1; simp [h1]
theorem nodeGood_l1_eq {fu N : Nat} {s : GNode} (h : NSz s N) (hfu : N + 40 ≤ fu) : ∀ (n m k : Nat) (d : Vector Bool 32), s.order.length = k + m → m < n → (s.order.take k).Nodup → (∀ x ∈ s.order.take k, (0 ≤ x ∧ x < 32)) → (∀ j, j < 32 → bat d j = decide ((j : Int) ∈ s.order.take k)) →
    ∃ b, nodeGood_l1 fu s n d k = some b ∧ (b = true ↔ GoodN s)
  | 0, m, k, d, _, h, _, _, _ => absurd h (by omega)
  | n + 1, 0, k, d, hk, _, h1, h2, h3 => by
    have hlen := h.order.2
    rw [nodeGood_l1, bif_f (dec_f (by omega))]
    rw [List.take_of_length_le (by omega)] at h1 h2 h3
    obtain ⟨b, e1, e2⟩ := nodeGood_l2_eq (d := d) h (show N ≤ fu by omega) fu 32 0 (by omega) (by omega)
    refine ⟨b, e1, ?_⟩
    rw [e2]
    constructor
    · intro h
      exact ⟨h1, h2, fun k hk => by rw [← h3 k hk]; exact h k (Nat.zero_le _) hk⟩
    · intro h j _ hj
      rw [h3 j hj]
      exact h.ent j hj
  | n + 1, m + 1, k, d, hk, hn, h1, h2, h3 => by
    have hlt : k < s.order.length := by omega
    have hx : s.order[k]? = some s.order[k] := List.getElem?_eq_getElem hlt
    have hmem : s.order[k] ∈ s.order := List.getElem_mem hlt
    have htk : s.order.take (k + 1) = s.order.take k ++ [s.order[k]] := (List.take_append_getElem hlt).symm
    have hlen := h.order.2
    rw [nodeGood_l1, bif_t (dec_t (by omega)), idx_nat, hx, some_bind]
    have ih := nodeGood_l1_eq h hfu n m (k + 1)
    rw [htk] at ih
    generalize hg : s.order[k] = x at *
    rcases int_cases x with ⟨y, hy, rfl⟩ | hno
    · rw [bif_f (dec_f (by omega)), bif_f (dec_f (by omega)), inR_ok (by omega) (by omega), some_bind, idxB hy, some_bind]
      cases hb : bat d y with
      | true =>
        refine ⟨false, rfl, ?_⟩
        simp only [Bool.false_eq_true, false_iff]
        intro hG
        have hin : (y : Int) ∈ s.order.take k := by rw [h3 y hy] at hb; simpa using hb
        have hnd := hG.nodup
        rw [← List.take_append_drop (k + 1) s.order, htk] at hnd
        have := (List.nodup_append.1 (List.nodup_append.1 hnd).1).2.2 _ hin _ (List.mem_singleton.2 rfl)
        exact this rfl
      | false =>
        have hnin : (y : Int) ∉ s.order.take k := by rw [h3 y hy] at hb; simpa using hb
        rw [cond_false, some_bind, idxE hy, some_bind]
        cases h3s : ((eat s.entries y).state != 3) with
        | true =>
          refine ⟨false, rfl, ?_⟩
          simp only [Bool.false_eq_true, false_iff]
          intro hG
          have := (entry_three (hG.ent y hy)).2 (by simpa using hmem)
          rw [this] at h3s; cases h3s
        | false =>
          unfold nodeGood_j3 nodeGood_j2 nodeGood_j1
          rw [cond_false, inR_ok (by omega) (by omega), some_bind, idxB hy, some_bind, setV_ok hy, some_bind, some_bind, wrs k (by omega)]
          refine ih (d.set y true) (by omega) (by omega) ?_ ?_ ?_
          · refine List.nodup_append.2 ⟨h1, by simp, fun a ha b hb => ?_⟩
            rw [List.mem_singleton.1 hb]
            rintro rfl
            exact hnin ha
          · intro z hz
            rcases List.mem_append.1 hz with hz | hz
            · exact h2 z hz
            · rw [List.mem_singleton.1 hz]; omega
          · intro j hj
            rw [bat_set hy]
            by_cases e : y = j
            · subst e; simp
            · rw [if_neg e, h3 j hj]
              congr 1
              simp only [List.mem_append, List.mem_singleton, eq_iff_iff]
              constructor
              · exact .inl
              · rintro (h | h)
                · exact h
                · omega
    · have : nodeGood_j3 d k (nodeGood_l1 fu s n) x true = some false := rfl
      refine ⟨false, ?_, ?_⟩
      · by_cases h0 : x < 0
        · rw [bif_t (dec_t h0)]; rfl
        · rw [bif_f (dec_f h0), bif_t (dec_t (by omega))]; rfl
      · simp only [Bool.false_eq_true, false_iff]
        intro hG
        exact hno (hG.inr x hmem)
theorem nodeGoodD_eq {fu N : Nat} {s : GNode} (h : NSz s N) (hfu : N + 40 ≤ fu) : nodeGoodD fu s = some (goodN s) := by
  unfold nodeGoodD
  rw [some_bind]
  obtain ⟨b, h1, h2⟩ := nodeGood_l1_eq h hfu fu s.order.length 0 (Zr.zd : Vector Bool 32) (by omega) (by have := h.order.1; omega) (by simp) (by simp) (fun j _ => by rw [bat_zero]; simp)
  have h1 : nodeGood_l1 fu s fu (Zr.zd : Vector Bool 32) 0 = some b := h1
  rw [h1]
  congr 1
  rw [Bool.eq_iff_iff, h2, goodN_iff]
end Go.Proofs.Ytopgdemmdcipcaa
namespace Go.Proofs.Ytopgdemmdcipcaa
open Go.RowKit
open Rep (rep)
def entryC (k : Int) (e : GEntry) (c : Int) : Bool := decide (0 ≤ e.state ∧ e.state ≤ 3) && ((bif e.state == 3 then c == 1 else c == 0) && restOk k e)
theorem isNode_l3_eq {y : Int} {rec : Int → Option Bool} {e : GEntry} (ha : e.at_.length ≤ 17592186043904) : ∀ (n m k : Nat) (b : Int), e.at_.length = k + m → m < n →
    isNode_l3 y rec e n b k = bif atUp e.ops.length b (e.at_.drop k) then isNode_j1 y rec else some false
  | 0, m, k, b, _, h => absurd h (by omega)
  | n + 1, 0, k, b, hk, _ => by
    rw [isNode_l3, bif_f (dec_f (by omega)), List.drop_of_length_le (by omega)]
    rfl
  | n + 1, m + 1, k, b, hk, hn => by
    have hlt : k < e.at_.length := by omega
    have hx : e.at_[k]? = some e.at_[k] := List.getElem?_eq_getElem hlt
    have ih := isNode_l3_eq (y := y) (rec := rec) ha n m (k + 1) e.at_[k] (by omega) (by omega)
    rw [isNode_l3, bif_t (dec_t (by omega)), idx_nat, hx, some_bind, List.drop_eq_getElem_cons hlt]
    simp only [isNode_j8, isNode_j7, isNode_j6, wrs k (by omega), atUp]
    rw [ih]
    generalize e.at_[k] = x
    by_cases h1 : x ≤ b
    · rw [bif_t (dec_t h1), dec_f (show ¬ (b < x ∧ x < (e.ops.length : Int)) by omega)]
      rfl
    · rw [bif_f (dec_f h1)]
      by_cases h2 : x ≥ (e.ops.length : Int)
      · rw [dec_t h2, dec_f (show ¬ (b < x ∧ x < (e.ops.length : Int)) by omega)]
        rfl
      · rw [dec_f h2, dec_t (show b < x ∧ x < (e.ops.length : Int) by omega)]
        rfl
theorem sameEntry_zero {fu N : Nat} {e : GEntry} (h : ESz e N) (hf : 0 < fu) (h0 : (e.state == 0) = true) :
    sameEntryD fu e { state := Zr.zd, ops := Zr.zd, first := Zr.zd, deps := Zr.zd, at_ := Zr.zd, values := Zr.zd } = some (emptyE e) := by
  unfold sameEntryD
  have e0 : (e.state == (Zr.zd : Int)) = true := h0
  have e1 : sameOpsD fu e.ops (Zr.zd : List GOp) = some ((e.ops.length : Int) == 0) := sameOpsD_nil hf
  have e2 : ∀ l : List Int, sameZ l (Zr.zd : List Int) = ((l.length : Int) == 0) := sameZ_nil
  rw [e0, cond_true, e1, some_bind]
  simp only [some_bind, e2, sameEntry_j1]
  unfold emptyE
  cases ((e.ops.length : Int) == 0) <;> cases ((e.first.length : Int) == 0) <;> cases ((e.deps.length : Int) == 0) <;> cases ((e.at_.length : Int) == 0) <;> rfl
def isNodeTail (fu : Nat) (y8 : Int) (rec9 : Int → Option Bool) (d25 : GEntry) (y31 : Int) : Option Bool :=
    (bif decide (d25.state < 0) then
    isNode_j11 fu y8 rec9 d25 true
    else
    (bif decide (d25.state > 3) then
    isNode_j11 fu y8 rec9 d25 true
    else
    (bif d25.state == 3 then
    (bif y31 != 1 then
    isNode_j11 fu y8 rec9 d25 true
    else
    (bif d25.state != 3 then
    isNode_j11 fu y8 rec9 d25 (y31 != 0)
    else
    isNode_j11 fu y8 rec9 d25 false))
    else
    (bif d25.state != 3 then
    isNode_j11 fu y8 rec9 d25 (y31 != 0)
    else
    isNode_j11 fu y8 rec9 d25 false))))
theorem isNodeTail_eq {fu N k : Nat} {e : GEntry} {c : Int} (h : ESz e N) (hfu : N < fu) {rec : Int → Option Bool} : isNodeTail fu k rec e c = bif entryC k e c then isNode_j1 k rec else some false := by
  unfold isNodeTail entryC
  by_cases h1 : e.state < 0
  · rw [bif_t (dec_t h1), dec_f (show ¬ (0 ≤ e.state ∧ e.state ≤ 3) by omega)]; rfl
  · rw [bif_f (dec_f h1)]
    by_cases h2 : e.state > 3
    · rw [bif_t (dec_t h2), dec_f (show ¬ (0 ≤ e.state ∧ e.state ≤ 3) by omega)]; rfl
    · rw [bif_f (dec_f h2), dec_t (show 0 ≤ e.state ∧ e.state ≤ 3 by omega), Bool.true_and]
      have hcut : (bif e.state == 3 then (bif c != 1 then isNode_j11 fu k rec e true else (bif e.state != 3 then isNode_j11 fu k rec e (c != 0) else isNode_j11 fu k rec e false)) else (bif e.state != 3 then isNode_j11 fu k rec e (c != 0) else isNode_j11 fu k rec e false))
          = isNode_j11 fu k rec e (!(bif e.state == 3 then c == 1 else c == 0)) := by
        have hne : (e.state != 3) = !(e.state == 3) := rfl
        have hn1 : (c != 1) = !(c == 1) := rfl
        have hn0 : (c != 0) = !(c == 0) := rfl
        rw [hne, hn1, hn0]
        cases (e.state == 3) <;> cases (c == 1) <;> cases (c == 0) <;> rfl
      rw [hcut]
      unfold isNode_j11
      cases (bif e.state == 3 then c == 1 else c == 0)
      · rfl
      · rw [Bool.true_and, bif_f (c := !true) rfl]
        unfold isNode_j3 restOk
        cases h0 : (e.state == 0)
        · rw [cond_false, cond_false]
          have hl := isNode_l3_eq (y := k) (rec := rec) h.at_.2 fu e.at_.length 0 (-1) (by omega) (by have := h.at_.1; omega)
          have hl : isNode_l3 k rec e fu (-1) 0 = bif atUp e.ops.length (-1) e.at_ then isNode_j1 k rec else some false := hl
          simp only [some_bind, isNode_j10, isNode_j9, isNode_j5, isNode_j4, hl]
          have hlt : decide (e.state < 3) = (e.state != 3) := by
            by_cases h3 : e.state = 3
            · rw [h3]; rfl
            · rw [dec_t (show e.state < 3 by omega)]
              simp [h3]
          rw [hlt]
          unfold bodyOk
          generalize goodOpsZ e.ops = b1
          generalize risingZ e.first = b2
          generalize risingZ e.deps = b3
          generalize hasZ e.first k = b4
          generalize hasZ e.deps k = b5
          generalize decide ((e.deps.length : Int) > 0) = b7
          generalize decide ((e.at_.length : Int) > 0) = b9
          generalize ((e.at_.length : Int) != (e.values.length : Int)) = b10
          cases b1
          · rfl
          cases b2
          · rfl
          cases b3
          · rfl
          cases b4
          case true => rfl
          cases b5
          case true => rfl
          generalize (e.state == 1) = b6
          generalize (e.state != 3) = b8
          cases b6 <;> cases b7 <;> cases b8 <;> cases b9 <;> cases b10 <;> rfl
        · rw [cond_true, cond_true, some_bind, sameEntry_zero h (by omega) h0, some_bind]
          cases emptyE e <;> rfl
theorem isNode_l2_eq {fu : Nat} {s : GNode} {y : Int} {rec : Int → Option Bool} {e : GEntry} (ho : s.order.length ≤ 17592186043904) : ∀ (n m k : Nat) (c : Int), s.order.length = k + m → m < n → 0 ≤ c → c + m ≤ 17592186043904 →
    isNode_l2 fu s y rec e n c k = isNodeTail fu y rec e (c + ((s.order.drop k).count y : Nat))
  | 0, m, k, c, _, h, _, _ => absurd h (by omega)
  | n + 1, 0, k, c, hk, _, _, _ => by
    rw [isNode_l2, bif_f (dec_f (by omega)), List.drop_of_length_le (by omega)]
    simp [isNodeTail]
  | n + 1, m + 1, k, c, hk, hn, hc, hc2 => by
    have hlt : k < s.order.length := by omega
    have hx : s.order[k]? = some s.order[k] := List.getElem?_eq_getElem hlt
    rw [isNode_l2, bif_t (dec_t (by omega)), idx_nat, hx, some_bind, List.drop_eq_getElem_cons hlt, List.count_cons]
    simp only [isNode_j2, wrs k (by omega)]
    cases h : (s.order[k] == y)
    · rw [cond_false, isNode_l2_eq ho n m (k + 1) c (by omega) (by omega) hc (by omega)]
      simp
    · rw [cond_true, wr64 (by omega) (by omega), isNode_l2_eq ho n m (k + 1) (c + 1) (by omega) (by omega) (by omega) (by omega)]
      congr 1
      simp only [if_true]
      omega
theorem isNode_l4_eq {s : GNode} (ho : s.order.length ≤ 17592186043904) : ∀ (n m k : Nat), s.order.length = k + m → m < n → ∃ b, isNode_l4 s n k = some b ∧ (b = true ↔ ∀ x ∈ s.order.drop k, 0 ≤ x ∧ x < 32)
  | 0, m, k, _, h => absurd h (by omega)
  | n + 1, 0, k, hk, _ => ⟨true, by rw [isNode_l4, bif_f (dec_f (by omega))], by rw [List.drop_of_length_le (by omega)]; simp⟩
  | n + 1, m + 1, k, hk, hn => by
    have hlt : k < s.order.length := by omega
    have hx : s.order[k]? = some s.order[k] := List.getElem?_eq_getElem hlt
    obtain ⟨b, h1, h2⟩ := isNode_l4_eq ho n m (k + 1) (by omega) (by omega)
    rw [isNode_l4, bif_t (dec_t (by omega)), idx_nat, hx, some_bind, some_bind, List.drop_eq_getElem_cons hlt, wrs k (by omega), h1]
    by_cases h : 0 ≤ s.order[k] ∧ s.order[k] < 32
    · refine ⟨b, by rw [dec_t h]; rfl, ?_⟩
      rw [h2]
      constructor
      · intro hA x hx
        rcases List.mem_cons.1 hx with rfl | hx
        · exact h
        · exact hA x hx
      · intro hA x hx
        exact hA x (List.mem_cons_of_mem _ hx)
    · refine ⟨false, by rw [dec_f h]; rfl, ?_⟩
      simp only [Bool.false_eq_true, false_iff]
      intro hA
      exact h (hA _ List.mem_cons_self)
theorem isNode_l1_eq {fu N : Nat} {s : GNode} (h : NSz s N) (hfu : N < fu) : ∀ (n m k : Nat), k + m = 32 → m < n → ∃ b, isNode_l1 fu s n k = some b ∧ (b = true ↔ (∀ j, k ≤ j → j < 32 → entryC j (eat s.entries j) (s.order.count (j : Int) : Nat) = true) ∧ ∀ x ∈ s.order, 0 ≤ x ∧ x < 32)
  | 0, m, k, _, h => absurd h (by omega)
  | n + 1, 0, k, hk, _ => by
    obtain ⟨b, h1, h2⟩ := isNode_l4_eq h.order.2 fu s.order.length 0 (by omega) (by have := h.order.1; omega)
    have h1 : isNode_l4 s fu 0 = some b := h1
    refine ⟨b, by rw [isNode_l1, bif_f (dec_f (by omega)), h1], ?_⟩
    rw [h2]
    simp only [List.drop_zero]
    exact ⟨fun h => ⟨fun j h1 h2 => by omega, h⟩, fun h => h.2⟩
  | n + 1, m + 1, k, hk, hn => by
    have hk32 : k < 32 := by omega
    obtain ⟨b, h1, h2⟩ := isNode_l1_eq h hfu n m (k + 1) (by omega) (by omega)
    have ho := h.order
    have hl := isNode_l2_eq (fu := fu) (y := (k : Int)) (rec := isNode_l1 fu s n) (e := eat s.entries k) ho.2 fu s.order.length 0 0 (by omega) (by omega) (by omega) (by omega)
    have hl : isNode_l2 fu s k (isNode_l1 fu s n) (eat s.entries k) fu 0 0 = isNodeTail fu k (isNode_l1 fu s n) (eat s.entries k) (0 + (s.order.count (k : Int) : Nat)) := hl
    rw [isNode_l1, bif_t (dec_t (by omega)), idxE hk32, some_bind, some_bind, hl, isNodeTail_eq (h.ent k) hfu, Int.zero_add]
    cases he : entryC k (eat s.entries k) (s.order.count (k : Int) : Nat) with
    | false =>
      refine ⟨false, rfl, ?_⟩
      simp only [Bool.false_eq_true, false_iff]
      intro h
      rw [h.1 k (Nat.le_refl _) hk32] at he; cases he
    | true =>
      refine ⟨b, ?_, ?_⟩
      · rw [cond_true, isNode_j1, wrs k (by omega)]; exact h1
      · rw [h2]
        refine and_congr_left fun _ => ?_
        constructor
        · intro h j hj
          by_cases e : j = k
          · subst e; intro _; exact he
          · exact h j (by omega)
        · intro h j hj
          exact h j (by omega)
theorem entryC_iff {k : Int} {e : GEntry} {l : List Int} (h : l.Nodup) : entryC k e (l.count k : Nat) = entryOk k e (decide (k ∈ l)) := by
  unfold entryC entryOk
  congr 2
  rw [h.count]
  cases h3 : (e.state == 3)
  · by_cases hm : k ∈ l
    · simp [hm]
    · simp [hm]
  · by_cases hm : k ∈ l
    · simp [hm]
    · simp [hm]
theorem isNode_iff {s : GNode} : ((∀ j : Nat, 0 ≤ j → j < 32 → entryC j (eat s.entries j) (s.order.count (j : Int) : Nat) = true) ∧ ∀ x ∈ s.order, 0 ≤ x ∧ x < 32) ↔ GoodN s := by
  constructor
  · intro h
    have hn : s.order.Nodup := by
      rw [List.nodup_iff_count]
      intro a
      by_cases ha : a ∈ s.order
      · have hr := h.2 a ha
        obtain ⟨j, rfl⟩ : ∃ j : Nat, a = j := ⟨a.toNat, by omega⟩
        have h1 := h.1 j (Nat.zero_le _) (by omega)
        unfold entryC at h1
        simp only [Bool.and_eq_true] at h1
        have h2 := h1.2.1
        cases h3 : ((eat s.entries j).state == 3) <;> rw [h3] at h2 <;> simp at h2
        · omega
        · omega
      · rw [List.count_eq_zero.2 ha]; omega
    exact ⟨hn, h.2, fun k hk => by rw [← entryC_iff hn]; exact h.1 k (Nat.zero_le _) hk⟩
  · intro h
    exact ⟨fun j _ hj => by rw [entryC_iff h.nodup]; exact h.ent j hj, h.inr⟩
theorem isNodeD_eq {fu N : Nat} {s : GNode} (h : NSz s N) (hfu : N + 40 ≤ fu) : isNodeD fu s = some (goodN s) := by
  unfold isNodeD
  obtain ⟨b, h1, h2⟩ := isNode_l1_eq h (show N < fu by omega) fu 32 0 (by omega) (by omega)
  have h1 : isNode_l1 fu s fu 0 = some b := h1
  rw [h1]
  congr 1
  rw [Bool.eq_iff_iff, h2, goodN_iff, isNode_iff]
theorem entry_upd {s : GNode} {k : Nat} (hk : k < 32) {e : GEntry} (h : e = eat s.entries k) : ({ s with entries := s.entries.set k e } : GNode) = s := by
  have : s.entries.set k e = s.entries := by
    refine eat_ext fun j hj => ?_
    rw [eat_set hk]
    by_cases e' : k = j
    · subst e'; rw [if_pos rfl, h]
    · rw [if_neg e']
  rw [this]
theorem copyNode_l1_eq {N : Nat} {s : GNode} (h : NSz s N) : ∀ (n m k : Nat), k + m = 32 → m < n → copyNode_l1 n s k = some s
  | 0, m, k, _, h => absurd h (by omega)
  | n + 1, 0, k, hk, _ => by rw [copyNode_l1, bif_f (dec_f (by omega)), some_bind]
  | n + 1, m + 1, k, hk, hn => by
    have hk32 : k < 32 := by omega
    have hz := h.ent k
    have hb : Rep.bytes Int = 8 := rfl
    have hb2 : Rep.bytes GOp = 24 := rfl
    rw [copyNode_l1, bif_t (dec_t (by omega)), inR_ok (by omega) (by omega), some_bind, idxE hk32, some_bind, some_bind, some_bind]
    rw [app_ok (by rw [hb2]; have := hz.ops.2; simp only [List.length_nil]; omega), some_bind, app_ok (by rw [hb]; have := hz.first.2; simp only [List.length_nil]; omega), some_bind, app_ok (by rw [hb]; have := hz.deps.2; simp only [List.length_nil]; omega), some_bind, some_bind]
    rw [List.nil_append, List.nil_append, List.nil_append, setV_ok hk32, some_bind, some_bind, entry_upd hk32 rfl, idxE hk32, some_bind, setV_ok hk32, some_bind, some_bind, entry_upd hk32 rfl, idxE hk32, some_bind, setV_ok hk32, some_bind, some_bind, entry_upd hk32 rfl, idxE hk32, some_bind, some_bind]
    rw [app_ok (by rw [hb]; have := hz.at_.2; simp only [List.length_nil]; omega), some_bind, app_ok (by rw [hb]; have := hz.values.2; simp only [List.length_nil]; omega), some_bind, some_bind]
    rw [List.nil_append, List.nil_append, setV_ok hk32, some_bind, some_bind, entry_upd hk32 rfl, idxE hk32, some_bind, setV_ok hk32, some_bind, some_bind, entry_upd hk32 rfl, wrs k (by omega)]
    exact copyNode_l1_eq h n m (k + 1) (by omega) (by omega)
theorem copyNodeD_eq {fu N : Nat} {s : GNode} (h : NSz s N) (hfu : 40 ≤ fu) : copyNodeD fu s = some s := by
  unfold copyNodeD
  have hb : Rep.bytes Int = 8 := rfl
  rw [app_ok (by rw [hb]; have := h.order.2; simp only [List.length_nil]; omega), some_bind, some_bind]
  exact copyNode_l1_eq h fu 32 0 (by omega) (by omega)
def inWay (s : GNode) (id : Int) (ops : List GOp) (sh : Int) (k : Nat) : Bool := (k : Int) != id && ((eat s.entries k).state != 0 && conflictZ (eat s.entries k).ops ops sh)
def aheadL (s : GNode) (id : Int) (ops : List GOp) (sh : Int) : List Nat := (List.range 32).filter (inWay s id ops sh)
def aheadZ (s : GNode) (id : Int) (ops : List GOp) (sh : Int) : List Int := castL (aheadL s id ops sh)
theorem filt_step {p : Nat → Bool} {k m : Nat} : (List.range' k (m + 1)).filter p = (bif p k then [k] else []) ++ (List.range' (k + 1) m).filter p := by
  rw [List.range'_succ, List.filter_cons]
  cases p k <;> rfl
theorem nodeAhead_l1_eq {s : GNode} {id : Int} {ops : List GOp} {sh : Int} : ∀ (n m k : Nat) (l : List Int), k + m = 32 → m < n → l.length ≤ k → nodeAhead_l1 s id ops sh n l k = some (l ++ castL ((List.range' k m).filter (inWay s id ops sh)))
  | 0, m, k, l, _, h, _ => absurd h (by omega)
  | n + 1, 0, k, l, hk, _, _ => by rw [nodeAhead_l1, bif_f (dec_f (by omega))]; simp [castL]
  | n + 1, m + 1, k, l, hk, hn, hl => by
    have hk32 : k < 32 := by omega
    have hb : Rep.bytes Int = 8 := rfl
    have ih := fun l hl => nodeAhead_l1_eq (s := s) (id := id) (ops := ops) (sh := sh) n m (k + 1) l (by omega) (by omega) hl
    rw [nodeAhead_l1, bif_t (dec_t (by omega)), idxE hk32, some_bind, some_bind, some_bind, filt_step]
    simp only [nodeAhead_j2, nodeAhead_j1, wrs k (by omega)]
    have no : ∀ b : Bool, b = false → (bif b then (app l [(k : Int)]).bind fun l44 => nodeAhead_l1 s id ops sh n l44 ((k + 1 : Nat) : Int) else nodeAhead_l1 s id ops sh n l ((k + 1 : Nat) : Int)) = some (l ++ castL ((List.range' (k + 1) m).filter (inWay s id ops sh))) := fun b hb => by
      rw [hb, cond_false, ih l (by omega)]
    have yes : (app l [(k : Int)]).bind (fun l44 => nodeAhead_l1 s id ops sh n l44 ((k + 1 : Nat) : Int)) = some (l ++ castL (k :: (List.range' (k + 1) m).filter (inWay s id ops sh))) := by
      rw [app_ok (by rw [hb]; simp only [List.length_singleton]; omega), some_bind, ih _ (by simp; omega)]
      simp [castL]
    unfold inWay at no yes ⊢
    cases h1 : ((k : Int) != id)
    · exact no false rfl
    · cases h2 : ((eat s.entries k).state != 0)
      · exact no false rfl
      · cases h3 : conflictZ (eat s.entries k).ops ops sh
        · exact no false rfl
        · exact yes
theorem nodeAheadD_eq {fu : Nat} {s : GNode} {id : Int} {ops : List GOp} {sh : Int} (hfu : 40 ≤ fu) : nodeAheadD fu s id ops sh = some (aheadZ s id ops sh) := by
  unfold nodeAheadD
  have h := nodeAhead_l1_eq (s := s) (id := id) (ops := ops) (sh := sh) fu 32 0 [] (by omega) (by omega) (by simp)
  have h : nodeAhead_l1 s id ops sh fu [] 0 = some ([] ++ castL ((List.range' 0 32).filter (inWay s id ops sh))) := h
  rw [h, aheadZ, aheadL, List.range_eq_range']
  rfl
theorem before_l1_eq {s : GNode} {id : Int} {ops : List GOp} {sh : Int} (h0 : ∀ k, k < 32 → 0 ≤ (eat s.entries k).state) : ∀ (n m k : Nat) (l : List Int), k + m = 32 → m < n → l.length ≤ k → before_l1 s id ops sh n l k = some (l ++ castL ((List.range' k m).filter (inWay s id ops sh)))
  | 0, m, k, l, _, h, _ => absurd h (by omega)
  | n + 1, 0, k, l, hk, _, _ => by rw [before_l1, bif_f (dec_f (by omega))]; simp [castL]
  | n + 1, m + 1, k, l, hk, hn, hl => by
    have hk32 : k < 32 := by omega
    have hb : Rep.bytes Int = 8 := rfl
    have ih := fun l hl => before_l1_eq (s := s) (id := id) (ops := ops) (sh := sh) h0 n m (k + 1) l (by omega) (by omega) hl
    rw [before_l1, bif_t (dec_t (by omega)), inR_ok (by omega) (by omega), idxE hk32]
    simp only [some_bind, before_j2, before_j1, wrs k (by omega)]
    rw [filt_step]
    have hs : decide ((eat s.entries k).state > 0) = ((eat s.entries k).state != 0) := by
      have := h0 k hk32
      by_cases h : (eat s.entries k).state = 0
      · rw [h]; rfl
      · rw [dec_t (by omega)]; simp [h]
    rw [hs]
    have no : ∀ b : Bool, b = false → (bif b then (app l [(k : Int)]).bind fun l44 => before_l1 s id ops sh n l44 ((k + 1 : Nat) : Int) else before_l1 s id ops sh n l ((k + 1 : Nat) : Int)) = some (l ++ castL ((List.range' (k + 1) m).filter (inWay s id ops sh))) := fun b hb => by
      rw [hb, cond_false, ih l (by omega)]
    have yes : (app l [(k : Int)]).bind (fun l44 => before_l1 s id ops sh n l44 ((k + 1 : Nat) : Int)) = some (l ++ castL (k :: (List.range' (k + 1) m).filter (inWay s id ops sh))) := by
      rw [app_ok (by rw [hb]; simp only [List.length_singleton]; omega), some_bind, ih _ (by simp; omega)]
      simp [castL]
    unfold inWay at no yes ⊢
    cases h1 : ((k : Int) != id)
    · exact no false rfl
    · cases h2 : ((eat s.entries k).state != 0)
      · exact no false rfl
      · cases h3 : conflictZ (eat s.entries k).ops ops sh
        · exact no false rfl
        · exact yes
theorem beforeD_eq {fu : Nat} {s : GNode} {id : Int} {ops : List GOp} {sh : Int} (h0 : ∀ k, k < 32 → 0 ≤ (eat s.entries k).state) (hfu : 40 ≤ fu) : beforeD fu s id ops sh = some (aheadZ s id ops sh) := by
  unfold beforeD
  have h := before_l1_eq (s := s) (id := id) (ops := ops) (sh := sh) h0 fu 32 0 [] (by omega) (by omega) (by simp)
  have h : before_l1 s id ops sh fu [] 0 = some ([] ++ castL ((List.range' 0 32).filter (inWay s id ops sh))) := h
  rw [h, aheadZ, aheadL, List.range_eq_range']
  rfl
def graphZ (s : GNode) : GGraph := { known := Vector.ofFn fun k : Fin 32 => decide ((eat s.entries k.val).state ≥ 2), deps := Vector.ofFn fun k : Fin 32 => (eat s.entries k.val).deps }
theorem bat_graphZ {s : GNode} {k : Nat} (hk : k < 32) : bat (graphZ s).known k = decide ((eat s.entries k).state ≥ 2) := by
  rw [← bat_lt hk]
  simp [graphZ]
theorem depsAt_graphZ {s : GNode} {k : Nat} (hk : k < 32) : depsAt (graphZ s) k = (eat s.entries k).deps := by
  simp [graphZ, depsAt, hk]
theorem depsAt_set {g : GGraph} {v : Vector (List Int) 32} {k j : Nat} {x : List Int} (hk : k < 32) : depsAt { g with deps := v.set k x } j = if k = j then x else depsAt { g with deps := v } j := by
  unfold depsAt
  by_cases hj : j < 32
  · simp only [hj, dite_true, Vector.getElem_set]
  · have : k ≠ j := by omega
    simp [hj, this]
theorem graph_ext {g h : GGraph} (h1 : ∀ k, k < 32 → bat g.known k = bat h.known k) (h2 : ∀ k, k < 32 → depsAt g k = depsAt h k) : g = h := by
  obtain ⟨a, b⟩ := g
  obtain ⟨c, d⟩ := h
  have e1 : a = c := bat_ext h1
  have e2 : b = d := Vector.ext fun k hk => by
    have := h2 k hk
    simpa [depsAt, hk] using this
  rw [e1, e2]
def GraphOf (s : GNode) (G : GGraph) : Prop := ∀ k, k < 32 → bat G.known k = decide ((eat s.entries k).state ≥ 2) ∧ depsAt G k = (eat s.entries k).deps
theorem graphZ_of (s : GNode) : GraphOf s (graphZ s) := fun _ hk => ⟨bat_graphZ hk, depsAt_graphZ hk⟩
theorem nodeGraph_l1_eq {s : GNode} {G : GGraph} (hG : GraphOf s G) : ∀ (n m k : Nat) (g : GGraph), k + m = 32 → m < n → (∀ j, j < k → bat g.known j = bat G.known j ∧ depsAt g j = depsAt G j) → nodeGraph_l1 s n g k = some G
  | 0, m, k, g, _, h, _ => absurd h (by omega)
  | n + 1, 0, k, g, hk, _, hg => by
    rw [nodeGraph_l1, bif_f (dec_f (by omega)), some_bind]
    exact congrArg some (graph_ext (fun j hj => (hg j (by omega)).1) fun j hj => (hg j (by omega)).2)
  | n + 1, m + 1, k, g, hk, hn, hg => by
    have hk32 : k < 32 := by omega
    rw [nodeGraph_l1, bif_t (dec_t (by omega)), idxE hk32, some_bind, some_bind, inR_ok (by omega) (by omega), some_bind, idxB hk32, some_bind, setV_ok hk32, some_bind, some_bind, some_bind, idxD hk32, some_bind, setV_ok hk32, some_bind, some_bind, wrs k (by omega)]
    refine nodeGraph_l1_eq hG n m (k + 1) _ (by omega) (by omega) fun j hj => ?_
    have hj32 : j < 32 := by omega
    refine ⟨?_, ?_⟩
    · show bat (g.known.set k _) j = _
      rw [bat_set hk32]
      by_cases e : k = j
      · subst e; rw [if_pos rfl, (hG k hk32).1]
      · rw [if_neg e]; exact (hg j (by omega)).1
    · rw [depsAt_set hk32]
      by_cases e : k = j
      · subst e; rw [if_pos rfl, (hG k hk32).2]
      · rw [if_neg e]
        exact (hg j (by omega)).2
theorem nodeGraphD_eq {fu : Nat} {s : GNode} (hfu : 40 ≤ fu) : nodeGraphD fu s = some (graphZ s) := nodeGraph_l1_eq (graphZ_of s) fu 32 0 _ (by omega) (by omega) fun j h => by omega
theorem graphOf_l1_eq {s : GNode} {G : GGraph} (hG : GraphOf s G) : ∀ (n m k : Nat) (g : GGraph), k + m = 32 → m < n → (∀ j, j < k → bat g.known j = bat G.known j ∧ depsAt g j = depsAt G j) → graphOf_l1 s n g k = some G
  | 0, m, k, g, _, h, _ => absurd h (by omega)
  | n + 1, 0, k, g, hk, _, hg => by
    rw [graphOf_l1, bif_f (dec_f (by omega)), some_bind]
    exact congrArg some (graph_ext (fun j hj => (hg j (by omega)).1) fun j hj => (hg j (by omega)).2)
  | n + 1, m + 1, k, g, hk, hn, hg => by
    have hk32 : k < 32 := by omega
    rw [graphOf_l1, bif_t (dec_t (by omega)), inR_ok (by omega) (by omega), some_bind, idxE hk32, some_bind, some_bind, idxB hk32, some_bind, setV_ok hk32, some_bind, some_bind, some_bind, some_bind, some_bind, idxD hk32, some_bind, setV_ok hk32, some_bind, some_bind, wrs k (by omega)]
    refine graphOf_l1_eq hG n m (k + 1) _ (by omega) (by omega) fun j hj => ?_
    have hj32 : j < 32 := by omega
    refine ⟨?_, ?_⟩
    · show bat (g.known.set k _) j = _
      rw [bat_set hk32]
      by_cases e : k = j
      · subst e
        rw [if_pos rfl, (hG k hk32).1]
        congr 1
      · rw [if_neg e]; exact (hg j (by omega)).1
    · rw [depsAt_set hk32]
      by_cases e : k = j
      · subst e; rw [if_pos rfl, (hG k hk32).2]
      · rw [if_neg e]
        exact (hg j (by omega)).2
theorem graphOfD_eq {fu : Nat} {s : GNode} (hfu : 40 ≤ fu) : graphOfD fu s = some (graphZ s) := graphOf_l1_eq (graphZ_of s) fu 32 0 _ (by omega) (by omega) fun j h => by omega
end Go.Proofs.Ytopgdemmdcipcaa
namespace Go.Proofs.Ytopgdemmdcipcaa
open Go.RowKit
open Rep (rep)
theorem frameZ_in {f : GFrame} (h : frameZ f = 0) : (1 ≤ f.kind ∧ f.kind ≤ 5) ∧ (0 ≤ f.node ∧ f.node < 6) ∧ (0 ≤ f.id ∧ f.id < 32) := by
  unfold frameZ at h
  split at h
  · cases h
  · split at h
    · cases h
    · omega
theorem setV_in {α : Type} {n : Nat} {v : Vector α n} {j : Int} {x : α} (h0 : 0 ≤ j) (h1 : j < n) : setV v j x = some (v.setIfInBounds j.toNat x) := by
  unfold setV
  rw [if_pos ⟨h0, h1⟩]
theorem idxV_in' {n : Nat} {v : Vector Int n} {j : Int} (h0 : 0 ≤ j) (h1 : j < n) : idxV v j = some (v[j.toNat]?.getD 0) := by
  unfold idxV
  rw [if_pos h0]
  have : j.toNat < n := by omega
  simp [this]
end Go.Proofs.Ytopgdemmdcipcaa
namespace Go.Proofs.Ytopgdemmdcipcaa
open Go.RowKit
open Rep (rep)
def vat (v : Vector Int 8) (k : Nat) : Int := v[k]?.getD 0
theorem idxV8 {v : Vector Int 8} {j : Int} (h0 : 0 ≤ j) (h1 : j < 8) : idxV v j = some (vat v j.toNat) := idxV_in' h0 h1
theorem vat_set {v : Vector Int 8} {k j : Nat} {x : Int} (hk : k < 8) : vat (v.setIfInBounds k x) j = if k = j then x else vat v j := by
  unfold vat
  rw [Vector.getElem?_setIfInBounds]
  by_cases e : k = j
  · rw [if_pos e, if_pos e, if_pos hk]; rfl
  · rw [if_neg e, if_neg e]
theorem eat_setI {v : Vector GEntry 32} {k j : Nat} {x : GEntry} (hk : k < 32) : eat (v.setIfInBounds k x) j = if k = j then x else eat v j := by
  unfold eat
  rw [Vector.getElem?_setIfInBounds]
  by_cases e : k = j
  · rw [if_pos e, if_pos e, if_pos hk]; rfl
  · rw [if_neg e, if_neg e]
theorem setE {v : Vector GEntry 32} {k : Nat} {x : GEntry} (hk : k < 32) : setV v (k : Int) x = some (v.setIfInBounds k x) := setV_in (by omega) (by omega)
def doOps (sh : Int) : Nat → List GOp → Vector Int 8 → List Int → List Int → Vector Int 8 × List Int × List Int
  | _, [], v, a, b => (v, a, b)
  | i, o :: t, v, a, b => bif shardZ o.key == sh then doOps sh (i + 1) t (v.setIfInBounds o.key.toNat (doZ (vat v o.key.toNat) o)) (a ++ [(i : Int)]) (b ++ [doZ (vat v o.key.toNat) o]) else doOps sh (i + 1) t v a b
def doneE (e : GEntry) (a b : List Int) : GEntry := { e with state := 3, at_ := a, values := b }
def midN (s : GNode) (n : Nat) (v : Vector Int 8) (a b : List Int) : GNode := { entries := s.entries.setIfInBounds n (doneE (eat s.entries n) a b), order := s.order, values := v }
def oneZ (s : GNode) (n : Nat) (sh : Int) : GNode :=
  { entries := s.entries.setIfInBounds n (doneE (eat s.entries n) (doOps sh 0 (eat s.entries n).ops s.values [] []).2.1 (doOps sh 0 (eat s.entries n).ops s.values [] []).2.2), order := s.order ++ [(n : Int)], values := (doOps sh 0 (eat s.entries n).ops s.values [] []).1 }
theorem midN_set {s : GNode} {n : Nat} {v : Vector Int 8} {a b a' b' : List Int} {e : GEntry} (he : e = doneE (eat s.entries n) a' b') : ({ entries := (midN s n v a b).entries.setIfInBounds n e, order := (midN s n v a b).order, values := (midN s n v a b).values } : GNode) = midN s n v a' b' := by
  unfold midN
  simp only [Vector.setIfInBounds_setIfInBounds, he]
theorem midN_at {s : GNode} {n : Nat} {v : Vector Int 8} {a b a' : List Int} :
    ({ entries := (midN s n v a b).entries.setIfInBounds n { state := (doneE (eat s.entries n) a b).state, ops := (doneE (eat s.entries n) a b).ops, first := (doneE (eat s.entries n) a b).first, deps := (doneE (eat s.entries n) a b).deps, at_ := a', values := (doneE (eat s.entries n) a b).values }, order := (midN s n v a b).order, values := v } : GNode) = midN s n v a' b := midN_set rfl
theorem midN_vs {s : GNode} {n : Nat} {v : Vector Int 8} {a b b' : List Int} :
    ({ entries := (midN s n v a b).entries.setIfInBounds n { state := (doneE (eat s.entries n) a b).state, ops := (doneE (eat s.entries n) a b).ops, first := (doneE (eat s.entries n) a b).first, deps := (doneE (eat s.entries n) a b).deps, at_ := (doneE (eat s.entries n) a b).at_, values := b' }, order := (midN s n v a b).order, values := (midN s n v a b).values } : GNode) = midN s n v a b' := midN_set rfl
theorem midN_ent {s : GNode} {n : Nat} (hn : n < 32) {v : Vector Int 8} {a b : List Int} : eat (midN s n v a b).entries n = doneE (eat s.entries n) a b := by
  unfold midN
  rw [eat_setI hn, if_pos rfl]
def KeyOk (l : List GOp) : Prop := ∀ o ∈ l, 0 ≤ o.key ∧ o.key < 8
theorem KeyOk.of {l : List GOp} (h : goodOpsZ l = true) : KeyOk l := fun o ho => by have := goodOps_mem h o ho; omega
theorem nodeOne_l1_eq {s : GNode} {n : Nat} (hn : n < 32) {sh : Int} {e0 : GEntry} (he : e0 = doneE (eat s.entries n) [] []) (hk : KeyOk (eat s.entries n).ops) (hl : (eat s.entries n).ops.length ≤ 4) (ho : s.order.length ≤ 1000) : ∀ (q m k : Nat) (v : Vector Int 8) (a b : List Int), (eat s.entries n).ops.length = k + m → m < q → a.length ≤ k → b.length = a.length →
    nodeOne_l1 n sh e0 q (midN s n v a b) k = some { midN s n (doOps sh k ((eat s.entries n).ops.drop k) v a b).1 (doOps sh k ((eat s.entries n).ops.drop k) v a b).2.1 (doOps sh k ((eat s.entries n).ops.drop k) v a b).2.2 with order := s.order ++ [(n : Int)] }
  | 0, m, k, v, a, b, _, h, _, _ => absurd h (by omega)
  | q + 1, 0, k, v, a, b, hkm, _, _, _ => by
    have hb : Rep.bytes Int = 8 := rfl
    have hord : (midN s n v a b).order = s.order := rfl
    have e1 : e0.ops = (eat s.entries n).ops := by rw [he]; rfl
    rw [nodeOne_l1, e1, bif_f (dec_f (by omega)), List.drop_of_length_le (by omega), app_ok (by rw [hb, hord]; simp only [List.length_singleton]; omega)]
    rfl
  | q + 1, m + 1, k, v, a, b, hkm, hq, ha, hbl => by
    have hb : Rep.bytes Int = 8 := rfl
    have hlt : k < (eat s.entries n).ops.length := by omega
    have hx : (eat s.entries n).ops[k]? = some (eat s.entries n).ops[k] := List.getElem?_eq_getElem hlt
    have hkey := hk _ (List.getElem_mem hlt)
    have e0 : e0.ops = (eat s.entries n).ops := by rw [he]; rfl
    have ih := fun v a b ha hb => nodeOne_l1_eq hn (sh := sh) he hk hl ho q m (k + 1) v a b (by omega) (by omega) ha hb
    rw [nodeOne_l1, e0, bif_t (dec_t (by omega)), idx_nat, hx, some_bind, some_bind, some_bind, List.drop_eq_getElem_cons hlt]
    simp only [nodeOne_j2, nodeOne_j1, wrs k (by omega), doOps]
    generalize (eat s.entries n).ops[k] = o at hkey
    cases h1 : (shardZ o.key == sh)
    · rw [cond_false, cond_false, ih v a b (by omega) hbl]
    · have hv : (midN s n v a b).values = v := rfl
      rw [cond_true, cond_true, inR_ok hkey.1 hkey.2, some_bind, hv, idxV8 hkey.1 hkey.2, some_bind, some_bind, some_bind, some_bind, setV_in hkey.1 hkey.2, some_bind, some_bind]
      have hm : ({ entries := (midN s n v a b).entries, order := (midN s n v a b).order, values := v.setIfInBounds o.key.toNat (doZ (vat v o.key.toNat) o) } : GNode) = midN s n (v.setIfInBounds o.key.toNat (doZ (vat v o.key.toNat) o)) a b := rfl
      rw [hm]
      generalize hv2 : v.setIfInBounds o.key.toNat (doZ (vat v o.key.toNat) o) = v2
      have hvv : vat v2 o.key.toNat = doZ (vat v o.key.toNat) o := by rw [← hv2, vat_set (by omega), if_pos rfl]
      have hv' : (midN s n v2 a b).values = v2 := rfl
      rw [idxE hn, some_bind, some_bind, some_bind, hv', idxV8 hkey.1 hkey.2, some_bind, midN_ent hn, hvv]
      have e1 : (doneE (eat s.entries n) a b).at_ = a := rfl
      have e2 : (doneE (eat s.entries n) a b).values = b := rfl
      rw [e1, e2, app_ok (by rw [hb]; simp only [List.length_singleton]; omega), some_bind, app_ok (by rw [hb]; simp only [List.length_singleton]; omega), some_bind, some_bind, setE hn, some_bind, some_bind]
      rw [midN_at, idxE hn, some_bind, midN_ent hn, setE hn, some_bind, some_bind, midN_vs]
      exact ih v2 _ _ (by simp; omega) (by simp [hbl])
theorem nodeOneD_eq {fu : Nat} {s : GNode} {n : Nat} (hn : n < 32) {sh : Int} (hk : KeyOk (eat s.entries n).ops) (hl : (eat s.entries n).ops.length ≤ 4) (ho : s.order.length ≤ 1000) (hfu : 5 ≤ fu) : nodeOneD fu s n sh = some (oneZ s n sh) := by
  unfold nodeOneD
  have h := nodeOne_l1_eq hn (sh := sh) (e0 := doneE (eat s.entries n) [] []) rfl hk hl ho fu (eat s.entries n).ops.length 0 s.values [] [] (by omega) (by omega) (by simp) rfl
  have h : nodeOne_l1 n sh (doneE (eat s.entries n) [] []) fu (midN s n s.values [] []) 0 = some (oneZ s n sh) := h
  have e1 : ∀ (x : GEntry), ({ s with entries := s.entries.setIfInBounds n x } : GNode).entries = s.entries.setIfInBounds n x := fun _ => rfl
  rw [inR_ok (by omega) (by omega), some_bind, idxE hn, some_bind, setE hn, some_bind, some_bind]
  rw [e1, idxE hn, some_bind, eat_setI hn, if_pos rfl, setE hn, some_bind, some_bind]
  simp only [Vector.setIfInBounds_setIfInBounds]
  rw [idxE hn, some_bind, eat_setI hn, if_pos rfl, setE hn, some_bind, some_bind]
  simp only [Vector.setIfInBounds_setIfInBounds]
  rw [idxE hn, some_bind, eat_setI hn, if_pos rfl]
  rw [← h]
  rfl
theorem executeOne_l1_eq {s : GNode} {n : Nat} (hn : n < 32) {sh : Int} {e0 e : GEntry} (he : e0 = doneE e [] []) (hk : KeyOk e.ops) (hl : e.ops.length ≤ 4) (ho : s.order.length ≤ 1000) : ∀ (q m k : Nat) (v : Vector Int 8) (a b : List Int), e.ops.length = k + m → m < q → a.length ≤ k → b.length = a.length →
    executeOne_l1 n sh e0 q (doneE e a b) { s with values := v } k = some { entries := s.entries.setIfInBounds n (doneE e (doOps sh k (e.ops.drop k) v a b).2.1 (doOps sh k (e.ops.drop k) v a b).2.2), order := s.order ++ [(n : Int)], values := (doOps sh k (e.ops.drop k) v a b).1 }
  | 0, m, k, v, a, b, _, h, _, _ => absurd h (by omega)
  | q + 1, 0, k, v, a, b, hkm, _, _, _ => by
    have hb : Rep.bytes Int = 8 := rfl
    have e1 : e0.ops = e.ops := by rw [he]; rfl
    rw [executeOne_l1, e1, bif_f (dec_f (by omega)), List.drop_of_length_le (by omega), inR_ok (by omega) (by omega), some_bind, idxE hn, some_bind, setE hn, some_bind, some_bind, app_ok (by rw [hb]; simp only [List.length_singleton]; omega)]
    rfl
  | q + 1, m + 1, k, v, a, b, hkm, hq, ha, hbl => by
    have hb : Rep.bytes Int = 8 := rfl
    have e1 : e0.ops = e.ops := by rw [he]; rfl
    have hlt : k < e.ops.length := by omega
    have hx : e.ops[k]? = some e.ops[k] := List.getElem?_eq_getElem hlt
    have hkey := hk _ (List.getElem_mem hlt)
    have ih := fun v a b ha hb => executeOne_l1_eq hn (sh := sh) he hk hl ho q m (k + 1) v a b (by omega) (by omega) ha hb
    rw [executeOne_l1, e1, bif_t (dec_t (by omega)), idx_nat, hx, some_bind, some_bind, some_bind, List.drop_eq_getElem_cons hlt]
    simp only [executeOne_j2, executeOne_j1, wrs k (by omega), doOps]
    generalize e.ops[k] = o at hkey
    have hne : (shardZ o.key != sh) = !(shardZ o.key == sh) := rfl
    rw [hne]
    cases h1 : (shardZ o.key == sh)
    · rw [Bool.not_false, cond_true, cond_false, ih v a b (by omega) hbl]
    · rw [Bool.not_true, cond_false, cond_true, inR_ok hkey.1 hkey.2, some_bind, idxV8 hkey.1 hkey.2, some_bind, some_bind, some_bind, some_bind, setV_in hkey.1 hkey.2, some_bind, some_bind]
      have e2 : (doneE e a b).at_ = a := rfl
      have e3 : (doneE e a b).values = b := rfl
      rw [e2, e3, app_ok (by rw [hb]; simp only [List.length_singleton]; omega), some_bind, app_ok (by rw [hb]; simp only [List.length_singleton]; omega), some_bind, some_bind, some_bind]
      exact ih _ _ _ (by simp; omega) (by simp [hbl])
theorem executeOneD_eq {fu : Nat} {s : GNode} {n : Nat} (hn : n < 32) {sh : Int} (hk : KeyOk (eat s.entries n).ops) (hl : (eat s.entries n).ops.length ≤ 4) (ho : s.order.length ≤ 1000) (hfu : 5 ≤ fu) : executeOneD fu s n sh = some (oneZ s n sh) := by
  unfold executeOneD
  rw [inR_ok (by omega) (by omega), some_bind, idxE hn, some_bind, some_bind, some_bind, some_bind, some_bind]
  have h := executeOne_l1_eq (s := s) hn (sh := sh) (e := eat s.entries n) rfl hk hl ho fu (eat s.entries n).ops.length 0 s.values [] [] (by omega) (by omega) (by simp) rfl
  exact h
theorem atUp_mono {m : Int} : ∀ {l : List Int} {b b' : Int}, b' ≤ b → atUp m b l = true → atUp m b' l = true
  | [], _, _, _, _ => rfl
  | x :: t, b, b', h, ha => by
    unfold atUp at *
    simp only [Bool.and_eq_true, decide_eq_true_eq] at *
    exact ⟨⟨by omega, ha.1.2⟩, ha.2⟩
theorem doOps_at {sh : Int} : ∀ (l : List GOp) (i : Nat) (v : Vector Int 8) (a b : List Int), ∃ L, (doOps sh i l v a b).2.1 = a ++ L ∧ atUp ((i + l.length : Nat) : Int) ((i : Int) - 1) L = true ∧ (doOps sh i l v a b).2.2.length = b.length + L.length
  | [], i, v, a, b => ⟨[], by simp [doOps], rfl, by simp [doOps]⟩
  | o :: t, i, v, a, b => by
    unfold doOps
    cases h : (shardZ o.key == sh)
    · obtain ⟨L, h1, h2, h3⟩ := doOps_at t (i + 1) v a b
      rw [cond_false]
      refine ⟨L, h1, ?_, h3⟩
      rw [show i + (o :: t).length = i + 1 + t.length from by simp; omega]
      exact atUp_mono (by omega) h2
    · obtain ⟨L, h1, h2, h3⟩ := doOps_at t (i + 1) (v.setIfInBounds o.key.toNat (doZ (vat v o.key.toNat) o)) (a ++ [(i : Int)]) (b ++ [doZ (vat v o.key.toNat) o])
      rw [cond_true]
      refine ⟨(i : Int) :: L, by rw [h1]; simp, ?_, by rw [h3]; simp; omega⟩
      rw [show i + (o :: t).length = i + 1 + t.length from by simp; omega]
      unfold atUp
      simp only [Bool.and_eq_true, decide_eq_true_eq]
      refine ⟨⟨by omega, by omega⟩, ?_⟩
      rw [show (i : Int) = ((i + 1 : Nat) : Int) - 1 from by omega]
      exact h2
theorem entryOk_iff {k : Int} {e : GEntry} {t : Bool} : entryOk k e t = true ↔ (0 ≤ e.state ∧ e.state ≤ 3) ∧ (e.state = 3 ↔ t = true) ∧ restOk k e = true := by
  unfold entryOk
  simp only [Bool.and_eq_true, decide_eq_true_eq]
  refine and_congr_right fun _ => and_congr_left fun _ => ?_
  cases t <;> simp
structure Body (k : Int) (e : GEntry) : Prop where
  ops : goodOpsZ e.ops = true
  first : risingZ e.first = true
  deps : risingZ e.deps = true
  nfirst : hasZ e.first k = false
  ndeps : hasZ e.deps k = false
  asked : e.state = 1 → e.deps = []
  undone : e.state ≠ 3 → e.at_ = []
  same : e.at_.length = e.values.length
  up : atUp e.ops.length (-1) e.at_ = true
theorem body_iff {k : Int} {e : GEntry} : bodyOk k e = true ↔ Body k e := by
  unfold bodyOk
  simp only [Bool.and_eq_true, Bool.not_eq_true']
  constructor
  · rintro ⟨h1, h2, h3, h4, h5, h6, h7, h8, h9⟩
    refine ⟨h1, h2, h3, h4, h5, fun h => ?_, fun h => ?_, ?_, h9⟩
    · rw [h] at h6
      simpa using h6
    · have : (e.state != 3) = true := by simpa using h
      rw [this] at h7
      simpa using h7
    · simp only [bne_eq_false_iff_eq] at h8; omega
  · rintro ⟨h1, h2, h3, h4, h5, h6, h7, h8, h9⟩
    refine ⟨h1, h2, h3, h4, h5, ?_, ?_, ?_, h9⟩
    · by_cases h : e.state = 1
      · rw [h6 h]; simp
      · simp [h]
    · by_cases h : e.state = 3
      · rw [h]; rfl
      · rw [h7 h]; simp
    · simp only [bne_eq_false_iff_eq]; omega
theorem GoodN.body {s : GNode} (h : GoodN s) {k : Nat} (hk : k < 32) (h0 : (eat s.entries k).state ≠ 0) : Body k (eat s.entries k) := by
  have := (entryOk_iff.1 (h.ent k hk)).2.2
  unfold restOk at this
  rw [bif_f (by simpa using h0)] at this
  exact body_iff.1 this
theorem GoodN.state {s : GNode} (h : GoodN s) {k : Nat} (hk : k < 32) : 0 ≤ (eat s.entries k).state ∧ (eat s.entries k).state ≤ 3 := (entryOk_iff.1 (h.ent k hk)).1
theorem GoodN.done {s : GNode} (h : GoodN s) {k : Nat} (hk : k < 32) : (eat s.entries k).state = 3 ↔ (k : Int) ∈ s.order := by
  rw [(entryOk_iff.1 (h.ent k hk)).2.1]; simp
theorem emptyE_iff {e : GEntry} : emptyE e = true ↔ e.ops = [] ∧ e.first = [] ∧ e.deps = [] ∧ e.at_ = [] ∧ e.values = [] := by
  unfold emptyE
  simp [List.length_eq_zero_iff]
theorem GoodN.empty {s : GNode} (h : GoodN s) {k : Nat} (hk : k < 32) (h0 : (eat s.entries k).state = 0) : (eat s.entries k).ops = [] ∧ (eat s.entries k).first = [] ∧ (eat s.entries k).deps = [] ∧ (eat s.entries k).at_ = [] ∧ (eat s.entries k).values = [] := by
  have := (entryOk_iff.1 (h.ent k hk)).2.2
  unfold restOk at this
  rw [bif_t (by simpa using h0)] at this
  exact emptyE_iff.1 this
theorem nodup_len_int {l : List Int} (h : l.Nodup) (hr : ∀ m ∈ l, 0 ≤ m ∧ m < 32) : l.length ≤ 32 := by
  have h1 : (l.map Int.toNat).Nodup := by
    refine List.pairwise_map.2 (h.imp_of_mem fun {a b} ha hb hab => ?_)
    have := hr a ha
    have := hr b hb
    omega
  have := nodup_len 32 (l.map Int.toNat) h1 fun x hx => by
    obtain ⟨y, hy, rfl⟩ := List.mem_map.1 hx
    have := hr y hy
    omega
  simpa using this
theorem GoodN.len {s : GNode} (h : GoodN s) : s.order.length ≤ 32 := nodup_len_int h.nodup h.inr
theorem GoodN.set {s t : GNode} (h : GoodN s) {n : Nat} (hn : n < 32) {e : GEntry} (he : t.entries = s.entries.setIfInBounds n e) (ho : t.order = s.order) (h3 : (eat s.entries n).state ≠ 3) (h1 : 1 ≤ e.state ∧ e.state ≤ 2) (hb : Body n e) : GoodN t := by
  refine ⟨by rw [ho]; exact h.nodup, by rw [ho]; exact h.inr, fun k hk => ?_⟩
  rw [he, ho, eat_setI hn]
  by_cases e' : n = k
  · subst e'
    rw [if_pos rfl]
    refine entryOk_iff.2 ⟨by omega, ⟨fun h => by omega, fun hm => ?_⟩, ?_⟩
    · exact absurd ((h.done hn).2 (by simpa using hm)) h3
    · unfold restOk
      rw [bif_f (by simp; omega)]
      exact body_iff.2 hb
  · rw [if_neg e']
    exact h.ent k hk
theorem GoodN.one {s : GNode} (h : GoodN s) {n : Nat} (hn : n < 32) (h2 : (eat s.entries n).state = 2) (sh : Int) : GoodN (oneZ s n sh) := by
  have hb := h.body hn (by omega)
  have hno : (n : Int) ∉ s.order := fun hm => by have := (h.done hn).2 hm; omega
  refine ⟨?_, ?_, fun k hk => ?_⟩
  · refine List.nodup_append.2 ⟨h.nodup, by simp, fun a ha b hb => ?_⟩
    rw [List.mem_singleton.1 hb]
    rintro rfl
    exact hno ha
  · intro m hm
    rcases List.mem_append.1 hm with hm | hm
    · exact h.inr m hm
    · rw [List.mem_singleton.1 hm]; omega
  · show entryOk k (eat (s.entries.setIfInBounds n _) k) (decide ((k : Int) ∈ s.order ++ [(n : Int)])) = true
    rw [eat_setI hn]
    by_cases e' : n = k
    · subst e'
      rw [if_pos rfl]
      obtain ⟨L, a1, a2, a3⟩ := doOps_at (sh := sh) (eat s.entries n).ops 0 s.values [] []
      refine entryOk_iff.2 ⟨(show (0 : Int) ≤ 3 ∧ (3 : Int) ≤ 3 by decide), ⟨fun _ => by simp, fun _ => rfl⟩, ?_⟩
      show (bif false then _ else bodyOk _ _) = true
      rw [cond_false]
      refine body_iff.2 ⟨hb.ops, hb.first, hb.deps, hb.nfirst, hb.ndeps, fun h => ?_, fun h => absurd rfl h, ?_, ?_⟩
      · have : (3 : Int) = 1 := h
        omega
      · show (doOps sh 0 (eat s.entries n).ops s.values [] []).2.1.length = (doOps sh 0 (eat s.entries n).ops s.values [] []).2.2.length
        rw [a1, a3]
        simp
      · show atUp _ (-1) (doOps sh 0 _ s.values [] []).2.1 = true
        rw [a1, List.nil_append]
        rw [Nat.zero_add] at a2
        exact a2
    · rw [if_neg e']
      have : decide ((k : Int) ∈ s.order ++ [(n : Int)]) = decide ((k : Int) ∈ s.order) := by
        apply decide_eq_decide.2
        simp only [List.mem_append, List.mem_singleton]
        constructor
        · rintro (h | h)
          · exact h
          · omega
        · exact .inl
      rw [this]
      exact h.ent k hk
end Go.Proofs.Ytopgdemmdcipcaa
namespace Go.Proofs.Ytopgdemmdcipcaa
open Go.RowKit Go.ChangeShapes Go.WideShapes Go.ChangeAt Go.Deep
section
variable {H : Type} {enc : TypeId × Value → H} {P : Program} {w : World}
theorem weightsAll_mem {P : Program} {e : TypeId} : ∀ {ds : List (DataW H)} {d : DataW H}, d ∈ ds → ∀ n ∈ d.weights P e, n ∈ DataW.weightsAll P e ds
  | d0 :: ds, d, hd, n, hn => by
    simp only [DataW.weightsAll, List.mem_append]
    rcases List.mem_cons.1 hd with h | h
    · subst h; exact .inl hn
    · exact .inr (weightsAll_mem h n hn)
end
end Go.Proofs.Ytopgdemmdcipcaa
namespace Go.Proofs.Ytopgdemmdcipcaa
open Go.RowKit Go.ChangeShapes Go.WideShapes Go.ChangeAt Go.Deep
open Rep (rep)
theorem repL.fits {α : Type} [Rep α] {M : Mm} {v : Value} {l : List α} (h : repL M v l) : l.length * Rep.bytes α ≤ 140737488351232 := by
  obtain ⟨_, _, _, _, _, h, _⟩ := h
  exact h
def wholeM (w : World) : Mm := fun b => match w.heap[b]? with | some (.cells arr _ _) => some arr.toList | _ => none
theorem wholeM_agree (w : World) : Agree (wholeM w) w := fun b p hb => by
  unfold wholeM at hb
  split at hb
  · rename_i arr t fr hh
    cases hb
    exact ⟨arr, t, fr, hh, List.prefix_refl _⟩
  · cases hb
theorem weightsEach_mem {H : Type} {P : Program} {ts : List TypeId} {ds : List (DataW H)} {j : Nat} {t : TypeId} {d : DataW H} (ht : ts[j]? = some t) (hd : ds[j]? = some d) : ∀ n ∈ d.weights P t, n ∈ DataW.weightsEach P ts ds := DataW.weights_mem_each ht hd
def Opn (P : Program) (t : TypeId) (α : Type) [Rep α] : Prop :=
  P.cellsOf t = Rep.k α ∧ ∀ (H : Type) (enc : TypeId × Value → H) (w : World) (fuel : Nat) (cs : List Value) (d : DataW H) (p : List MemPlace),
    DataW.trod enc P w 0 (fun _ => true) true fuel t cs = some (d, p) → (∀ n ∈ d.weights P t, n ≤ reachBytes) → ∃ x : α, rep (wholeM w) cs x
section
variable {P : Program} {t e : TypeId} {α : Type} [Rep α]
theorem opn_int (ht : P.underlying t = some (.int .i64)) (hc : P.cellsOf t = 1) : Opn P t Int := ⟨hc, fun H enc w fuel cs d p h hw => by
  obtain ⟨n, rfl, _, _⟩ := DataW.trod_int ht h
  exact ⟨n, rfl⟩⟩
theorem add_bo (a : Addr) (i : Nat) : (a.add i).block = a.block ∧ (a.add i).off = a.off + i := by
  unfold Addr.add
  split
  · rename_i h; exact ⟨rfl, by rw [show i = 0 by simpa using h]; rfl⟩
  · exact ⟨rfl, rfl⟩
theorem cells_piece {w : World} {a : Addr} {k : Nat} {cs : List Value} (h : w.cells? 0 a k = some cs) (hk : 0 < k) :
    a.spot = none ∧ ∃ q, wholeM w a.block = some q ∧ a.off + k ≤ q.length ∧ sl q a.off k = cs := by
  obtain ⟨_, hl, hat⟩ := World.cells?_some h
  have h0 := hat 0 hk
  rw [List.getElem?_eq_getElem (by omega)] at h0
  have hsp : a.spot = none := by
    have := World.cell?_spot h0
    simpa [Addr.add] using this
  refine ⟨hsp, ?_⟩
  have hc : ∀ i, i < k → ∃ arr tt fr, w.heap[a.block]? = some (.cells arr tt fr) ∧ arr[a.off + i]? = cs[i]? := by
    intro i hi
    have hi' := hat i hi
    rw [List.getElem?_eq_getElem (by omega)] at hi' ⊢
    unfold World.cell? at hi'
    split at hi'
    · rename_i arr tt fr hh
      rw [(add_bo a i).1] at hh
      refine ⟨arr, tt, fr, hh, ?_⟩
      split at hi'
      · cases hi'
      · rw [(add_bo a i).2] at hi'
        exact hi'
    · cases hi'
  obtain ⟨arr, tt, fr, hh, _⟩ := hc 0 hk
  have hall : ∀ i, i < k → arr[a.off + i]? = cs[i]? := by
    intro i hi
    obtain ⟨arr', tt', fr', hh', he⟩ := hc i hi
    rw [hh] at hh'
    cases hh'
    exact he
  have hlen : a.off + k ≤ arr.size := by
    have := hall (k - 1) (by omega)
    rw [List.getElem?_eq_getElem (by omega)] at this
    have := (Array.getElem?_eq_some_iff.1 this).1
    omega
  refine ⟨arr.toList, by simp [wholeM, hh], by simpa using hlen, ?_⟩
  refine ext_get fun j => ?_
  by_cases hj : j < k
  · rw [sl_get _ _ _ _ hj]
    simpa using hall j hj
  · rw [sl_get_none _ _ _ _ (by omega), List.getElem?_eq_none (by omega)]
theorem opn_slice (ht : P.underlying t = some (.slice e)) (hc : P.cellsOf t = 1) (he : Opn P e α) (hk : 0 < Rep.k α) (hby : P.bytesOf e = Rep.bytes α) : Opn P t (List α) := ⟨hc, fun H enc w fuel cs d p h hw => by
  rcases open_slice ht h with ⟨rfl, hx⟩ | ⟨a, len, cap, m, n, D, Pl, rfl, _, hl, hm, hmm, hx, hel⟩
  · exact ⟨[], _, rfl, repL_nil _⟩
  · simp only [if_true] at hmm
    subst hmm
    simp only [Prod.mk.injEq] at hx
    rw [hx.1] at hw
    simp only [DataW.weights, ht, hby, List.mem_cons, List.mem_append, List.length_map, List.length_range] at hw
    have hw1 := hw _ (.inl rfl)
    unfold reachBytes at hw1
    have hone : ∀ i, i < len → ∃ x : α, ∃ b off q, a.add (i * Rep.k α) = ⟨b, off, none⟩ ∧ wholeM w b = some q ∧ off + Rep.k α ≤ q.length ∧ rep (wholeM w) (sl q off (Rep.k α)) x := by
      intro i him
      obtain ⟨cs', h1, h2⟩ := hel i (by omega)
      rw [he.1] at h1
      obtain ⟨hsp, q, hq, hlq, hsl⟩ := cells_piece h1 hk
      obtain ⟨x, hxr⟩ := he.2 H enc w n cs' (D i) (Pl i) h2 fun nn hnn => hw nn (.inr (.inl (weightsAll_mem (List.mem_map.2 ⟨i, List.mem_range.2 him, rfl⟩) _ hnn)))
      refine ⟨x, _, _, q, ?_, hq, hlq, by rw [hsl]; exact hxr⟩
      rw [← hsp]
    by_cases hz : len = 0
    · subst hz
      exact ⟨[], .slice (some a) 0 m, rfl, some a, m, rfl, by simp, (fun h => by cases h), by simp, fun i x hx => by simp at hx⟩
    have hspot : ∃ b off, a = ⟨b, off, none⟩ := by
      obtain ⟨x, b, off, q, e1, _⟩ := hone 0 (by omega)
      obtain ⟨ab, ao, asp⟩ := a
      simp [Addr.add] at e1
      exact ⟨ab, ao, by rw [e1.2.2]⟩
    obtain ⟨b, off, rfl⟩ := hspot
    obtain ⟨x0, _⟩ := hone 0 (by omega)
    haveI : Inhabited α := ⟨x0⟩
    obtain ⟨V, hV⟩ := choose_lt (α := α) hone
    have hlen : ((List.range len).map V).length = len := by simp
    refine ⟨(List.range len).map V, .slice (some ⟨b, off, none⟩) len m, rfl, some ⟨b, off, none⟩, m, by rw [hlen], by rw [hlen]; exact hl, (fun h => by cases h), ?_, fun i x hx => ?_⟩
    · rw [hlen]
      exact Nat.le_trans (Nat.mul_le_mul_right _ (by omega : len ≤ len + (m - len))) hw1
    · have hi : i < len := by
        have := (List.getElem?_eq_some_iff.1 hx).1
        omega
      have hxe : V i = x := by simpa [hi] using hx
      obtain ⟨b', off', q, e1, hq, hlq, hr⟩ := hV i hi
      rw [Addr.add_lit] at e1
      cases e1
      exact ⟨_, _, q, rfl, hq, hlq, hxe ▸ hr⟩⟩
theorem opn_field {H : Type} {enc : TypeId × Value → H} {w : World} {fuel : Nat} {cs : List Value} {d : DataW H} {p : List MemPlace} {fs : Array Field} (ht : P.underlying t = some (.struct fs))
    (h : DataW.trod enc P w 0 (fun _ => true) true fuel t cs = some (d, p)) (hw : ∀ n ∈ d.weights P t, n ≤ reachBytes) (i : Nat) (f : Field) (hf : fs[i]? = some f) {e : TypeId} {o k : Nat} (h1 : f.type = e) (h2 : f.offset = o) (hk : Rep.k α = k) (he : Opn P e α) :
    ∃ x : α, rep (wholeM w) (sl cs o k) x := by
  subst hk
  subst h1
  subst h2
  obtain ⟨ys, n, _, hx, _, hyl, hfld⟩ := DataW.trod_struct ht h
  obtain ⟨rfl, rfl⟩ := Prod.mk.inj hx
  have hi : i < fs.size := (Array.getElem?_eq_some_iff.1 hf).1
  have e0 := hfld i f hf
  rw [List.getElem?_eq_getElem (by omega), he.1] at e0
  refine he.2 H enc w n _ _ _ e0 fun nn hnn => hw nn ?_
  simp only [DataW.weights, ht]
  refine weightsEach_mem (j := i) ?_ ?_ nn hnn
  · simp only [List.getElem?_map]; rw [Array.getElem?_toList, hf]; rfl
  · simp only [List.getElem?_map, List.getElem?_eq_getElem (show i < ys.length by omega), Option.map_some]; rfl
theorem opn_array {n : Nat} (ht : P.underlying t = some (.array n e)) (hc : P.cellsOf t = n * Rep.k α) (he : Opn P e α) (hk : 0 < Rep.k α) : Opn P t (Vector α n) := ⟨hc, fun H enc w fuel cs d p h hw => by
  obtain ⟨ys, m, _, hx, hl, hyl, hel⟩ := DataW.trod_array ht h
  obtain ⟨rfl, rfl⟩ := Prod.mk.inj hx
  have hone : ∀ i, i < n → ∃ x : α, rep (wholeM w) (sl cs (i * Rep.k α) (Rep.k α)) x := by
    intro i hi
    have e0 := hel i hi
    rw [List.getElem?_eq_getElem (by omega), he.1] at e0
    refine he.2 H enc w m _ _ _ e0 fun nn hnn => hw nn ?_
    simp only [DataW.weights, ht]
    exact weightsAll_mem (List.mem_map.2 ⟨ys[i], List.getElem_mem _, rfl⟩) _ hnn
  by_cases hz : n = 0
  · subst hz
    exact ⟨#v[], by rw [hl, hc], .inr rfl, fun i hi => by omega⟩
  obtain ⟨x0, _⟩ := hone 0 (by omega)
  haveI : Inhabited α := ⟨x0⟩
  obtain ⟨V, hV⟩ := choose_lt (α := α) hone
  exact ⟨Vector.ofFn fun i => V i.1, by rw [hl, hc], .inl hk, fun i hi => by rw [Vector.getElem_ofFn]; exact hV i hi⟩⟩
theorem opn_arg (ho : Opn P t α) {H : Type} {enc : TypeId × Value → H} {w : World} {v : Value} {d : DataW H} {p : List MemPlace} (h : DataW.Trod enc P w 0 (fun _ => true) true t v d p) (hw : (d.weights P t).all (· ≤ reachBytes) = true) :
    ∃ x : α, rep (wholeM w) v.cells.toList x := by
  obtain ⟨fuel, hf⟩ := h
  exact ho.2 H enc w fuel _ _ _ hf fun n hn => of_decide_eq_true (List.all_eq_true.1 hw n hn)
theorem opn_agg {fs : Array Field} (ht : P.underlying t = some (.struct fs)) (ho : Opn P t α) {H : Type} {enc : TypeId × Value → H} {w : World} {v : Value} {d : DataW H} {p : List MemPlace} (hv : Value.okWide P w .any 0 t v)
    (h : DataW.Trod enc P w 0 (fun _ => true) true t v d p) (hw : (d.weights P t).all (· ≤ reachBytes) = true) : ∃ (cs : List Value) (x : α), v = .agg cs.toArray ∧ rep (wholeM w) cs x := by
  obtain ⟨cs, rfl, _⟩ := okWide_struct ht hv
  obtain ⟨x, hr⟩ := opn_arg ho h hw
  exact ⟨cs.toList, x, by simp, hr⟩
end
end Go.Proofs.Ytopgdemmdcipcaa
namespace Go.Proofs.Ytopgdemmdcipcaa
open Go.RowKit
open Rep (rep)
def g0 : GGraph := { known := ((Zr.zd : Vector Bool 32).setIfInBounds 1 true).setIfInBounds 2 true, deps := ((Zr.zd : Vector (List Int) 32).setIfInBounds 1 [2]).setIfInBounds 2 [1] }
end Go.Proofs.Ytopgdemmdcipcaa
namespace Go.Proofs.Ytopgdemmdcipcaa
open Go.RowKit
open Rep (rep)
def stepZ (sh : Int) (s : GNode) (m : Nat) : GNode := bif (eat s.entries m).state == 2 then oneZ s m sh else s
def runZ (sh : Int) (s : GNode) (l : List Nat) : GNode := l.foldl (stepZ sh) s
noncomputable def ordL (g : GGraph) (n : Nat) : List Nat := if readyZ g (n : Int) = true then orderS (pathB g) n else []
noncomputable def turnZ (g : GGraph) (sh : Int) (s : GNode) (n : Nat) : GNode := bif (eat s.entries n).state == 2 then runZ sh s (ordL g n) else s
noncomputable def execZ (s : GNode) (sh : Int) : GNode := (List.range 32).foldl (turnZ (graphZ s) sh) s
theorem orderZ_castL (g : GGraph) (n : Nat) : orderZ g (n : Int) = castL (ordL g n) := by
  unfold orderZ ordL castL
  by_cases h : readyZ g (n : Int) = true
  · rw [if_pos h, if_pos h, Int.toNat_natCast]
  · rw [if_neg h, if_neg h]
    rfl
theorem ordL_lt {g : GGraph} {n : Nat} (hn : n < 32) : ∀ m ∈ ordL g n, m < 32 := by
  unfold ordL
  by_cases h : readyZ g (n : Int) = true
  · rw [if_pos h]; exact (orderS_ok (pathB_pre g) hn).lt
  · rw [if_neg h]; simp
theorem ordL_len {g : GGraph} {n : Nat} (hn : n < 32) : (ordL g n).length ≤ 32 := by
  unfold ordL
  by_cases h : readyZ g (n : Int) = true
  · rw [if_pos h]; exact (orderS_ok (pathB_pre g) hn).len
  · rw [if_neg h]; simp
theorem GoodN.step {s : GNode} (h : GoodN s) {m : Nat} (hm : m < 32) (sh : Int) : GoodN (stepZ sh s m) := by
  unfold stepZ
  cases h2 : ((eat s.entries m).state == 2)
  · exact h
  · exact h.one hm (by simpa using h2) sh
theorem GoodN.run (sh : Int) : ∀ (l : List Nat) {s : GNode}, GoodN s → (∀ m ∈ l, m < 32) → GoodN (runZ sh s l)
  | [], _, h, _ => h
  | m :: t, _, h, hl => GoodN.run sh t (h.step (hl m List.mem_cons_self) sh) fun x hx => hl x (List.mem_cons_of_mem _ hx)
theorem GoodN.turn {s : GNode} (h : GoodN s) {n : Nat} (hn : n < 32) (g : GGraph) (sh : Int) : GoodN (turnZ g sh s n) := by
  unfold turnZ
  cases ((eat s.entries n).state == 2)
  · exact h
  · exact h.run sh _ (ordL_lt hn)
theorem GoodN.turns (g : GGraph) (sh : Int) : ∀ (l : List Nat) {s : GNode}, GoodN s → (∀ m ∈ l, m < 32) → GoodN (l.foldl (turnZ g sh) s)
  | [], _, h, _ => h
  | m :: t, _, h, hl => GoodN.turns g sh t (h.turn (hl m List.mem_cons_self) g sh) fun x hx => hl x (List.mem_cons_of_mem _ hx)
theorem GoodN.exec {s : GNode} (h : GoodN s) (sh : Int) : GoodN (execZ s sh) := h.turns _ sh _ fun m hm => List.mem_range.1 hm
theorem castL_get (l : List Nat) (k : Nat) : (castL l)[k]? = (l[k]?).map fun m => ((m : Nat) : Int) := by simp [castL]
theorem body_ops {s : GNode} (h : GoodN s) {m : Nat} (hm : m < 32) (h2 : ((eat s.entries m).state == 2) = true) : KeyOk (eat s.entries m).ops ∧ (eat s.entries m).ops.length ≤ 4 := by
  have h2 : (eat s.entries m).state = 2 := by simpa using h2
  have hb := h.body hm (by omega)
  exact ⟨KeyOk.of hb.ops, (goodOps_len hb.ops).2⟩
theorem nodeExec_l2_eq {fu : Nat} (hfu : 5 ≤ fu) {sh y : Int} {rec : GNode → Int → Option GNode} {l : List Nat} (hl : ∀ m ∈ l, m < 32) (hlen : l.length ≤ 32) : ∀ (q m k : Nat) (s : GNode), l.length = k + m → m < q → GoodN s → nodeExec_l2 fu sh y rec (castL l) q s k = nodeExec_j1 y rec (runZ sh s (l.drop k))
  | 0, m, k, s, _, h, _ => absurd h (by omega)
  | q + 1, 0, k, s, hk, _, _ => by
    rw [nodeExec_l2, castL_len, bif_f (dec_f (by omega)), List.drop_of_length_le (by omega)]
    rfl
  | q + 1, m + 1, k, s, hk, hq, hs => by
    have hlt : k < l.length := by omega
    have hm := hl _ (List.getElem_mem hlt)
    have ih := fun s hs => nodeExec_l2_eq (y := y) (rec := rec) (sh := sh) hfu hl hlen q m (k + 1) s (by omega) (by omega) hs
    rw [nodeExec_l2, castL_len, bif_t (dec_t (by omega)), idx_nat, castL_get, List.getElem?_eq_getElem hlt, List.drop_eq_getElem_cons hlt]
    generalize l[k] = x at hm
    simp only [Option.map_some, some_bind, nodeExec_j2, wrs k (by omega)]
    rw [inR_ok (by omega) (by omega), some_bind, idxE hm, some_bind]
    show _ = nodeExec_j1 y rec (runZ sh (stepZ sh s x) (l.drop (k + 1)))
    have hst := hs.step hm sh
    unfold stepZ at hst ⊢
    cases h2 : ((eat s.entries x).state == 2)
    · rw [cond_false, cond_false, ih s hs]
    · rw [h2, cond_true] at hst
      obtain ⟨b1, b2⟩ := body_ops hs hm h2
      rw [cond_true, cond_true, nodeOneD_eq hm b1 b2 (by have := hs.len; omega) hfu, some_bind, ih _ hst]
theorem nodeExec_l1_eq {fu N : Nat} {g : GGraph} (hg : Small g N) (hfu : N + 80 ≤ fu) {sh : Int} : ∀ (q m k : Nat) (s : GNode), k + m = 32 → m < q → GoodN s → nodeExec_l1 fu sh g q s k = some ((List.range' k m).foldl (turnZ g sh) s)
  | 0, m, k, s, _, h, _ => absurd h (by omega)
  | q + 1, 0, k, s, hk, _, _ => by rw [nodeExec_l1, bif_f (dec_f (by omega)), some_bind]; rfl
  | q + 1, m + 1, k, s, hk, hq, hs => by
    have hk32 : k < 32 := by omega
    have ih := fun s hs => nodeExec_l1_eq hg hfu (sh := sh) q m (k + 1) s (by omega) (by omega) hs
    rw [nodeExec_l1, bif_t (dec_t (by omega)), inR_ok (by omega) (by omega), some_bind, idxE hk32, some_bind, List.range'_succ, List.foldl_cons]
    have hne : ((eat s.entries k).state != 2) = !((eat s.entries k).state == 2) := rfl
    have ht := hs.turn hk32 g sh
    rw [hne]
    unfold turnZ at ht ⊢
    cases h2 : ((eat s.entries k).state == 2)
    · rw [Bool.not_false, cond_true, cond_false, nodeExec_j1, wrs k (by omega), ih s hs]
      rfl
    · rw [h2, cond_true] at ht
      rw [Bool.not_true, cond_false, cond_true, gorderD_eq hg hfu, some_bind, orderZ_castL]
      have h := nodeExec_l2_eq (fu := fu) (sh := sh) (y := (k : Int)) (rec := nodeExec_l1 fu sh g q) (by omega) (ordL_lt (g := g) hk32) (ordL_len (g := g) hk32) fu (ordL g k).length 0 s (by omega) (by have := ordL_len (g := g) hk32; omega) hs
      have h : nodeExec_l2 fu sh k (nodeExec_l1 fu sh g q) (castL (ordL g k)) fu s 0 = nodeExec_j1 k (nodeExec_l1 fu sh g q) (runZ sh s (ordL g k)) := h
      rw [h, nodeExec_j1, wrs k (by omega), ih _ ht]
      rfl
theorem GoodN.small {s : GNode} (h : GoodN s) : Small (graphZ s) 33 := by
  intro a
  by_cases ha : a < 32
  · rw [depsAt_graphZ ha]
    by_cases h0 : (eat s.entries a).state = 0
    · rw [(h.empty ha h0).2.2.1]; simp
    · have := rising_len (h.body ha h0).deps
      omega
  · unfold depsAt
    rw [dif_neg ha]
    exact ⟨by simp, by simp⟩
theorem cloneIntsD_eq {fu : Nat} {l : List Int} (h : l.length ≤ 17592186043904) : cloneIntsD fu l = some l := by
  have hb : Rep.bytes Int = 8 := rfl
  unfold cloneIntsD
  rw [app_ok (by rw [hb]; simp only [List.length_nil]; omega)]
  rfl
theorem nodeExecD_eq {fu : Nat} {s : GNode} (hs : GoodN s) (hfu : 120 ≤ fu) (sh : Int) : nodeExecD fu s sh = some (execZ s sh) := by
  unfold nodeExecD
  rw [nodeGraphD_eq (by omega), some_bind, some_bind, cloneIntsD_eq (by have := hs.len; omega), some_bind, some_bind]
  have h := nodeExec_l1_eq (fu := fu) hs.small (by omega) (sh := sh) fu 32 0 s (by omega) (by omega) hs
  unfold execZ
  rw [List.range_eq_range']
  exact h
theorem takeFrame_l2_eq {fu : Nat} (hfu : 5 ≤ fu) {sh y : Int} {rec : GNode → Int → Option (GNode × List GFrame × Int)} {l : List Nat} (hl : ∀ m ∈ l, m < 32) (hlen : l.length ≤ 32) : ∀ (q m k : Nat) (s : GNode), l.length = k + m → m < q → GoodN s → takeFrame_l2 fu sh y rec (castL l) q s k = takeFrame_j9 y rec (runZ sh s (l.drop k))
  | 0, m, k, s, _, h, _ => absurd h (by omega)
  | q + 1, 0, k, s, hk, _, _ => by
    rw [takeFrame_l2, castL_len, bif_f (dec_f (by omega)), List.drop_of_length_le (by omega)]
    rfl
  | q + 1, m + 1, k, s, hk, hq, hs => by
    have hlt : k < l.length := by omega
    have hm := hl _ (List.getElem_mem hlt)
    have ih := fun s hs => takeFrame_l2_eq (y := y) (rec := rec) (sh := sh) hfu hl hlen q m (k + 1) s (by omega) (by omega) hs
    rw [takeFrame_l2, castL_len, bif_t (dec_t (by omega)), idx_nat, castL_get, List.getElem?_eq_getElem hlt, List.drop_eq_getElem_cons hlt]
    generalize l[k] = x at hm
    simp only [Option.map_some, some_bind, takeFrame_j10, wrs k (by omega)]
    rw [inR_ok (by omega) (by omega), some_bind, idxE hm, some_bind]
    show _ = takeFrame_j9 y rec (runZ sh (stepZ sh s x) (l.drop (k + 1)))
    have hst := hs.step hm sh
    unfold stepZ at hst ⊢
    cases h2 : ((eat s.entries x).state == 2)
    · rw [cond_false, cond_false, ih s hs]
    · rw [h2, cond_true] at hst
      obtain ⟨b1, b2⟩ := body_ops hs hm h2
      rw [cond_true, cond_true, executeOneD_eq hm b1 b2 (by have := hs.len; omega) hfu, some_bind, ih _ hst]
theorem takeFrame_l1_eq {fu N : Nat} {g : GGraph} (hg : Small g N) (hfu : N + 80 ≤ fu) {who sh : Int} {f : GFrame} {e : GEntry} : ∀ (q m k : Nat) (s : GNode), k + m = 32 → m < q → GoodN s → takeFrame_l1 fu who f sh e g q s k = takeFrame_j5 who f sh e ((List.range' k m).foldl (turnZ g sh) s)
  | 0, m, k, s, _, h, _ => absurd h (by omega)
  | q + 1, 0, k, s, hk, _, _ => by rw [takeFrame_l1, bif_f (dec_f (by omega))]; rfl
  | q + 1, m + 1, k, s, hk, hq, hs => by
    have hk32 : k < 32 := by omega
    have ih := fun s hs => takeFrame_l1_eq hg hfu (who := who) (f := f) (e := e) (sh := sh) q m (k + 1) s (by omega) (by omega) hs
    rw [takeFrame_l1, bif_t (dec_t (by omega)), inR_ok (by omega) (by omega), some_bind, idxE hk32, some_bind, List.range'_succ, List.foldl_cons]
    have hne : ((eat s.entries k).state != 2) = !((eat s.entries k).state == 2) := rfl
    have ht := hs.turn hk32 g sh
    rw [hne]
    unfold turnZ at ht ⊢
    cases h2 : ((eat s.entries k).state == 2)
    · rw [Bool.not_false, cond_true, cond_false, takeFrame_j9, wrs k (by omega), ih s hs]
      rfl
    · rw [h2, cond_true] at ht
      rw [Bool.not_true, cond_false, cond_true, orderOfD_eq hg hfu, some_bind, orderZ_castL]
      have h := takeFrame_l2_eq (fu := fu) (sh := sh) (y := (k : Int)) (rec := takeFrame_l1 fu who f sh e g q) (by omega) (ordL_lt (g := g) hk32) (ordL_len (g := g) hk32) fu (ordL g k).length 0 s (by omega) (by have := ordL_len (g := g) hk32; omega) hs
      have h : takeFrame_l2 fu sh k (takeFrame_l1 fu who f sh e g q) (castL (ordL g k)) fu s 0 = takeFrame_j9 k (takeFrame_l1 fu who f sh e g q) (runZ sh s (ordL g k)) := h
      rw [h, takeFrame_j9, wrs k (by omega), ih _ ht]
      rfl
def knownF (who id : Int) : GFrame := { kind := 4, node := who, id := id, ops := [], deps := [], at_ := [], vals := [] }
def doneF (who id : Int) (x : GEntry) : GFrame := { kind := 5, node := who, id := id, ops := [], deps := [], at_ := x.at_, vals := x.values }
def toldF (who id : Int) (l : List Int) : GFrame := { kind := 2, node := who, id := id, ops := [], deps := l, at_ := [], vals := [] }
def answers (sh who id : Int) (s : GNode) : List GFrame := bif (eat s.entries id.toNat).state == 3 && touchesZ (eat s.entries id.toNat).ops sh then [knownF who id, doneF who id (eat s.entries id.toNat)] else [knownF who id]
def askedE (s : GNode) (f : GFrame) (sh : Int) : GEntry := { state := 1, ops := f.ops, first := aheadZ s f.id f.ops sh, deps := [], at_ := [], values := [] }
def askN (s : GNode) (f : GFrame) (sh : Int) : GNode := bif (eat s.entries f.id.toNat).state == 0 then { s with entries := s.entries.setIfInBounds f.id.toNat (askedE s f sh) } else s
def firstE (s : GNode) (f : GFrame) (sh : Int) : List Int := bif (eat s.entries f.id.toNat).state == 0 then aheadZ s f.id f.ops sh else (eat s.entries f.id.toNat).first
def commE (s : GNode) (f : GFrame) (sh : Int) : GEntry := { state := 2, ops := f.ops, first := firstE s f sh, deps := f.deps, at_ := (eat s.entries f.id.toNat).at_, values := (eat s.entries f.id.toNat).values }
def commN (s : GNode) (f : GFrame) (sh : Int) : GNode := { s with entries := s.entries.setIfInBounds f.id.toNat (commE s f sh) }
noncomputable def commitN (s : GNode) (f : GFrame) (sh : Int) : GNode := bif decide ((eat s.entries f.id.toNat).state < 2) then execZ (commN s f sh) sh else s
noncomputable def takeK (s : GNode) (who : Int) (f : GFrame) : GNode × List GFrame × Int :=
  bif f.kind == 1 then bif touchesZ f.ops (ofZ who) then (askN s f (ofZ who), [toldF who f.id (eat (askN s f (ofZ who)).entries f.id.toNat).first], 0) else (s, [], 4)
  else bif f.kind == 3 then (commitN s f (ofZ who), answers (ofZ who) who f.id (commitN s f (ofZ who)), 0) else (s, [], 3)
noncomputable def takeN (s : GNode) (who : Int) (f : GFrame) : GNode × List GFrame × Int :=
  bif goodN s && (decide (0 ≤ who ∧ who < 6) && f.node == who) then bif frameZ f == 0 then takeK s who f else (s, [], frameZ f) else (s, [], 2)
theorem rise_castL {l : List Nat} (h : l.Pairwise (· < ·)) (h32 : ∀ m ∈ l, m < 32) : risingZ (castL l) = true := by
  unfold risingZ
  rw [allTo_iff]
  intro i hi
  rw [castL_len] at hi
  have g : ∀ j, j < l.length → (castL l).getD j 0 = ((l[j]?.getD 0 : Nat) : Int) := fun j hj => by
    simp [castL, hj]
  unfold riseAt
  rw [g i hi, List.getElem?_eq_getElem hi, Option.getD_some]
  have h1 := h32 _ (List.getElem_mem hi)
  rw [dec_t (by omega), dec_t (by omega), Bool.true_and, Bool.true_and]
  by_cases h0 : i = 0
  · simp [h0]
  · rw [g (i - 1) (by omega), List.getElem?_eq_getElem (show i - 1 < l.length by omega), Option.getD_some]
    have := List.pairwise_iff_getElem.1 h (i - 1) i (by omega) hi (by omega)
    rw [dec_t (by omega), Bool.or_true]
theorem aheadL_mem {s : GNode} {id : Int} {ops : List GOp} {sh : Int} {m : Nat} : m ∈ aheadL s id ops sh ↔ m < 32 ∧ inWay s id ops sh m = true := by
  unfold aheadL; simp
theorem ahead_ok {s : GNode} {n : Nat} {ops : List GOp} {sh : Int} : risingZ (aheadZ s n ops sh) = true ∧ hasZ (aheadZ s n ops sh) n = false := by
  refine ⟨rise_castL ?_ fun m hm => (aheadL_mem.1 hm).1, ?_⟩
  · exact List.Pairwise.filter _ List.pairwise_lt_range
  · rw [aheadZ, hasZ_castL]
    apply dec_f
    intro h
    have := (aheadL_mem.1 h).2
    unfold inWay at this
    simp at this
theorem frame_parts {f : GFrame} (h : frameZ f = 0) : opsPart f = true ∧ depsPart f = true ∧ atPart f = true := by
  unfold frameZ at h
  split at h
  · cases h
  · split at h
    · cases h
    · split at h
      · rename_i h3
        simpa [Bool.and_eq_true] using h3
      · cases h
theorem ask_ops {f : GFrame} (h : frameZ f = 0) (hk : f.kind = 1 ∨ f.kind = 3) : goodOpsZ f.ops = true := by
  have := (frame_parts h).1
  unfold opsPart at this
  rwa [if_pos hk] at this
theorem comm_deps {f : GFrame} (h : frameZ f = 0) (hk : f.kind = 3) : risingZ f.deps = true ∧ hasZ f.deps f.id = false := by
  have := (frame_parts h).2.1
  unfold depsPart at this
  rw [if_pos (.inr hk)] at this
  simpa [Bool.and_eq_true] using this
theorem GoodN.asked {s : GNode} (h : GoodN s) {f : GFrame} (hf : frameZ f = 0) (hk : f.kind = 1) (sh : Int) : GoodN (askN s f sh) := by
  obtain ⟨_, _, hid⟩ := frameZ_in hf
  obtain ⟨n, hn⟩ : ∃ n : Nat, f.id = n := ⟨f.id.toNat, by omega⟩
  unfold askN
  rw [hn, Int.toNat_natCast]
  cases h0 : ((eat s.entries n).state == 0)
  · exact h
  · have h0 : (eat s.entries n).state = 0 := by simpa using h0
    refine h.set (n := n) (by omega) rfl rfl (by omega) ⟨by show (1 : Int) ≤ 1; omega, by show (1 : Int) ≤ 2; omega⟩ ?_
    have ha : risingZ (aheadZ s f.id f.ops sh) = true ∧ hasZ (aheadZ s f.id f.ops sh) n = false := by rw [hn]; exact ahead_ok
    exact ⟨ask_ops hf (.inl hk), ha.1, rfl, ha.2, rfl, fun _ => rfl, fun _ => rfl, rfl, rfl⟩
theorem GoodN.comm {s : GNode} (h : GoodN s) {f : GFrame} (hf : frameZ f = 0) (hk : f.kind = 3) (h2 : (eat s.entries f.id.toNat).state < 2) (sh : Int) : GoodN (commN s f sh) := by
  obtain ⟨_, _, hid⟩ := frameZ_in hf
  obtain ⟨n, hn⟩ : ∃ n : Nat, f.id = n := ⟨f.id.toNat, by omega⟩
  have hn32 : n < 32 := by omega
  have hto : f.id.toNat = n := by rw [hn]; rfl
  rw [hto] at h2
  have hfi : risingZ (firstE s f sh) = true ∧ hasZ (firstE s f sh) n = false := by
    unfold firstE
    rw [hto]
    cases h0 : ((eat s.entries n).state == 0)
    · have hb := h.body hn32 (by simpa using h0)
      exact ⟨hb.first, hb.nfirst⟩
    · rw [cond_true, hn]
      exact ahead_ok
  have hat : (eat s.entries n).at_ = [] ∧ (eat s.entries n).values = [] := by
    by_cases h0 : (eat s.entries n).state = 0
    · exact ⟨(h.empty hn32 h0).2.2.2.1, (h.empty hn32 h0).2.2.2.2⟩
    · have hb := h.body hn32 h0
      have h1 := hb.undone (by omega)
      have h2 := hb.same
      rw [h1] at h2
      exact ⟨h1, List.length_eq_zero_iff.1 h2.symm⟩
  have hd := comm_deps hf hk
  rw [hn] at hd
  refine h.set (n := n) hn32 (e := commE s f sh) (by rw [← hto]; rfl) rfl (by omega) ⟨by show (1 : Int) ≤ 2; omega, by show (2 : Int) ≤ 2; omega⟩ ?_
  have e1 : (commE s f sh).at_ = [] := by rw [← hat.1, ← hto]; rfl
  have e2 : (commE s f sh).values = [] := by rw [← hat.2, ← hto]; rfl
  refine ⟨ask_ops hf (.inr hk), hfi.1, hd.1, hfi.2, hd.2, fun h => ?_, fun _ => e1, by rw [e1, e2], by rw [e1]; rfl⟩
  have h : (2 : Int) = 1 := h
  omega
theorem GoodN.commit {s : GNode} (h : GoodN s) {f : GFrame} (hf : frameZ f = 0) (hk : f.kind = 3) (sh : Int) : GoodN (commitN s f sh) := by
  unfold commitN
  by_cases h2 : (eat s.entries f.id.toNat).state < 2
  · rw [bif_t (dec_t h2)]; exact (h.comm hf hk h2 sh).exec sh
  · rw [bif_f (dec_f h2)]; exact h
end Go.Proofs.Ytopgdemmdcipcaa
namespace Go.Proofs.Ytopgdemmdcipcaa
open Go.RowKit
open Rep (rep)
theorem idxEi {v : Vector GEntry 32} {j : Int} (h0 : 0 ≤ j) (h1 : j < 32) : idxV v j = some (eat v j.toNat) := by
  obtain ⟨n, rfl⟩ : ∃ n : Nat, j = n := ⟨j.toNat, by omega⟩
  rw [idxE (by omega), Int.toNat_natCast]
theorem nodeIsD_eq {fu : Nat} {x : Int} : nodeIsD fu x = some (decide (0 ≤ x ∧ x < 6)) := by
  unfold nodeIsD nodeIs_j1
  by_cases h : x ≥ 0
  · rw [bif_t (dec_t h)]
    congr 1
    apply decide_eq_decide.2
    omega
  · rw [bif_f (dec_f h), dec_f (by omega)]
theorem nodeTake_j4_eq {who sh : Int} {f : GFrame} {d : GNode} (hf : 0 ≤ f.id ∧ f.id < 32) : nodeTake_j4 who f sh d = some (d, answers sh who f.id d, 0) := by
  unfold nodeTake_j4 nodeTake_j6 nodeTake_j5 answers
  have hb : Rep.bytes GFrame = 120 := rfl
  rw [some_bind, inR_ok hf.1 hf.2, some_bind, idxEi hf.1 hf.2, some_bind, some_bind]
  cases ((eat d.entries f.id.toNat).state == 3)
  · rfl
  · simp only [cond_true, some_bind, Bool.true_and]
    cases touchesZ (eat d.entries f.id.toNat).ops sh
    · rfl
    · rw [cond_true, app_ok (by rw [hb]; simp)]
      rfl
theorem takeFrame_j5_eq {who sh : Int} {f : GFrame} {e : GEntry} {d : GNode} (hf : 0 ≤ f.id ∧ f.id < 32) : takeFrame_j5 who f sh e d = some (d, answers sh who f.id d, 0) := by
  unfold takeFrame_j5 takeFrame_j7 takeFrame_j6 answers
  have hb : Rep.bytes GFrame = 120 := rfl
  rw [some_bind, inR_ok hf.1 hf.2, some_bind, idxEi hf.1 hf.2, some_bind, some_bind]
  cases ((eat d.entries f.id.toNat).state == 3)
  · rfl
  · simp only [cond_true, some_bind, Bool.true_and]
    cases touchesZ (eat d.entries f.id.toNat).ops sh
    · rfl
    · rw [cond_true, app_ok (by rw [hb]; simp)]
      rfl
theorem nodeTake_j7_eq {fu : Nat} {s d : GNode} {who sh : Int} {f : GFrame} (hf : 0 ≤ f.id ∧ f.id < 32) (hfu : 120 ≤ fu) (hg : GoodN (commN s f sh))
    (hd : d.entries = s.entries.setIfInBounds f.id.toNat { eat s.entries f.id.toNat with first := firstE s f sh }) (ho : d.order = s.order) (hv : d.values = s.values) :
    nodeTake_j7 fu who f sh d = some (execZ (commN s f sh) sh, answers sh who f.id (execZ (commN s f sh) sh), 0) := by
  have hn : f.id.toNat < 32 := by omega
  obtain ⟨n, hnn⟩ : ∃ n : Nat, f.id = n := ⟨f.id.toNat, by omega⟩
  unfold nodeTake_j7
  have e1 : ∀ (x : Vector GEntry 32), ({ d with entries := x } : GNode).entries = x := fun _ => rfl
  rw [idxEi hf.1 hf.2, some_bind, setV_in hf.1 hf.2, some_bind, some_bind]
  rw [e1, idxEi hf.1 hf.2, some_bind, eat_setI hn, if_pos rfl, setV_in hf.1 hf.2, some_bind, some_bind]
  simp only [Vector.setIfInBounds_setIfInBounds]
  rw [idxEi hf.1 hf.2, some_bind, eat_setI hn, if_pos rfl, setV_in hf.1 hf.2, some_bind, some_bind]
  simp only [Vector.setIfInBounds_setIfInBounds]
  have hc : ({ entries := d.entries.setIfInBounds f.id.toNat { state := 2, ops := f.ops, first := (eat d.entries f.id.toNat).first, deps := f.deps, at_ := (eat d.entries f.id.toNat).at_, values := (eat d.entries f.id.toNat).values }, order := d.order, values := d.values } : GNode) = commN s f sh := by
    unfold commN commE
    rw [hd, ho, hv, eat_setI hn, if_pos rfl]
    simp only [Vector.setIfInBounds_setIfInBounds]
  rw [hc, nodeExecD_eq hg hfu, some_bind, some_bind, nodeTake_j4_eq hf]
theorem setI_same {v : Vector GEntry 32} {k : Nat} (hk : k < 32) : v.setIfInBounds k (eat v k) = v := by
  refine eat_ext fun j hj => ?_
  rw [eat_setI hk]
  by_cases e : k = j
  · rw [if_pos e, e]
  · rw [if_neg e]
theorem nodeTake_j1_eq {fu : Nat} {s : GNode} {who : Int} {f : GFrame} {d : GNode} (hg : GoodN s) (hz : frameZ f = 0) (hfu : 120 ≤ fu) : nodeTake_j1 fu s who f d = some (takeK s who f) := by
  obtain ⟨_, _, hf⟩ := frameZ_in hz
  have hn : f.id.toNat < 32 := by omega
  unfold nodeTake_j1 takeK
  rw [hz, some_bind, bif_f (by rfl), some_bind, inR_ok hf.1 hf.2, some_bind]
  cases h1 : (f.kind == 1)
  · rw [cond_false, cond_false]
    cases h3 : (f.kind == 3)
    · rfl
    · rw [cond_true, cond_true, idxEi hf.1 hf.2, some_bind, some_bind]
      unfold commitN
      have hk : f.kind = 3 := by simpa using h3
      by_cases h2 : (eat s.entries f.id.toNat).state < 2
      · have hc := hg.comm hz hk h2 (ofZ who)
        rw [bif_t (dec_t h2), bif_t (dec_t h2)]
        cases h0 : ((eat s.entries f.id.toNat).state == 0)
        · rw [cond_false]
          refine nodeTake_j7_eq hf hfu hc ?_ rfl rfl
          unfold firstE
          rw [h0, cond_false]
          exact (setI_same hn).symm
        · rw [cond_true, nodeAheadD_eq (by omega), some_bind, some_bind, setV_in hf.1 hf.2, some_bind, some_bind]
          refine nodeTake_j7_eq hf hfu hc ?_ rfl rfl
          unfold firstE
          rw [h0, cond_true]
      · rw [bif_f (dec_f h2), bif_f (dec_f h2), nodeTake_j4_eq hf]
  · rw [cond_true, cond_true, some_bind]
    cases touchesZ f.ops (ofZ who)
    · rfl
    · rw [bif_f (c := !true) rfl, cond_true, idxEi hf.1 hf.2, some_bind]
      unfold askN
      cases h0 : ((eat s.entries f.id.toNat).state == 0)
      · rw [cond_false, cond_false, nodeTake_j2, idxEi hf.1 hf.2]
        rfl
      · rw [cond_true, nodeAheadD_eq (by omega), some_bind, some_bind, some_bind, setV_in hf.1 hf.2, some_bind, some_bind, nodeTake_j2, idxEi hf.1 hf.2]
        rfl
theorem nodeTakeD_eq {fu N : Nat} {s : GNode} {who : Int} {f : GFrame} (hs : NSz s N) (h1 : N + 40 ≤ fu) (hfu : 120 ≤ fu) : nodeTakeD fu s who f = some (takeN s who f) := by
  unfold nodeTakeD takeN
  rw [nodeGoodD_eq hs h1, some_bind]
  cases hg : goodN s
  · rfl
  · have hg := goodN_iff.1 hg
    rw [bif_f (c := !true) rfl, nodeIsD_eq, some_bind, Bool.true_and]
    cases decide (0 ≤ who ∧ who < 6)
    · rfl
    · rw [bif_f (c := !true) rfl, Bool.true_and]
      unfold nodeTake_j8
      have hne : (f.node != who) = !(f.node == who) := rfl
      rw [hne]
      cases (f.node == who)
      · rfl
      · rw [Bool.not_true, cond_false, cond_true]
        cases hz : (frameZ f == 0)
        · unfold nodeTake_j1
          have : (frameZ f != 0) = true := by rw [bne, hz]; rfl
          rw [some_bind, this]
          rfl
        · exact nodeTake_j1_eq hg (by simpa using hz) hfu
theorem takeFrame_j8_eq {fu : Nat} {s : GNode} {who sh : Int} {f : GFrame} {e : GEntry} (hf : 0 ≤ f.id ∧ f.id < 32) (hfu : 120 ≤ fu) (hg : GoodN (commN s f sh)) (he : e = { eat s.entries f.id.toNat with first := firstE s f sh }) :
    takeFrame_j8 fu who f sh s e = some (execZ (commN s f sh) sh, answers sh who f.id (execZ (commN s f sh) sh), 0) := by
  unfold takeFrame_j8
  rw [some_bind, some_bind, some_bind, inR_ok hf.1 hf.2, some_bind, idxEi hf.1 hf.2, some_bind, setV_in hf.1 hf.2, some_bind, some_bind]
  have hc : ({ s with entries := s.entries.setIfInBounds f.id.toNat { state := 2, ops := f.ops, first := e.first, deps := f.deps, at_ := e.at_, values := e.values } } : GNode) = commN s f sh := by
    rw [he]
    rfl
  rw [hc, graphOfD_eq (by omega), some_bind, some_bind]
  have h := takeFrame_l1_eq (fu := fu) hg.small (by omega) (who := who) (f := f) (sh := sh) (e := { state := 2, ops := f.ops, first := e.first, deps := f.deps, at_ := e.at_, values := e.values }) fu 32 0 _ (by omega) (by omega) hg
  have e2 : (List.range' 0 32).foldl (turnZ (graphZ (commN s f sh)) sh) (commN s f sh) = execZ (commN s f sh) sh := by unfold execZ; rw [List.range_eq_range']
  rw [e2, takeFrame_j5_eq hf] at h
  exact h
theorem takeFrame_j2_eq {fu N : Nat} {s : GNode} {who : Int} {f : GFrame} {d : GNode} (hg : GoodN s) (hs : NSz s N) (hz : frameZ f = 0) (hfu : 120 ≤ fu) (h13 : f.kind = 1 ∨ f.kind = 3) : takeFrame_j2 fu s who f d = some (takeK s who f) := by
  obtain ⟨_, _, hf⟩ := frameZ_in hz
  have hn : f.id.toNat < 32 := by omega
  have h0s : ∀ k, k < 32 → 0 ≤ (eat s.entries k).state := fun k hk => (hg.state hk).1
  unfold takeFrame_j2 takeK
  rw [some_bind, some_bind, copyNodeD_eq hs (by omega), some_bind, some_bind, inR_ok hf.1 hf.2, some_bind, idxEi hf.1 hf.2, some_bind, some_bind]
  cases h1 : (f.kind == 1)
  · have hk : f.kind = 3 := by
      rcases h13 with h | h
      · rw [h] at h1; cases h1
      · exact h
    have h3 : (f.kind == 3) = true := by simpa using hk
    rw [cond_false, cond_false, h3, cond_true]
    unfold commitN
    by_cases h2 : (eat s.entries f.id.toNat).state < 2
    · have hc := hg.comm hz hk h2 (ofZ who)
      rw [bif_t (dec_t h2), bif_t (dec_t h2)]
      cases h0 : ((eat s.entries f.id.toNat).state == 0)
      · rw [cond_false]
        refine takeFrame_j8_eq hf hfu hc ?_
        unfold firstE
        rw [h0, cond_false]
      · rw [cond_true, beforeD_eq h0s (by omega), some_bind, some_bind]
        refine takeFrame_j8_eq hf hfu hc ?_
        unfold firstE
        rw [h0, cond_true]
    · rw [bif_f (dec_f h2), bif_f (dec_f h2), takeFrame_j5_eq hf]
  · rw [cond_true, cond_true, some_bind]
    cases touchesZ f.ops (ofZ who)
    · rfl
    · rw [bif_f (c := !true) rfl, cond_true]
      unfold askN
      cases h0 : ((eat s.entries f.id.toNat).state == 0)
      · rfl
      · rw [cond_true, beforeD_eq h0s (by omega), some_bind, some_bind, some_bind, some_bind, setV_in hf.1 hf.2, some_bind, some_bind]
        unfold takeFrame_j3
        have e : eat (s.entries.setIfInBounds f.id.toNat (askedE s f (ofZ who))) f.id.toNat = askedE s f (ofZ who) := by rw [eat_setI hn, if_pos rfl]
        rw [cond_true]
        show some (_, [toldF who f.id (askedE s f (ofZ who)).first], (0 : Int)) = some (_, [toldF who f.id (eat (s.entries.setIfInBounds f.id.toNat (askedE s f (ofZ who))) f.id.toNat).first], 0)
        rw [e]
        rfl
theorem takeFrameD_eq {fu N : Nat} {s : GNode} {who : Int} {f : GFrame} (hs : NSz s N) (h1 : N + 40 ≤ fu) (hfu : 120 ≤ fu) : takeFrameD fu s who f = some (takeN s who f) := by
  unfold takeFrameD takeN
  rw [isNodeD_eq hs h1, some_bind]
  cases hg : goodN s
  · rfl
  · have hg := goodN_iff.1 hg
    rw [bif_f (c := !true) rfl, Bool.true_and]
    by_cases hw0 : who < 0
    · rw [bif_t (dec_t hw0), dec_f (show ¬ (0 ≤ who ∧ who < 6) by omega)]; rfl
    · rw [bif_f (dec_f hw0)]
      by_cases hw5 : who > 5
      · rw [bif_t (dec_t hw5), dec_f (show ¬ (0 ≤ who ∧ who < 6) by omega)]; rfl
      · rw [bif_f (dec_f hw5), dec_t (show 0 ≤ who ∧ who < 6 by omega), Bool.true_and]
        unfold takeFrame_j12
        have hne : (f.node != who) = !(f.node == who) := rfl
        rw [hne]
        cases (f.node == who)
        · rfl
        · rw [Bool.not_true, cond_false, cond_true]
          unfold takeFrame_j1
          cases hz : (frameZ f == 0)
          · have : (frameZ f != 0) = true := by rw [bne, hz]; rfl
            rw [some_bind, this]
            rfl
          · have : (frameZ f != 0) = false := by rw [bne, hz]; rfl
            rw [some_bind, this, cond_false, cond_true]
            have hz : frameZ f = 0 := by simpa using hz
            have h1e : (f.kind != 1) = !(f.kind == 1) := rfl
            have h3e : (f.kind != 3) = !(f.kind == 3) := rfl
            rw [h1e, h3e]
            unfold takeFrame_j11
            cases h1 : (f.kind == 1)
            · cases h3 : (f.kind == 3)
              · unfold takeK
                rw [h1, h3]
                rfl
              · exact takeFrame_j2_eq (d := Zr.zd) hg hs hz hfu (.inr (by simpa using h3))
            · exact takeFrame_j2_eq (d := Zr.zd) hg hs hz hfu (.inl (by simpa using h1))
theorem atUp_len {m : Int} : ∀ {l : List Int} {b : Int}, atUp m b l = true → l = [] ∨ b + l.length < m
  | [], _, _ => .inl rfl
  | x :: t, b, h => by
    unfold atUp at h
    simp only [Bool.and_eq_true, decide_eq_true_eq] at h
    refine .inr ?_
    rcases atUp_len h.2 with e | e
    · subst e; simp; omega
    · simp only [List.length_cons]; omega
theorem GoodN.sizes {s : GNode} (h : GoodN s) : NSz s 33 := by
  refine ⟨by have := h.len; omega, fun k => ?_⟩
  by_cases hk : k < 32
  · by_cases h0 : (eat s.entries k).state = 0
    · obtain ⟨e1, e2, e3, e4, e5⟩ := h.empty hk h0
      refine ⟨?_, ?_, ?_, ?_, ?_⟩
      · rw [e1]; simp
      · rw [e2]; simp
      · rw [e3]; simp
      · rw [e4]; simp
      · rw [e5]; simp
    · have hb := h.body hk h0
      have h1 := goodOps_len hb.ops
      have h2 := rising_len hb.first
      have h3 := rising_len hb.deps
      have h4 : (eat s.entries k).at_.length ≤ 4 := by
        rcases atUp_len hb.up with e | e
        · rw [e]; simp
        · omega
      have h5 := hb.same
      exact ⟨by omega, by omega, by omega, by omega, by omega⟩
  · rw [eat_out hk]
    have e : (Zr.zd : GEntry) = { state := 0, ops := [], first := [], deps := [], at_ := [], values := [] } := rfl
    rw [e]
    exact ⟨by simp, by simp, by simp, by simp, by simp⟩
theorem NSz.mono {s : GNode} {N M : Nat} (h : NSz s N) (hNM : N ≤ M) : NSz s M :=
  ⟨⟨by have := h.order.1; omega, h.order.2⟩, fun k => by
    have e := h.ent k
    exact ⟨⟨by have := e.ops.1; omega, e.ops.2⟩, ⟨by have := e.first.1; omega, e.first.2⟩, ⟨by have := e.deps.1; omega, e.deps.2⟩, ⟨by have := e.at_.1; omega, e.at_.2⟩, ⟨by have := e.values.1; omega, e.values.2⟩⟩⟩
theorem takeN_sizes {s : GNode} {N : Nat} {who : Int} {f : GFrame} (h : NSz s N) : NSz (takeN s who f).1 (N + 33) := by
  unfold takeN
  cases hg : goodN s
  · exact h.mono (by omega)
  · have hg := goodN_iff.1 hg
    rw [Bool.true_and]
    cases (decide (0 ≤ who ∧ who < 6) && f.node == who)
    · exact h.mono (by omega)
    · rw [cond_true]
      cases hz : (frameZ f == 0)
      · exact h.mono (by omega)
      · have hz : frameZ f = 0 := by simpa using hz
        rw [cond_true]
        unfold takeK
        cases h1 : (f.kind == 1)
        · cases h3 : (f.kind == 3)
          · exact h.mono (by omega)
          · exact (hg.commit hz (by simpa using h3) (ofZ who)).sizes.mono (by omega)
        · cases touchesZ f.ops (ofZ who)
          · exact h.mono (by omega)
          · exact (hg.asked hz (by simpa using h1) (ofZ who)).sizes.mono (by omega)
theorem answers_few (sh who id : Int) (s : GNode) : (answers sh who id s).length ≤ 2 ∧ ∀ f ∈ answers sh who id s, f.ops.length ≤ 4 := by
  unfold answers
  cases (eat s.entries id.toNat).state == 3 && touchesZ (eat s.entries id.toNat).ops sh
  · refine ⟨by simp, fun f hf => ?_⟩
    rw [List.mem_singleton.1 hf]
    simp [knownF]
  · refine ⟨by simp, fun f hf => ?_⟩
    rw [cond_true] at hf
    simp only [List.mem_cons, List.not_mem_nil, or_false] at hf
    rcases hf with rfl | rfl
    · simp [knownF]
    · simp [doneF]
theorem takeN_few {s : GNode} {who : Int} {f : GFrame} : (takeN s who f).2.1.length ≤ 2 ∧ ∀ x ∈ (takeN s who f).2.1, x.ops.length ≤ 4 := by
  unfold takeN takeK
  cases goodN s && (decide (0 ≤ who ∧ who < 6) && f.node == who)
  · exact ⟨by simp, by simp⟩
  · cases (frameZ f == 0)
    · exact ⟨by simp, by simp⟩
    · cases (f.kind == 1)
      · cases (f.kind == 3)
        · exact ⟨by simp, by simp⟩
        · exact answers_few _ _ _ _
      · cases touchesZ f.ops (ofZ who)
        · exact ⟨by simp, by simp⟩
        · refine ⟨by simp, fun x hx => ?_⟩
          simp only [cond_true, List.mem_singleton] at hx
          rw [hx]
          simp [toldF]
theorem sameEntryD_refl {fu N : Nat} {e : GEntry} (h : ESz e N) (hf : N ≤ fu) : sameEntryD fu e e = some true := by
  unfold sameEntryD sameEntry_j1
  rw [sameOpsD_refl (by have := h.ops.2; omega) (by have := h.ops.1; omega)]
  simp only [some_bind, sameZ_refl, beq_self_eq_true, cond_true]
theorem sameNode_l1_eq {fu N : Nat} {s : GNode} (h : NSz s N) (hf : N ≤ fu) : ∀ (n m k : Nat), k + m = 32 → m < n → sameNode_l1 fu s s n k = some true
  | 0, m, k, _, h => absurd h (by omega)
  | n + 1, 0, k, hk, _ => by
    rw [sameNode_l1, bif_f (dec_f (by omega)), some_bind, sameZ_refl, cond_true, sameNode_j1, dec_t rfl]
  | n + 1, m + 1, k, hk, hn => by
    have hk32 : k < 32 := by omega
    rw [sameNode_l1, bif_t (dec_t (by omega)), inR_ok (by omega) (by omega), some_bind, idxE hk32, some_bind, some_bind, some_bind, sameEntryD_refl (h.ent k) hf, some_bind, bif_f (c := !true) rfl, wrs k (by omega)]
    exact sameNode_l1_eq h hf n m (k + 1) (by omega) (by omega)
theorem sameNodeD_refl {fu N : Nat} {s : GNode} (h : NSz s N) (hf : N + 40 ≤ fu) : sameNodeD fu s s = some true := sameNode_l1_eq h (by omega) fu 32 0 (by omega) (by omega)
theorem nodup_single {l : List Nat} {a : Nat} (h : l.Nodup) (hm : ∀ m, m ∈ l ↔ m = a) : l = [a] := by
  cases l with
  | nil => have := (hm a).2 rfl; cases this
  | cons x t =>
    have hx := (hm x).1 List.mem_cons_self
    subst hx
    cases t with
    | nil => rfl
    | cons y u =>
      have hy := (hm y).1 (List.mem_cons_of_mem _ List.mem_cons_self)
      rw [List.nodup_cons] at h
      exact absurd (by rw [hy]; exact List.mem_cons_self) h.1
theorem path_alone {g : GGraph} {n : Nat} (h : depsAt g n = []) {k : Nat} (hp : Path (Edge g) n k) : k = n := by
  induction hp with
  | refl => rfl
  | tail _ e ih =>
    subst ih
    have := e.2.2.1
    rw [h] at this
    cases this
theorem ordL_alone {g : GGraph} {n : Nat} (hn : n < 32) (hk : bat g.known n = true) (h : depsAt g n = []) : ordL g n = [n] := by
  unfold ordL
  rw [if_pos]
  · refine nodup_single (orderS_ok (pathB_pre g) hn).nodup fun m => ?_
    rw [orderS_mem (pathB_pre g) hn, pathB_iff]
    exact ⟨path_alone h, fun e => by rw [e]; exact .refl n⟩
  · rw [readyZ_iff]
    refine ⟨by omega, fun j _ hj hb => ?_⟩
    unfold reachZ at hb
    rw [if_pos (by omega), Int.toNat_natCast, bat_reachV hj] at hb
    rw [path_alone h hb]
    exact hk
theorem turns_none {g : GGraph} {sh : Int} {s : GNode} : ∀ (l : List Nat), (∀ k ∈ l, (eat s.entries k).state ≠ 2) → l.foldl (turnZ g sh) s = s
  | [], _ => rfl
  | k :: t, h => by
    have hk := h k List.mem_cons_self
    rw [List.foldl_cons, turnZ, bif_f (by simpa using hk)]
    exact turns_none t fun x hx => h x (List.mem_cons_of_mem _ hx)
theorem execZ_alone {s : GNode} {n : Nat} (hn : n < 32) (h2 : (eat s.entries n).state = 2) (hno : ∀ k, k < 32 → k ≠ n → (eat s.entries k).state ≠ 2) (hd : (eat s.entries n).deps = []) (sh : Int) : execZ s sh = oneZ s n sh := by
  have hg : ordL (graphZ s) n = [n] := ordL_alone hn (by rw [bat_graphZ hn, h2]; rfl) (by rw [depsAt_graphZ hn, hd])
  have hr : List.range 32 = List.range' 0 n ++ n :: List.range' (n + 1) (31 - n) := by
    rw [List.range_eq_range', ← List.range'_succ, show 31 - n + 1 = 32 - n from by omega]
    have := List.range'_append (s := 0) (m := n) (n := 32 - n) (step := 1)
    rw [show n + (32 - n) = 32 from by omega, show 0 + 1 * n = n from by omega] at this
    exact this.symm
  unfold execZ
  rw [hr, List.foldl_append, turns_none (List.range' 0 n) (fun k hk => by
    have := List.mem_range'_1.1 hk
    exact hno k (by omega) (by omega)), List.foldl_cons]
  have ht : turnZ (graphZ s) sh s n = oneZ s n sh := by
    unfold turnZ runZ
    rw [bif_t (by simp [h2]), hg]
    show stepZ sh s n = _
    unfold stepZ
    rw [bif_t (by simp [h2])]
  rw [ht]
  refine turns_none _ fun k hk => ?_
  have := List.mem_range'_1.1 hk
  show (eat (s.entries.setIfInBounds n _) k).state ≠ 2
  rw [eat_setI hn, if_neg (by omega)]
  exact hno k (by omega) (by omega)
def zeroN : GNode := { entries := Zr.zd, order := Zr.zd, values := Zr.zd }
theorem eat_zero (k : Nat) : eat (Zr.zd : Vector GEntry 32) k = Zr.zd := by
  show eat (Vector.replicate 32 Zr.zd) k = Zr.zd
  unfold eat
  by_cases hk : k < 32 <;> simp [hk]
theorem zero_good : GoodN zeroN := by
  refine ⟨List.nodup_nil, (by intro m hm; cases hm), fun k hk => ?_⟩
  show entryOk k (eat (Zr.zd : Vector GEntry 32) k) (decide ((k : Int) ∈ ([] : List Int))) = true
  rw [eat_zero]
  rfl
def f9 : GFrame := { kind := 3, node := 3, id := 4, ops := [{ kind := 2, key := 1, n := 9 }], deps := [], at_ := [], vals := [] }
theorem takeN_f9 : takeN zeroN 3 f9 = (oneZ (commN zeroN f9 1) 4 1, answers 1 3 4 (oneZ (commN zeroN f9 1) 4 1), 0) := by
  have hz : frameZ f9 = 0 := by decide +kernel
  have he : execZ (commN zeroN f9 1) 1 = oneZ (commN zeroN f9 1) 4 1 := by
    have h4 : eat (commN zeroN f9 1).entries 4 = commE zeroN f9 1 := by
      show eat ((Zr.zd : Vector GEntry 32).setIfInBounds 4 _) 4 = _
      rw [eat_setI (by omega), if_pos rfl]
    refine execZ_alone (by omega) (by rw [h4]; rfl) (fun k hk hk4 => ?_) (by rw [h4]; rfl) 1
    show (eat ((Zr.zd : Vector GEntry 32).setIfInBounds 4 _) k).state ≠ 2
    rw [eat_setI (by omega), if_neg (by omega), eat_zero]
    show (0 : Int) ≠ 2
    decide
  unfold takeN
  rw [goodN_iff.2 zero_good, hz]
  show takeK zeroN 3 f9 = _
  have ho : ofZ 3 = 1 := by decide
  have hs : (eat zeroN.entries f9.id.toNat).state = 0 := by
    show (eat (Zr.zd : Vector GEntry 32) 4).state = 0
    rw [eat_zero]
    rfl
  have k1 : (f9.kind == 1) = false := rfl
  have k3 : (f9.kind == 3) = true := rfl
  have k4 : f9.id = 4 := rfl
  unfold takeK commitN
  rw [ho, hs, k1, cond_false, k3, cond_true, dec_t (by decide), cond_true, he, k4]
theorem lawTakesD_eq {fu : Nat} (hfu : 120 ≤ fu) : lawTakesD fu = some true := by
  unfold lawTakesD
  rw [some_bind, some_bind, some_bind]
  have h : nodeTakeD fu { entries := Zr.zd, order := Zr.zd, values := Zr.zd } 3 { kind := 3, node := 3, id := 4, ops := [{ kind := 2, key := 1, n := 9 }], deps := Zr.zd, at_ := Zr.zd, vals := Zr.zd } = some (takeN zeroN 3 f9) := nodeTakeD_eq zero_good.sizes (by omega) hfu
  rw [h, some_bind, takeN_f9, some_bind]
  have h4 : eat (commN zeroN f9 1).entries 4 = commE zeroN f9 1 := by
    show eat ((Zr.zd : Vector GEntry 32).setIfInBounds 4 _) 4 = _
    rw [eat_setI (by omega), if_pos rfl]
  have hv : idxV (oneZ (commN zeroN f9 1) 4 1).values 1 = some 9 := by
    unfold oneZ
    rw [h4]
    decide +kernel
  have ha : (answers 1 3 4 (oneZ (commN zeroN f9 1) 4 1)).length = 2 := by
    have h5 : eat (oneZ (commN zeroN f9 1) 4 1).entries 4 = doneE (commE zeroN f9 1) [0] [9] := by
      unfold oneZ
      rw [eat_setI (by omega), if_pos rfl, h4]
      rfl
    unfold answers
    rw [show (4 : Int).toNat = 4 from rfl, h5]
    rfl
  rw [ha, hv]
  rfl
theorem nodeTakesD_eq {fu N : Nat} {s : GNode} {who : Int} {f : GFrame} (hs : NSz s N) (hf : FSz f) (hfu : N + 160 ≤ fu) (hfo : f.ops.length < fu) (hsame : sameFrameD fu f f = some true) : nodeTakesD fu s who f = some true := by
  unfold nodeTakesD nodeTakes_j1 nodeTakes_j2
  have hfew := takeN_few (s := s) (who := who) (f := f)
  rw [copyNodeD_eq hs (by omega), some_bind, lawFrameD_eq hf, some_bind, some_bind, some_bind, nodeTakeD_eq hs (by omega) (by omega), some_bind, some_bind, takeFrameD_eq hs (by omega) (by omega), some_bind, some_bind, sameNodeD_refl (takeN_sizes hs) (by omega), some_bind, cond_true,
    sameFramesD_refl (by omega) (by omega) hfew.2, some_bind, cond_true, bif_t (by simp), nodeGoodD_eq hs (by omega), some_bind, isNodeD_eq hs (by omega), some_bind, bif_t (by simp), sameNodeD_refl hs (by omega), some_bind, cond_true, hsame, some_bind, cond_true, lawTakesD_eq (by omega), some_bind]
end Go.Proofs.Ytopgdemmdcipcaa
namespace Go.Proofs.Ytopgdemmdcipcaa
open Go.RowKit
open Rep (rep)
theorem ESz.mono {e : GEntry} {N M : Nat} (h : ESz e N) (hNM : N ≤ M) : ESz e M :=
  ⟨⟨by have := h.ops.1; omega, h.ops.2⟩, ⟨by have := h.first.1; omega, h.first.2⟩, ⟨by have := h.deps.1; omega, h.deps.2⟩, ⟨by have := h.at_.1; omega, h.at_.2⟩, ⟨by have := h.values.1; omega, h.values.2⟩⟩
theorem esz_of {M : Mm} {cs : List Value} {e : GEntry} (h : rep M cs e) : ∃ N, ESz e N := by
  obtain ⟨_, _, ⟨_, _, h1⟩, ⟨_, _, h2⟩, ⟨_, _, h3⟩, ⟨_, _, h4⟩, ⟨_, _, h5⟩⟩ := GEntry.unf h
  exact ⟨e.ops.length + e.first.length + e.deps.length + e.at_.length + e.values.length + 1, ⟨by omega, h1.fits⟩, ⟨by omega, fits8 h2⟩, ⟨by omega, fits8 h3⟩, ⟨by omega, fits8 h4⟩, ⟨by omega, fits8 h5⟩⟩
theorem esz_zero {N : Nat} (h : 0 < N) : ESz (Zr.zd : GEntry) N := by
  have e : (Zr.zd : GEntry) = { state := 0, ops := [], first := [], deps := [], at_ := [], values := [] } := rfl
  rw [e]
  exact ⟨⟨h, by simp⟩, ⟨h, by simp⟩, ⟨h, by simp⟩, ⟨h, by simp⟩, ⟨h, by simp⟩⟩
theorem esz_all {v : Vector GEntry 32} (h : ∀ k, k < 32 → ∃ N, ESz (eat v k) N) : ∀ n, n ≤ 32 → ∃ N, ∀ k, k < n → ESz (eat v k) N
  | 0, _ => ⟨0, fun k hk => absurd hk (by omega)⟩
  | n + 1, hn => by
    obtain ⟨N, hN⟩ := esz_all h n (by omega)
    obtain ⟨K, hK⟩ := h n (by omega)
    refine ⟨N + K, fun k hk => ?_⟩
    by_cases e : k = n
    · subst e; exact hK.mono (by omega)
    · exact (hN k (by omega)).mono (by omega)
theorem nsz_of {M : Mm} {cs : List Value} {s : GNode} (h : rep M cs s) : ∃ N, NSz s N := by
  obtain ⟨_, e0, ⟨_, _, h1⟩, _⟩ := GNode.unf h
  obtain ⟨N, hN⟩ := esz_all (v := s.entries) (fun k hk => by
    have := e0.2.2 k hk
    rw [eat_lt hk] at this
    exact esz_of this) 32 (Nat.le_refl _)
  refine ⟨N + s.order.length + 1, ⟨by omega, fits8 h1⟩, fun k => ?_⟩
  by_cases hk : k < 32
  · exact (hN k hk).mono (by omega)
  · rw [eat_out hk]
    exact esz_zero (by omega)
theorem sameFrameD_any {fu : Nat} {f : GFrame} (h : f.ops.length ≤ 9000000000000000) (hf : f.ops.length < fu) : sameFrameD fu f f = some true := by
  unfold sameFrameD sameFrame_j1
  rw [sameOpsD_refl h hf]
  simp only [some_bind, sameZ_refl, beq_self_eq_true, cond_true]
end Go.Proofs.Ytopgdemmdcipcaa
namespace Go.Proofs.Ytopgdemmdcipcaa
open Go.RowKit
open Rep (rep)
theorem op3 : Opn Try.prog 3 Int := opn_int Try.underlying3 (by kernel_rfl)
theorem op78 : Opn Try.prog 78 GOp := ⟨by kernel_rfl, fun H enc w fuel cs d p h hw => by
  have hl : cs.length = 3 := by obtain ⟨_, _, _, _, hl, _⟩ := DataW.trod_struct Try.underlying78 h; rw [hl]; kernel_rfl
  obtain ⟨x0, h0⟩ := opn_field (α := Int) (o := 0) (k := 1) Try.underlying78 h hw 0 _ rfl rfl rfl (by kernel_rfl) op3
  obtain ⟨x1, h1⟩ := opn_field (α := Int) (o := 1) (k := 1) Try.underlying78 h hw 1 _ rfl rfl rfl (by kernel_rfl) op3
  obtain ⟨x2, h2⟩ := opn_field (α := Int) (o := 2) (k := 1) Try.underlying78 h hw 2 _ rfl rfl rfl (by kernel_rfl) op3
  exact ⟨⟨x0, x1, x2⟩, GOp.fol ⟨hl, h0, h1, h2⟩⟩⟩
theorem op22 : Opn Try.prog 22 (List (GOp)) := opn_slice Try.underlying22 (by kernel_rfl) op78 (by decide) (by kernel_rfl)
theorem op27 : Opn Try.prog 27 (List (Int)) := opn_slice Try.underlying27 (by kernel_rfl) op3 (by decide) (by kernel_rfl)
theorem op38 : Opn Try.prog 38 GFrame := ⟨by kernel_rfl, fun H enc w fuel cs d p h hw => by
  have hl : cs.length = 7 := by obtain ⟨_, _, _, _, hl, _⟩ := DataW.trod_struct Try.underlying38 h; rw [hl]; kernel_rfl
  obtain ⟨x0, h0⟩ := opn_field (α := Int) (o := 0) (k := 1) Try.underlying38 h hw 0 _ rfl rfl rfl (by kernel_rfl) op3
  obtain ⟨x1, h1⟩ := opn_field (α := Int) (o := 1) (k := 1) Try.underlying38 h hw 1 _ rfl rfl rfl (by kernel_rfl) op3
  obtain ⟨x2, h2⟩ := opn_field (α := Int) (o := 2) (k := 1) Try.underlying38 h hw 2 _ rfl rfl rfl (by kernel_rfl) op3
  obtain ⟨x3, h3⟩ := opn_field (α := List (GOp)) (o := 3) (k := 1) Try.underlying38 h hw 3 _ rfl rfl rfl (by kernel_rfl) op22
  obtain ⟨x4, h4⟩ := opn_field (α := List (Int)) (o := 4) (k := 1) Try.underlying38 h hw 4 _ rfl rfl rfl (by kernel_rfl) op27
  obtain ⟨x5, h5⟩ := opn_field (α := List (Int)) (o := 5) (k := 1) Try.underlying38 h hw 5 _ rfl rfl rfl (by kernel_rfl) op27
  obtain ⟨x6, h6⟩ := opn_field (α := List (Int)) (o := 6) (k := 1) Try.underlying38 h hw 6 _ rfl rfl rfl (by kernel_rfl) op27
  exact ⟨⟨x0, x1, x2, x3, x4, x5, x6⟩, GFrame.fol ⟨hl, h0, h1, h2, h3, h4, h5, h6⟩⟩⟩
theorem op44 : Opn Try.prog 44 GEntry := ⟨by kernel_rfl, fun H enc w fuel cs d p h hw => by
  have hl : cs.length = 6 := by obtain ⟨_, _, _, _, hl, _⟩ := DataW.trod_struct Try.underlying44 h; rw [hl]; kernel_rfl
  obtain ⟨x0, h0⟩ := opn_field (α := Int) (o := 0) (k := 1) Try.underlying44 h hw 0 _ rfl rfl rfl (by kernel_rfl) op3
  obtain ⟨x1, h1⟩ := opn_field (α := List (GOp)) (o := 1) (k := 1) Try.underlying44 h hw 1 _ rfl rfl rfl (by kernel_rfl) op22
  obtain ⟨x2, h2⟩ := opn_field (α := List (Int)) (o := 2) (k := 1) Try.underlying44 h hw 2 _ rfl rfl rfl (by kernel_rfl) op27
  obtain ⟨x3, h3⟩ := opn_field (α := List (Int)) (o := 3) (k := 1) Try.underlying44 h hw 3 _ rfl rfl rfl (by kernel_rfl) op27
  obtain ⟨x4, h4⟩ := opn_field (α := List (Int)) (o := 4) (k := 1) Try.underlying44 h hw 4 _ rfl rfl rfl (by kernel_rfl) op27
  obtain ⟨x5, h5⟩ := opn_field (α := List (Int)) (o := 5) (k := 1) Try.underlying44 h hw 5 _ rfl rfl rfl (by kernel_rfl) op27
  exact ⟨⟨x0, x1, x2, x3, x4, x5⟩, GEntry.fol ⟨hl, h0, h1, h2, h3, h4, h5⟩⟩⟩
theorem op45 : Opn Try.prog 45 (Vector (GEntry) 32) := opn_array Try.underlying45 (by kernel_rfl) op44 (by decide)
theorem op46 : Opn Try.prog 46 (Vector (Int) 8) := opn_array Try.underlying46 (by kernel_rfl) op3 (by decide)
theorem op48 : Opn Try.prog 48 GNode := ⟨by kernel_rfl, fun H enc w fuel cs d p h hw => by
  have hl : cs.length = 201 := by obtain ⟨_, _, _, _, hl, _⟩ := DataW.trod_struct Try.underlying48 h; rw [hl]; kernel_rfl
  obtain ⟨x0, h0⟩ := opn_field (α := Vector (GEntry) 32) (o := 0) (k := 192) Try.underlying48 h hw 0 _ rfl rfl rfl (by kernel_rfl) op45
  obtain ⟨x1, h1⟩ := opn_field (α := List (Int)) (o := 192) (k := 1) Try.underlying48 h hw 1 _ rfl rfl rfl (by kernel_rfl) op27
  obtain ⟨x2, h2⟩ := opn_field (α := Vector (Int) 8) (o := 193) (k := 8) Try.underlying48 h hw 2 _ rfl rfl rfl (by kernel_rfl) op46
  exact ⟨⟨x0, x1, x2⟩, GNode.fol ⟨hl, h0, h1, h2⟩⟩⟩
end Go.Proofs.Ytopgdemmdcipcaa
