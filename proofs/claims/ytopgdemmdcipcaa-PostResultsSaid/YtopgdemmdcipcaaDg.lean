/- Append to a row of one's own, texts of bytes, returns; what other texts of this seat say of lists, said anew. Nothing of the program is named here. -/
import Derived.Test.YtopgdemmdcipcaaDf
namespace Go.Proofs.Ytopgdemmdcipcaa
set_option linter.unusedVariables false
open Go.RowKit
open Rep (rep)

/-- Data whose cells hang on nothing in memory. -/
class Flat (α : Type) extends Rep α where
  cells : α → List Value
  flat : ∀ {M cs x}, rep M cs x ↔ cs = cells x

instance : Flat Int := { (inferInstance : Rep Int) with cells := fun x => [.int .i64 x], flat := Iff.rfl }
instance : Flat Byt := { (inferInstance : Rep Byt) with cells := fun x => [.int .u8 x.val], flat := Iff.rfl }
instance instRepGOp : Rep GOp where
  k := 3
  bytes := 24
  rep _ cs x := cs = opCells x
  len h := by rw [h]; rfl
  mono _ h := h
  one h := by rw [h]; simp [opCells, Value.oneCell']
instance : Flat GOp := { instRepGOp with cells := opCells, flat := Iff.rfl }

theorem flat_len {α : Type} [Flat α] (x : α) : (Flat.cells x).length = Rep.k α := Rep.len (M := fun _ => none) (Flat.flat.2 rfl)

/-- The cells of a list's elements, in a row. -/
theorem cells_of_repL {α : Type} [Rep α] {M : Mm} {v : Value} {l : List α} (h : repL M v l) : ∃ a cap, v = .slice a l.length cap ∧ l.length ≤ cap ∧ (a = none → cap = 0) ∧ l.length * Rep.bytes α ≤ 140737488351232 ∧
    ∃ css : List (List Value), css.length = l.length ∧ (∀ (i : Nat) ws x, css[i]? = some ws → l[i]? = some x → rep M ws x) ∧ (l ≠ [] → ∃ b off p, a = some ⟨b, off, none⟩ ∧ M b = some p ∧ off + l.length * Rep.k α ≤ p.length ∧ css.flatten = sl p off (l.length * Rep.k α)) := by
  obtain ⟨a, cap, rfl, h1, h2, h3, h4⟩ := h
  refine ⟨a, cap, rfl, h1, h2, h3, ?_⟩
  cases l with
  | nil => exact ⟨[], rfl, by simp, fun h => absurd rfl h⟩
  | cons x0 t =>
    obtain ⟨b, off, p, rfl, hb, hle0, hr0⟩ := h4 0 x0 rfl
    have hall : ∀ (i : Nat) x, (x0 :: t)[i]? = some x → off + i * Rep.k α + Rep.k α ≤ p.length ∧ rep M (sl p (off + i * Rep.k α) (Rep.k α)) x := by
      intro i x hx
      obtain ⟨b', off', p', he, hb', hle, hr⟩ := h4 i x hx
      simp only [Option.some.injEq, Addr.mk.injEq, and_true] at he
      obtain ⟨rfl, rfl⟩ := he
      rw [hb] at hb'
      cases hb'
      exact ⟨hle, hr⟩
    generalize hL : (x0 :: t) = L at *
    have hne : 0 < L.length := by rw [← hL]; simp
    refine ⟨(List.range L.length).map fun i => sl p (off + i * Rep.k α) (Rep.k α), by simp, ?_, fun _ => ⟨b, off, p, rfl, hb, ?_, ?_⟩⟩
    · intro i ws x hws hx
      rw [List.getElem?_map] at hws
      have hi := (List.getElem?_eq_some_iff.1 hx).1
      rw [List.getElem?_range hi] at hws
      simp only [Option.map_some, Option.some.injEq] at hws
      subst hws
      exact (hall i x hx).2
    · have := (hall (L.length - 1) L[L.length - 1] (by simp)).1
      have e : L.length * Rep.k α = (L.length - 1) * Rep.k α + Rep.k α := by
        rw [← Nat.succ_mul]; congr 1; omega
      omega
    · have key : ∀ n, n ≤ L.length → ((List.range n).map fun i => sl p (off + i * Rep.k α) (Rep.k α)).flatten = sl p off (n * Rep.k α) := by
        intro n
        induction n with
        | zero => intro _; simp [sl]
        | succ n ih =>
          intro hn
          rw [List.range_succ, List.map_append, List.flatten_append, ih (by omega)]
          simp only [List.map_cons, List.map_nil, List.flatten_cons, List.flatten_nil, List.append_nil]
          rw [sl_cat, Nat.succ_mul]
      exact key L.length (Nat.le_refl _)

theorem cell_of_M {M : Mm} {w : World} (hA : Agree M w) {b : Nat} {p : List Value} (hb : M b = some p) {j : Nat} {u : Value} (hj : p[j]? = some u) : w.cell? ⟨b, j, none⟩ = some u := by
  obtain ⟨arr, t, fr, h3, r, hr⟩ := hA b p hb
  simp only [World.cell?, h3]
  rw [← Array.getElem?_toList, ← hr, List.getElem?_append_left (List.getElem?_eq_some_iff.1 hj).1]
  simpa using hj

/-- Of such data: what other texts say of lists. -/
theorem repL.row {α : Type} [Flat α] {M : Mm} {w : World} (hA : Agree M w) {v : Value} {l : List α} (h : repL M v l) : RRow (fun b => (M b).isSome) w v (Rep.k α) (Rep.bytes α) l.length (l.flatMap Flat.cells) := by
  obtain ⟨a, cap, rfl, h1, h2, h3, css, h4, h5, h6⟩ := cells_of_repL h
  refine ⟨a, cap, rfl, h1, h2, flatMap_len (fun x => flat_len x) l, h3, fun i u hu => ?_⟩
  have hne : l ≠ [] := by rintro rfl; simp at hu
  obtain ⟨b, off, p, rfl, hb, hle, hc⟩ := h6 hne
  refine ⟨b, off, rfl, by show (M b).isSome = true; rw [hb]; rfl, cell_of_M hA hb ?_⟩
  have hcs : css = l.map Flat.cells := by
    refine List.ext_getElem? fun i => ?_
    rw [List.getElem?_map]
    cases hx : l[i]? with
    | none => rw [List.getElem?_eq_none_iff] at hx; exact List.getElem?_eq_none (by omega)
    | some x =>
      have hi : i < css.length := by rw [h4]; exact (List.getElem?_eq_some_iff.1 hx).1
      have := h5 i css[i] x (by simp) hx
      rw [Flat.flat] at this
      rw [List.getElem?_eq_getElem hi, this]
      rfl
  rw [hcs, ← List.flatMap_def] at hc
  rw [hc] at hu
  rcases Nat.lt_or_ge i (l.length * Rep.k α) with hi | hi
  · rw [sl_get _ _ _ _ hi] at hu; exact hu
  · rw [sl_get_none _ _ _ _ hi] at hu; cases hu
theorem ints_map (l : List Int) : (l.flatMap (Flat.cells : Int → List Value)) = l.map (Value.int .i64) := by
  induction l with
  | nil => rfl
  | cons x t ih => simp only [List.flatMap_cons, List.map_cons]; rw [ih]; rfl
theorem repL.ints {M : Mm} {w : World} (hA : Agree M w) {v : Value} {l : List Int} (h : repL M v l) : RInts (fun b => (M b).isSome) w v l := by
  have := h.row hA
  have e : (l.flatMap (Flat.cells : Int → List Value)) = l.map (Value.int .i64) := ints_map l
  unfold RInts
  rw [← e]
  exact this
theorem repL.ops {M : Mm} {w : World} (hA : Agree M w) {v : Value} {l : List GOp} (h : repL M v l) : ROps (fun b => (M b).isSome) w v l := h.row hA

/-- And back: out of a row that reads, in blocks of which M holds all. -/
theorem repL_of_row' {α : Type} [Flat α] {S : Nat → Prop} {M : Mm} {w : World} {v : Value} {l : List α} (h : RRow S w v (Rep.k α) (Rep.bytes α) l.length (l.flatMap Flat.cells)) (hk : 0 < Rep.k α)
    (hM : ∀ b arr t fr, S b → w.heap[b]? = some (.cells arr t fr) → M b = some arr.toList) : repL M v l := by
  obtain ⟨a, cap, rfl, h1, h2, h3, h4, h5⟩ := h
  refine ⟨a, cap, rfl, h1, h2, h4, fun i x hx => ?_⟩
  have hi := (List.getElem?_eq_some_iff.1 hx).1
  have hcell : ∀ j, j < Rep.k α → (l.flatMap Flat.cells)[i * Rep.k α + j]? = (Flat.cells x)[j]? := fun j hj => flatMap_at (fun x => flat_len x) l i x j hx hj
  have h0 : ∃ u, (Flat.cells x)[0]? = some u := ⟨(Flat.cells x)[0]'(by rw [flat_len]; exact hk), by simp⟩
  obtain ⟨u, hu⟩ := h0
  obtain ⟨b, off, rfl, hs, hc⟩ := h5 (i * Rep.k α + 0) u (by rw [hcell 0 hk]; exact hu)
  have hblk : ∃ arr t fr, w.heap[b]? = some (.cells arr t fr) := by
    simp only [World.cell?] at hc
    split at hc
    · rename_i arr t fr hh; exact ⟨arr, t, fr, hh⟩
    · cases hc
  obtain ⟨arr, t, fr, hh⟩ := hblk
  have hget : ∀ j, j < Rep.k α → arr.toList[off + i * Rep.k α + j]? = (Flat.cells x)[j]? := by
    intro j hj
    have hjl : j < (Flat.cells x).length := by rw [flat_len]; exact hj
    obtain ⟨b', off', he, _, hc'⟩ := h5 (i * Rep.k α + j) ((Flat.cells x)[j]) (by rw [hcell j hj]; simp)
    simp only [Option.some.injEq, Addr.mk.injEq, and_true] at he
    obtain ⟨rfl, rfl⟩ := he
    simp only [World.cell?, hh] at hc'
    simp only [Option.isSome_none, Bool.false_eq_true, if_false] at hc'
    rw [Array.getElem?_toList, Nat.add_assoc, hc']
    simp
  refine ⟨b, off, arr.toList, rfl, hM b arr t fr hs hh, ?_, ?_⟩
  · have := hget (Rep.k α - 1) (by omega)
    have hx1 : ∃ u, (Flat.cells x)[Rep.k α - 1]? = some u := ⟨(Flat.cells x)[Rep.k α - 1]'(by rw [flat_len]; omega), by simp⟩
    obtain ⟨u1, hu1⟩ := hx1
    rw [hu1] at this
    have := (List.getElem?_eq_some_iff.1 this).1
    omega
  · rw [Flat.flat]
    refine ext_get fun j => ?_
    by_cases hj : j < Rep.k α
    · rw [sl_get _ _ _ _ hj, hget j hj]
    · rw [sl_get_none _ _ _ _ (by omega), List.getElem?_eq_none (by rw [flat_len]; omega)]

section
variable {P : Program} {n : Nat} {Q : Exit → Tm → World → Prop} {T : Tm} {w w0 : World} {X : Nat → Prop} {M : Mm} {H : List Ent} {K : Tm → World → Prop} {dst : Option Tmp} {ty : TypeId} {pos : String} {af : Array Edge} {g : Option (Nat × Bool)}

theorem bytes_map (l : List Byt) : (l.flatMap (Flat.cells : Byt → List Value)) = (l.map Byt.val).map (Value.int .u8) := by
  induction l with
  | nil => rfl
  | cons x t ih => simp only [List.flatMap_cons, List.map_cons]; rw [ih]; rfl
theorem Y_b2s {s d e : TypeId} {x : Operand} {v : Value} {l : List Byt} (hA : Agree M w) (hs : P.underlying s = some (.slice e)) (he : P.underlying e = some (.int .u8)) (hd : P.underlying d = some .string) (hx : evT T x = v) (hr : repL M v l) :
    YV P (· = w) T ⟨dst, .convert s d x, ty, pos, af, g⟩ (.string (strOfNums (l.map Byt.val))) := by
  intro w' hw
  rw [hw]
  have h : RBytes (fun b => (M b).isSome) w v (l.map Byt.val) := by
    have := hr.row hA
    rw [bytes_map] at this
    unfold RBytes
    rw [List.length_map]
    exact this
  have hrun := run_bytes_string (P := P) h hs he hd
  simp [execOp, hx, hrun]

theorem St.append {α : Type} [Rep α] {w' : World} {v v' : Value} {e : TypeId} {m : Nat} {xs news : List Value} {l1 l2 : List α} {css : List (List Value)} (hSt : St w0 X M (.row v e (Rep.k α) :: H) w) (h1 : repL M v l1) (hk : 0 < Rep.k α)
    (hxs : w.ownsRow 0 e (Rep.k α) v l1.length xs) (hMx : ∀ g, v.ownBlock = some g → M g = some xs) (hm : l2.length = m) (hcl : css.length = l2.length) (hcs : ∀ (i : Nat) ws x, css[i]? = some ws → l2[i]? = some x → rep M ws x) (hn : news = css.flatten)
    (hown : w'.ownsRow 0 e (Rep.k α) v' (l1.length + m) (xs ++ news)) (hg : w.grownBy w' v.ownBlock) (hat : v'.ownBlock = v.ownBlock ∨ (v'.ownBlock = some w.heap.size ∧ ∀ k, k < w.heap.size → w'.heap[k]? = w.heap[k]?)) (hby : (l1.length + m) * Rep.bytes α ≤ 140737488351232) :
    ∃ M', Mm.ext w0.heap.size X M M' ∧ repL M' v' (l1 ++ l2) ∧ St w0 X M' (.row v' e (Rep.k α) :: H) w' := by
  have hnone : M w.heap.size = none := hSt.none_at (Nat.le_refl _)
  have hapart := List.pairwise_cons.1 hSt.apart
  have hHlt : ∀ f ∈ H, ∀ b, f.blk = some b → b < w.heap.size ∧ v.ownBlock ≠ some b := fun f hf b hb => ⟨Ent.lt (hSt.ents f (List.mem_cons_of_mem _ hf)) hb, fun hc => hapart.1 f hf b hc hb⟩
  cases hv' : v'.ownBlock with
  | none =>
    refine ⟨M, Mm.ext.refl _ _ _, ?_, ?_⟩
    · obtain ⟨_, h | ⟨g, cap, cur, rfl, _⟩⟩ := hown
      · obtain ⟨rfl, h0⟩ := h
        have e1 : l1 = [] := List.length_eq_zero_iff.1 (by omega)
        have e2 : l2 = [] := List.length_eq_zero_iff.1 (by omega)
        subst e1; subst e2
        exact repL_nil M
      · cases hv'
    · have hvn : v.ownBlock = none := by
        rcases hat with h | h
        · rw [← h]; exact hv'
        · rw [hv'] at h; cases h.1
      refine ⟨hg.os.trans hSt.os, hg.tape.trans hSt.tape, hg.output.trans hSt.output, Nat.le_trans hSt.size hg.size, fun k hlt hno => ?_, fun b p hb => ?_, fun f hf => ?_, fun f hf b hb => ?_, ?_⟩
      · have hlt' := Nat.lt_of_lt_of_le hlt hSt.size
        rw [hg.block k hlt' (by rw [hvn]; simp)]
        exact hSt.frame k hlt hno
      · obtain ⟨cs, t, fr, e1, e2⟩ := hSt.agree b p hb
        exact ⟨cs, t, fr, (hg.block b (hSt.agree.lt hb) (by rw [hvn]; simp)).trans e1, e2⟩
      · rcases List.mem_cons.1 hf with rfl | hf
        · exact ⟨_, _, hown, fun g hgb => by rw [hv'] at hgb; cases hgb⟩
        · refine Ent.kept (hSt.ents f (List.mem_cons_of_mem _ hf)) fun b hb => ⟨hg.block b (hHlt f hf b hb).1 (by rw [hvn]; simp), rfl⟩
      · rcases List.mem_cons.1 hf with rfl | hf
        · have hb' : v'.ownBlock = some b := hb
          rw [hv'] at hb'; cases hb'
        · exact hSt.mine f (List.mem_cons_of_mem _ hf) b hb
      · refine .cons (fun f _ b hb => ?_) hapart.2
        have hb' : v'.ownBlock = some b := hb
        rw [hv'] at hb'; cases hb'
  | some g =>
    have hMg : M g = none ∨ M g = some xs := by
      rcases hat with h | h
      · exact .inr (hMx g (by rw [← h]; exact hv'))
      · rw [hv'] at h; cases h.1; exact .inl hnone
    have hle : M.le (M.put g (xs ++ news)) := fun b p hb => by
      by_cases e : b = g
      · subst e
        rcases hMg with h | h
        · rw [h] at hb; cases hb
        · rw [h] at hb; cases hb; exact ⟨_, Mm.put_same _ _ _, List.prefix_append _ _⟩
      · exact ⟨p, by rw [Mm.put_other _ _ e]; exact hb, List.prefix_refl _⟩
    have hfar : ∀ b, b < w.heap.size → some b ≠ v.ownBlock → b ≠ g := fun b hlt hne he => by
      subst he
      rcases hat with h | h
      · exact hne (by rw [← h]; exact hv'.symm)
      · rw [hv'] at h; cases h.1; omega
    have hgB : X g ∨ w0.heap.size ≤ g := by
      rcases hat with h | h
      · exact hSt.mine _ List.mem_cons_self g (by rw [← hv', h]; rfl)
      · rw [hv'] at h; cases h.1; exact .inr hSt.size
    refine ⟨M.put g (xs ++ news), ⟨hle, fun b hb hx => Mm.put_other _ _ (fun e => by subst e; rcases hgB with h | h; exact hx h; omega)⟩, ?_, ?_⟩
    · obtain ⟨hxl, h | ⟨g', cap, cur, rfl, hgb, hh, hcap, hmx, hsz, htk⟩⟩ := hown
      · obtain ⟨rfl, _⟩ := h; cases hv'
      · cases hv'
        have hlen1 : xs.length = l1.length * Rep.k α := hxs.1
        have hcl1 : ∀ ws ∈ css, ws.length = Rep.k α := by
          intro ws hws
          obtain ⟨j, hj⟩ := List.getElem?_of_mem hws
          have hjl : j < l2.length := by rw [← hcl]; exact (List.getElem?_eq_some_iff.1 hj).1
          exact Rep.len (hcs j ws l2[j] hj (by simp))
        obtain ⟨a, cp, hve, _, _, _, css1, hc1, hc2, hc3⟩ := cells_of_repL h1
        have hfl1 : xs = css1.flatten := by
          cases hl : l1 with
          | nil => rw [hl] at hc1 hlen1; simp at hc1 hlen1; subst hc1; simpa using hlen1
          | cons x t =>
            obtain ⟨b, off, p, rfl, hb, hle2, hfl⟩ := hc3 (by rw [hl]; simp)
            have hob : v.ownBlock = some b := by rw [hve]; rfl
            have := hMx b hob
            rw [hb] at this
            cases this
            have ho : off = 0 := by
              obtain ⟨_, h | ⟨g2, cap2, cur2, he2, _⟩⟩ := hxs
              · rw [hve] at h; cases h.1
              · rw [hve] at he2; cases he2; rfl
            subst ho
            rw [hfl, ← hlen1, sl_all]
        refine (show (Value.slice (some ⟨g', 0, none⟩) (l1.length + m) cap) = .slice (some ⟨g', 0, none⟩) (l1 ++ l2).length cap from by rw [List.length_append, hm]) ▸ repL_of_row (vs := css1 ++ css) (l := l1 ++ l2) ?_ (by simp [hc1, hcl]) (by rw [List.length_append, hm]; exact hcap) (by rw [List.length_append, hm]; exact hby) ?_
        · rw [Mm.put_same, hfl1, hn, List.flatten_append]
        · intro i ws x hws hx
          by_cases hi : i < l1.length
          · rw [List.getElem?_append_left (by omega)] at hws
            rw [List.getElem?_append_left hi] at hx
            exact Rep.mono hle (hc2 i ws x hws hx)
          · rw [List.getElem?_append_right (by omega), hc1] at hws
            rw [List.getElem?_append_right (by omega)] at hx
            exact Rep.mono hle (hcs _ ws x hws hx)
    · refine ⟨hg.os.trans hSt.os, hg.tape.trans hSt.tape, hg.output.trans hSt.output, Nat.le_trans hSt.size hg.size, fun k hlt hno => ?_, fun b p hb => ?_, fun f hf => ?_, fun f hf b hb => ?_, ?_⟩
      · have hlt' := Nat.lt_of_lt_of_le hlt hSt.size
        have hvk : some k ≠ v.ownBlock := fun h => by
          rcases hSt.mine _ List.mem_cons_self k h.symm with hx | hx
          · exact hno hx
          · omega
        rw [hg.block k hlt' hvk]
        exact hSt.frame k hlt hno
      · by_cases e : b = g
        · subst e
          rw [Mm.put_same] at hb
          cases hb
          obtain ⟨hxl, h | ⟨g', cap, cur, rfl, hgb, hh, hcap, hmx, hsz, htk⟩⟩ := hown
          · obtain ⟨rfl, _⟩ := h; cases hv'
          · cases hv'
            exact ⟨cur, _, _, hh, by rw [← htk]; exact List.take_prefix _ _⟩
        · rw [Mm.put_other _ _ e] at hb
          obtain ⟨cs, t, fr, e1, e2⟩ := hSt.agree b p hb
          by_cases hbv : some b = v.ownBlock
          · -- an old block of the row, left behind
            have hx := hMx b hbv.symm
            rw [hb] at hx
            cases hx
            obtain ⟨hl2, h2 | ⟨g2, cap2, cur2, rfl, hb2, hh2, hcap2, hmx2, hsz2, htk2⟩⟩ := hxs
            · obtain ⟨rfl, _⟩ := h2; cases hbv
            · cases hbv
              rcases hat with h | h
              · rw [hv'] at h; cases h; exact absurd rfl e
              · exact ⟨cs, t, fr, (h.2 _ (hSt.agree.lt hb)).trans e1, e2⟩
          · exact ⟨cs, t, fr, (hg.block b (hSt.agree.lt hb) hbv).trans e1, e2⟩
      · rcases List.mem_cons.1 hf with rfl | hf
        · exact ⟨_, _, hown, fun g' hgb => by rw [hv'] at hgb; cases hgb; exact Mm.put_same _ _ _⟩
        · have hne := hHlt f hf
          exact Ent.kept (hSt.ents f (List.mem_cons_of_mem _ hf)) fun b hb => ⟨hg.block b (hne b hb).1 (fun h => (hne b hb).2 h.symm), Mm.put_other _ _ (hfar b (hne b hb).1 (fun h => (hne b hb).2 h.symm))⟩
      · rcases List.mem_cons.1 hf with rfl | hf
        · have hb' : v'.ownBlock = some b := hb
          rw [hv'] at hb'; cases hb'; exact hgB
        · exact hSt.mine f (List.mem_cons_of_mem _ hf) b hb
      · refine .cons (fun f hf b hb hb' => ?_) hapart.2
        have h2 : v'.ownBlock = some b := hb
        rw [hv'] at h2
        cases h2
        exact hfar g (hHlt f hf g hb').1 (fun h => (hHlt f hf g hb').2 h.symm) rfl


theorem append_at' {base : Nat} {t ty e : TypeId} {i : TypeInfo} {z : Value} {size bytes : Nat} (ht : P.underlying t = some (.slice e)) (hi : P.info? e = some i) (hz : i.zero = some z)
    (hsize : i.size = size) (hby : i.bytes = bytes) (hzs : z.cells.size = size) (hsz : 0 < size)
    {v : Value} {n : Nat} {xs : List Value} (hown : w.ownsRow base e size v n xs)
    {a : Addr} {m c : Nat} {news : List Value} (hl : news.length = m * size) (hnews : ∀ (j : Nat) u, news[j]? = some u → w.cell? (a.add j) = some u) (h1 : ∀ u ∈ news, u.oneCell' = true)
    (h63 : n + m ≤ maxLen) (hbytes : (n + m) * bytes ≤ 140737488355328) (hbase : base ≤ w.heap.size) :
    ∃ v' w', (Builtin.append_ #[t, t] ty #[v, .slice (some a) m c]).run P w = .ok v' w' ∧ w'.ownsRow base e size v' (n + m) (xs ++ news) ∧ w.grownBy w' v.ownBlock ∧
      (v'.ownBlock = v.ownBlock ∨ (v'.ownBlock = some w.heap.size ∧ ∀ k, k < w.heap.size → w'.heap[k]? = w.heap[k]?)) := by
  obtain ⟨v', w', hr, ho, hg, _, hat⟩ := run_append_own_at (P := P) w base t ty e i z size bytes ht hi hz hsize hby hzs hsz v n xs hown a m c news hl hnews h1 h63 hbytes hbase
  refine ⟨v', w', hr, ho, hg, ?_⟩
  rcases hat with h | h
  · exact .inl h
  · obtain ⟨hxl, ⟨rfl, rfl⟩ | ⟨g, cap, cur, rfl, hbg, hh, hnc, hcm, hcs, htake⟩⟩ := hown
    · exact .inr ⟨h, fun k hk => hg.block k hk (by simp [Value.ownBlock])⟩
    · subst hsize
      subst hby
      by_cases hroom : n + m ≤ cap
      · have hfit : n * i.size + news.length ≤ cur.size := by rw [hl, hcs, ← Nat.add_mul]; exact Nat.mul_le_mul_right _ hroom
        have hr2 := run_append_room (P := P) w t ty e i ht hi g n cap cur hh a m c news hl hnews h1 hroom hfit
        rw [hr2] at hr
        cases hr
        exact .inl rfl
      · have hown' : w.ownsRow base e i.size (.slice (some ⟨g, 0, none⟩) n cap) n xs := ⟨hxl, .inr ⟨g, cap, cur, rfl, hbg, hh, hnc, hcm, hcs, htake⟩⟩
        have holds : ∀ (j : Nat) u, xs[j]? = some u → w.cell? ((⟨g, 0, none⟩ : Addr).add j) = some u := hown'.cells (g := g) rfl
        have hsmall : n + m ≤ 9223372036854775807 := by simp only [maxLen] at h63; omega
        have hr2 := run_append_grow (P := P) w t ty e i z ht hi hz ⟨g, 0, none⟩ n cap xs hxl holds a m c news hl hnews (by omega) (by omega) (growslice_fits (by omega) hbytes)
        rw [hr2] at hr
        cases hr
        exact .inr ⟨rfl, fun k hk => Below.heap_alloc w.drew _ k hk⟩

def TP (P : Program) (t e : TypeId) (k bytes : Nat) : Prop := P.underlying t = some (.slice e) ∧ ∃ i z, P.info? e = some i ∧ i.zero = some z ∧ i.size = k ∧ i.bytes = bytes ∧ z.cells.size = k ∧ 0 < k ∧ 0 < bytes

theorem run_append_St {α : Type} [Rep α] {j : Nat} {t ty e : TypeId} {v v2 : Value} {l1 l2 : List α} (ht : TP P t e (Rep.k α) (Rep.bytes α)) (hSt : St w0 X M H w) (hj : H[j]? = some (.row v e (Rep.k α)))
    (h1 : repL M v l1) (h2 : repL M v2 l2) (hb : (l1.length + l2.length) * Rep.bytes α ≤ 140737488351232) :
    ∃ v' w' M', (Builtin.append_ #[t, t] ty #[v, v2]).run P w = .ok v' w' ∧ Mm.ext w0.heap.size X M M' ∧ repL M' v' (l1 ++ l2) ∧ St w0 X M' (H.set j (.row v' e (Rep.k α))) w' := by
  obtain ⟨hu, i, z, hi, hz, hsize, hby, hzs, hk, hbp⟩ := ht
  have hF := hSt.perm (perm_front hj)
  obtain ⟨n, xs, hown, hM⟩ := hF.ents _ List.mem_cons_self
  obtain ⟨a1, cap1, hv1, _⟩ := repL_shape h1
  have hn : n = l1.length := by
    obtain ⟨_, h | ⟨g, cap, cur, h, _⟩⟩ := hown
    · rw [hv1] at h; obtain ⟨h, h0⟩ := h; simp only [Value.slice.injEq] at h; omega
    · rw [hv1] at h; simp only [Value.slice.injEq] at h; exact h.2.1.symm
  subst hn
  obtain ⟨a2, cap2, hv2, hc2, hnil, hb2, css, hcl, hcs, hne⟩ := cells_of_repL h2
  have hcsl : ∀ ws ∈ css, ws.length = Rep.k α := by
    intro ws hws
    obtain ⟨q, hq⟩ := List.getElem?_of_mem hws
    have hql : q < l2.length := by rw [← hcl]; exact (List.getElem?_eq_some_iff.1 hq).1
    exact Rep.len (hcs q ws l2[q] hq (by simp))
  cases a2 with
  | none =>
    have : cap2 = 0 := hnil rfl
    subst this
    have e0 : l2 = [] := List.length_eq_zero_iff.1 (by omega)
    subst e0
    subst hv2
    have hr := run_append_owned_none (P := P) (w := w) 0 t ty e i (Rep.k α) hu hi v _ xs hown
    exact ⟨v, w, M, hr, Mm.ext.refl _ _ _, by simpa using h1, by
      have := hF.perm (perm_set (.row v e (Rep.k α)) hj)
      exact this⟩
  | some ad =>
    subst hv2
    have hlen : css.flatten.length = l2.length * Rep.k α := by
      by_cases hl : l2 = []
      · subst hl; simp at hcl; subst hcl; simp
      · obtain ⟨b, off, p, _, _, hle, hfl⟩ := hne hl
        rw [hfl, sl_length hle]
    have hnews : ∀ (j : Nat) u, css.flatten[j]? = some u → w.cell? (ad.add j) = some u := by
      intro q u hq
      have hl : l2 ≠ [] := by rintro rfl; simp at hcl; subst hcl; simp at hq
      obtain ⟨b, off, p, he, hMb, hle, hfl⟩ := hne hl
      cases he
      rw [hfl] at hq
      rw [Addr.add_mid]
      have hql : q < l2.length * Rep.k α := by
        rw [← hlen, hfl]; exact (List.getElem?_eq_some_iff.1 hq).1
      rw [sl_get _ _ _ _ hql] at hq
      exact cell_of_M hSt.agree hMb hq
    have hone : ∀ u ∈ css.flatten, u.oneCell' = true := by
      intro u hu
      obtain ⟨ws, hws, huw⟩ := List.mem_flatten.1 hu
      obtain ⟨q, hq⟩ := List.getElem?_of_mem hws
      have hql : q < l2.length := by rw [← hcl]; exact (List.getElem?_eq_some_iff.1 hq).1
      exact Rep.one (hcs q ws l2[q] hq (by simp)) u huw
    have hle1 : l1.length + l2.length ≤ (l1.length + l2.length) * Rep.bytes α := Nat.le_mul_of_pos_right _ hbp
    obtain ⟨v', w', hr, ho, hg, hat⟩ := append_at' (P := P) (ty := ty) hu hi hz hsize hby hzs hk hown (c := cap2) hlen hnews hone (by unfold maxLen; omega) (by omega) (Nat.zero_le _)
    obtain ⟨M', hm, hrep, hst⟩ := hF.append h1 hk hown hM rfl hcl hcs rfl ho hg hat hb
    exact ⟨v', w', M', hr, hm, hrep, hst.perm (perm_set _ hj)⟩

theorem O_app {α : Type} [Rep α] {j : Nat} {t e : TypeId} {x y : Operand} {v v2 : Value} {l1 l2 : List α} (ht : TP P t e (Rep.k α) (Rep.bytes α)) (hSt : St w0 X M H w) (hj : H[j]? = some (.row v e (Rep.k α)))
    (hx : evT T x = v) (hy : evT T y = v2) (h1 : repL M v l1) (h2 : repL M v2 l2) (hb : (l1.length + l2.length) * Rep.bytes α ≤ 140737488351232)
    (k : ∀ v' M' w', Mm.ext w0.heap.size X M M' → repL M' v' (l1 ++ l2) → St w0 X M' (H.set j (.row v' e (Rep.k α))) w' → K (updO T dst v') w') : OW P n Q ⟨dst, .call ⟨.builtin .append, #[x, y], #[t, t]⟩, ty, pos, af, g⟩ T w K := by
  obtain ⟨v', w', M', hr, hm, hrep, hst⟩ := run_append_St (P := P) (ty := ty) ht hSt hj h1 h2 hb
  refine OW.of_run (v := v') (w' := w') ?_ (k v' M' w' hm hrep hst)
  simp [execOp, resolve, invoke, builtin, hx, hy, hr]

/-- A new row of one's own: nil. -/
theorem St.nilRow (hSt : St w0 X M H w) (e : TypeId) (k : Nat) : St w0 X M (.row (.slice none 0 0) e k :: H) w := by
  refine ⟨hSt.os, hSt.tape, hSt.output, hSt.size, hSt.frame, hSt.agree, fun f hf => ?_, fun f hf b hb => ?_, .cons (fun f _ b hb => by cases hb) hSt.apart⟩
  rcases List.mem_cons.1 hf with rfl | hf
  · exact ⟨0, [], ⟨by simp, .inl ⟨rfl, rfl⟩⟩, fun g hg => by cases hg⟩
  · exact hSt.ents f hf
  · rcases List.mem_cons.1 hf with rfl | hf
    · cases hb
    · exact hSt.mine f hf b hb

end
end Go.Proofs.Ytopgdemmdcipcaa
