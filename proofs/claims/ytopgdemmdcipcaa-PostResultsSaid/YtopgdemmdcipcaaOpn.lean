/- How arguments of any of these types are read that come in: what their cells stand for. Nothing of the program is named here. -/
import Derived.Test.YtopgdemmdcipcaaDj
import Derived.Test.YtopgdemmdcipcaaOpenb
namespace Go.Proofs.Ytopgdemmdcipcaa
open Go.RowKit Go.ChangeShapes Go.WideShapes Go.ChangeAt Go.Deep
open Rep (rep)

theorem repL.fits {α : Type} [Rep α] {M : Mm} {v : Value} {l : List α} (h : repL M v l) : l.length * Rep.bytes α ≤ 140737488351232 := by
  obtain ⟨_, _, _, _, _, h, _⟩ := h
  exact h

/-- All that lies in memory. -/
def wholeM (w : World) : Mm := fun b => match w.heap[b]? with | some (.cells arr _ _) => some arr.toList | _ => none
theorem wholeM_agree (w : World) : Agree (wholeM w) w := fun b p hb => by
  unfold wholeM at hb
  split at hb
  · rename_i arr t fr hh
    cases hb
    exact ⟨arr, t, fr, hh, List.prefix_refl _⟩
  · cases hb

theorem weightsEach_mem {H : Type} {P : Program} {ts : List TypeId} {ds : List (DataW H)} {j : Nat} {t : TypeId} {d : DataW H} (ht : ts[j]? = some t) (hd : ds[j]? = some d) : ∀ n ∈ d.weights P t, n ∈ DataW.weightsEach P ts ds := DataW.weights_mem_each ht hd

/-- What is read of this type stands for data. -/
def Opn (P : Program) (t : TypeId) (α : Type) [Rep α] : Prop :=
  P.cellsOf t = Rep.k α ∧ ∀ (H : Type) (enc : TypeId × Value → H) (w : World) (fuel : Nat) (cs : List Value) (d : DataW H) (p : List MemPlace),
    DataW.trod enc P w 0 (fun _ => true) true fuel t cs = some (d, p) → (∀ n ∈ d.weights P t, n ≤ reachBytes) → ∃ x : α, rep (wholeM w) cs x

section
variable {P : Program} {t e : TypeId} {α : Type} [Rep α]

theorem opn_int (ht : P.underlying t = some (.int .i64)) (hc : P.cellsOf t = 1) : Opn P t Int := ⟨hc, fun H enc w fuel cs d p h hw => by
  obtain ⟨n, rfl, _, _⟩ := DataW.trod_int ht h
  exact ⟨n, rfl⟩⟩
theorem opn_byte (ht : P.underlying t = some (.int .u8)) (hc : P.cellsOf t = 1) : Opn P t Byt := ⟨hc, fun H enc w fuel cs d p h hw => by
  obtain ⟨n, rfl, _, _⟩ := DataW.trod_int ht h
  exact ⟨⟨n⟩, rfl⟩⟩
theorem opn_bool (ht : P.underlying t = some .bool) (hc : P.cellsOf t = 1) : Opn P t Bool := ⟨hc, fun H enc w fuel cs d p h hw => by
  obtain ⟨n, rfl, _⟩ := DataW.trod_bool ht h
  exact ⟨n, rfl⟩⟩
theorem opn_string (ht : P.underlying t = some .string) (hc : P.cellsOf t = 1) : Opn P t ByteArray := ⟨hc, fun H enc w fuel cs d p h hw => by
  obtain ⟨s, rfl, hx, _⟩ := DataW.trod_string ht h
  obtain ⟨rfl, rfl⟩ := Prod.mk.inj hx
  refine ⟨s, rfl, ?_⟩
  have := hw s.data.toList.length (by simp [DataW.weights])
  have h3 : s.data.toList.length = s.size := rfl
  unfold reachBytes at this
  omega⟩

theorem add_bo (a : Addr) (i : Nat) : (a.add i).block = a.block ∧ (a.add i).off = a.off + i := by
  unfold Addr.add
  split
  · rename_i h; exact ⟨rfl, by rw [show i = 0 by simpa using h]; rfl⟩
  · exact ⟨rfl, rfl⟩
theorem cells_piece {w : World} {a : Addr} {k : Nat} {cs : List Value} (h : w.cells? 0 a k = some cs) (hk : 0 < k) :
    a.spot = none ∧ ∃ q, wholeM w a.block = some q ∧ a.off + k ≤ q.length ∧ sl q a.off k = cs := by
  obtain ⟨_, hl, hat⟩ := World.cells?_some h
  have h0 := hat 0 hk
  rw [List.getElem?_eq_getElem (by omega)] at h0
  have hsp : a.spot = none := by
    have := World.cell?_spot h0
    simpa [Addr.add] using this
  refine ⟨hsp, ?_⟩
  have hc : ∀ i, i < k → ∃ arr tt fr, w.heap[a.block]? = some (.cells arr tt fr) ∧ arr[a.off + i]? = cs[i]? := by
    intro i hi
    have hi' := hat i hi
    rw [List.getElem?_eq_getElem (by omega)] at hi' ⊢
    unfold World.cell? at hi'
    split at hi'
    · rename_i arr tt fr hh
      rw [(add_bo a i).1] at hh
      refine ⟨arr, tt, fr, hh, ?_⟩
      split at hi'
      · cases hi'
      · rw [(add_bo a i).2] at hi'
        exact hi'
    · cases hi'
  obtain ⟨arr, tt, fr, hh, _⟩ := hc 0 hk
  have hall : ∀ i, i < k → arr[a.off + i]? = cs[i]? := by
    intro i hi
    obtain ⟨arr', tt', fr', hh', he⟩ := hc i hi
    rw [hh] at hh'
    cases hh'
    exact he
  have hlen : a.off + k ≤ arr.size := by
    have := hall (k - 1) (by omega)
    rw [List.getElem?_eq_getElem (by omega)] at this
    have := (Array.getElem?_eq_some_iff.1 this).1
    omega
  refine ⟨arr.toList, by simp [wholeM, hh], by simpa using hlen, ?_⟩
  refine ext_get fun j => ?_
  by_cases hj : j < k
  · rw [sl_get _ _ _ _ hj]
    simpa using hall j hj
  · rw [sl_get_none _ _ _ _ (by omega), List.getElem?_eq_none (by omega)]

theorem opn_slice (ht : P.underlying t = some (.slice e)) (hc : P.cellsOf t = 1) (he : Opn P e α) (hk : 0 < Rep.k α) (hby : P.bytesOf e = Rep.bytes α) : Opn P t (List α) := ⟨hc, fun H enc w fuel cs d p h hw => by
  rcases open_slice ht h with ⟨rfl, hx⟩ | ⟨a, len, cap, m, n, D, Pl, rfl, _, hl, hm, hmm, hx, hel⟩
  · exact ⟨[], _, rfl, repL_nil _⟩
  · simp only [if_true] at hmm
    subst hmm
    simp only [Prod.mk.injEq] at hx
    rw [hx.1] at hw
    simp only [DataW.weights, ht, hby, List.mem_cons, List.mem_append, List.length_map, List.length_range] at hw
    have hw1 := hw _ (.inl rfl)
    unfold reachBytes at hw1
    have hone : ∀ i, i < len → ∃ x : α, ∃ b off q, a.add (i * Rep.k α) = ⟨b, off, none⟩ ∧ wholeM w b = some q ∧ off + Rep.k α ≤ q.length ∧ rep (wholeM w) (sl q off (Rep.k α)) x := by
      intro i him
      obtain ⟨cs', h1, h2⟩ := hel i (by omega)
      rw [he.1] at h1
      obtain ⟨hsp, q, hq, hlq, hsl⟩ := cells_piece h1 hk
      obtain ⟨x, hxr⟩ := he.2 H enc w n cs' (D i) (Pl i) h2 fun nn hnn => hw nn (.inr (.inl (weightsAll_mem (List.mem_map.2 ⟨i, List.mem_range.2 him, rfl⟩) _ hnn)))
      refine ⟨x, _, _, q, ?_, hq, hlq, by rw [hsl]; exact hxr⟩
      rw [← hsp]
    by_cases hz : len = 0
    · subst hz
      exact ⟨[], .slice (some a) 0 m, rfl, some a, m, rfl, by simp, (fun h => by cases h), by simp, fun i x hx => by simp at hx⟩
    have hspot : ∃ b off, a = ⟨b, off, none⟩ := by
      obtain ⟨x, b, off, q, e1, _⟩ := hone 0 (by omega)
      obtain ⟨ab, ao, asp⟩ := a
      simp [Addr.add] at e1
      exact ⟨ab, ao, by rw [e1.2.2]⟩
    obtain ⟨b, off, rfl⟩ := hspot
    obtain ⟨x0, _⟩ := hone 0 (by omega)
    haveI : Inhabited α := ⟨x0⟩
    obtain ⟨V, hV⟩ := choose_lt (α := α) hone
    have hlen : ((List.range len).map V).length = len := by simp
    refine ⟨(List.range len).map V, .slice (some ⟨b, off, none⟩) len m, rfl, some ⟨b, off, none⟩, m, by rw [hlen], by rw [hlen]; exact hl, (fun h => by cases h), ?_, fun i x hx => ?_⟩
    · rw [hlen]
      exact Nat.le_trans (Nat.mul_le_mul_right _ (by omega : len ≤ len + (m - len))) hw1
    · have hi : i < len := by
        have := (List.getElem?_eq_some_iff.1 hx).1
        omega
      have hxe : V i = x := by simpa [hi] using hx
      obtain ⟨b', off', q, e1, hq, hlq, hr⟩ := hV i hi
      rw [Addr.add_lit] at e1
      cases e1
      exact ⟨_, _, q, rfl, hq, hlq, hxe ▸ hr⟩⟩

theorem opn_field {H : Type} {enc : TypeId × Value → H} {w : World} {fuel : Nat} {cs : List Value} {d : DataW H} {p : List MemPlace} {fs : Array Field} (ht : P.underlying t = some (.struct fs))
    (h : DataW.trod enc P w 0 (fun _ => true) true fuel t cs = some (d, p)) (hw : ∀ n ∈ d.weights P t, n ≤ reachBytes) (i : Nat) (f : Field) (hf : fs[i]? = some f) {e : TypeId} {o k : Nat} (h1 : f.type = e) (h2 : f.offset = o) (hk : Rep.k α = k) (he : Opn P e α) :
    ∃ x : α, rep (wholeM w) (sl cs o k) x := by
  subst hk
  subst h1
  subst h2
  obtain ⟨ys, n, _, hx, _, hyl, hfld⟩ := DataW.trod_struct ht h
  obtain ⟨rfl, rfl⟩ := Prod.mk.inj hx
  have hi : i < fs.size := (Array.getElem?_eq_some_iff.1 hf).1
  have e0 := hfld i f hf
  rw [List.getElem?_eq_getElem (by omega), he.1] at e0
  refine he.2 H enc w n _ _ _ e0 fun nn hnn => hw nn ?_
  simp only [DataW.weights, ht]
  refine weightsEach_mem (j := i) ?_ ?_ nn hnn
  · simp only [List.getElem?_map]; rw [Array.getElem?_toList, hf]; rfl
  · simp only [List.getElem?_map, List.getElem?_eq_getElem (show i < ys.length by omega), Option.map_some]; rfl

theorem opn_array {n : Nat} (ht : P.underlying t = some (.array n e)) (hc : P.cellsOf t = n * Rep.k α) (he : Opn P e α) (hk : 0 < Rep.k α) : Opn P t (Vector α n) := ⟨hc, fun H enc w fuel cs d p h hw => by
  obtain ⟨ys, m, _, hx, hl, hyl, hel⟩ := DataW.trod_array ht h
  obtain ⟨rfl, rfl⟩ := Prod.mk.inj hx
  have hone : ∀ i, i < n → ∃ x : α, rep (wholeM w) (sl cs (i * Rep.k α) (Rep.k α)) x := by
    intro i hi
    have e0 := hel i hi
    rw [List.getElem?_eq_getElem (by omega), he.1] at e0
    refine he.2 H enc w m _ _ _ e0 fun nn hnn => hw nn ?_
    simp only [DataW.weights, ht]
    exact weightsAll_mem (List.mem_map.2 ⟨ys[i], List.getElem_mem _, rfl⟩) _ hnn
  by_cases hz : n = 0
  · subst hz
    exact ⟨#v[], by rw [hl, hc], .inr rfl, fun i hi => by omega⟩
  obtain ⟨x0, _⟩ := hone 0 (by omega)
  haveI : Inhabited α := ⟨x0⟩
  obtain ⟨V, hV⟩ := choose_lt (α := α) hone
  exact ⟨Vector.ofFn fun i => V i.1, by rw [hl, hc], .inl hk, fun i hi => by rw [Vector.getElem_ofFn]; exact hV i hi⟩⟩

/-- An argument that is one value. -/
theorem opn_arg (ho : Opn P t α) {H : Type} {enc : TypeId × Value → H} {w : World} {v : Value} {d : DataW H} {p : List MemPlace} (h : DataW.Trod enc P w 0 (fun _ => true) true t v d p) (hw : (d.weights P t).all (· ≤ reachBytes) = true) :
    ∃ x : α, rep (wholeM w) v.cells.toList x := by
  obtain ⟨fuel, hf⟩ := h
  exact ho.2 H enc w fuel _ _ _ hf fun n hn => of_decide_eq_true (List.all_eq_true.1 hw n hn)
theorem opn_row {e : TypeId} (ht : P.underlying t = some (.slice e)) (ho : Opn P t (List α)) {H : Type} {enc : TypeId × Value → H} {w : World} {v : Value} {d : DataW H} {p : List MemPlace} (hv : Value.okWide P w .any 0 t v)
    (h : DataW.Trod enc P w 0 (fun _ => true) true t v d p) (hw : (d.weights P t).all (· ≤ reachBytes) = true) : ∃ l : List α, repL (wholeM w) v l := by
  obtain ⟨a, len, cap, rfl⟩ := okWide_slice ht hv
  obtain ⟨x, v', hx, hr⟩ := opn_arg ho h hw
  have : v' = .slice a len cap := by simpa [Value.cells] using hx.symm
  subst this
  exact ⟨x, hr⟩
theorem opn_agg {fs : Array Field} (ht : P.underlying t = some (.struct fs)) (ho : Opn P t α) {H : Type} {enc : TypeId × Value → H} {w : World} {v : Value} {d : DataW H} {p : List MemPlace} (hv : Value.okWide P w .any 0 t v)
    (h : DataW.Trod enc P w 0 (fun _ => true) true t v d p) (hw : (d.weights P t).all (· ≤ reachBytes) = true) : ∃ (cs : List Value) (x : α), v = .agg cs.toArray ∧ rep (wholeM w) cs x := by
  obtain ⟨cs, rfl, _⟩ := okWide_struct ht hv
  obtain ⟨x, hr⟩ := opn_arg ho h hw
  exact ⟨cs.toList, x, by simp, hr⟩
end
end Go.Proofs.Ytopgdemmdcipcaa
