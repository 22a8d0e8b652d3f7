/- How a slice of texts that comes in is read. Nothing of the program is named here. -/
import Derived.Test.YtopgdemmdcipcaaOpen
namespace Go.Proofs.Ytopgdemmdcipcaa
open Go.RowKit Go.ChangeShapes Go.WideShapes Go.ChangeAt Go.Deep

section
variable {H : Type} {enc : TypeId × Value → H} {P : Program} {w : World}

theorem weightsAll_mem {P : Program} {e : TypeId} : ∀ {ds : List (DataW H)} {d : DataW H}, d ∈ ds → ∀ n ∈ d.weights P e, n ∈ DataW.weightsAll P e ds
  | d0 :: ds, d, hd, n, hn => by
    simp only [DataW.weightsAll, List.mem_append]
    rcases List.mem_cons.1 hd with h | h
    · subst h; exact .inl hn
    · exact .inr (weightsAll_mem h n hn)

theorem open_textsR {t e : TypeId} {v : Value} {d : DataW H} {p : List MemPlace} (ht : P.underlying t = some (.slice e)) (he : P.underlying e = some .string) (hc : P.cellsOf e = 1) (hby : P.bytesOf e = 16)
    (h : DataW.Trod enc P w 0 (fun _ => true) true t v d p) (hn : v.cells = #[v]) (hw : (d.weights P t).all (· ≤ reachBytes) = true) :
    ∃ l : List ByteArray, RRow (fun b => b < w.heap.size) w v 1 16 l.length (l.map Value.string) ∧ ∀ x ∈ l, x.size ≤ 140737488351232 := by
  obtain ⟨fuel, hf⟩ := h
  rw [hn] at hf
  rcases open_slice1 ht hc hf with ⟨hcs, hx⟩ | ⟨a, len, cap, m, n, V, D, Pl, hcs, _, hl, hm, hmm, hx, hel⟩
  · simp at hcs
    subst hcs
    exact ⟨[], ⟨none, 0, rfl, Nat.le_refl _, fun _ => rfl, rfl, by simp, fun i u hu => by simp at hu⟩, by simp⟩
  · simp at hcs
    subst hcs
    simp only [if_true] at hmm
    subst hmm
    simp only [Prod.mk.injEq] at hx
    rw [hx.1] at hw
    simp only [DataW.weights, ht, hby, List.all_cons, Bool.and_eq_true, decide_eq_true_eq, List.length_map, List.length_range] at hw
    obtain ⟨hw1, hw2⟩ := hw
    have hone : ∀ i, i < m → ∃ s : ByteArray, w.cell? (a.add i) = some (.string s) ∧ (i < len → s.size ≤ 140737488351232) := by
      intro i him
      obtain ⟨h1, h2⟩ := hel i him
      obtain ⟨s, q0, q1, _⟩ := DataW.trod_string he h2
      simp at q0
      rw [q0] at h1
      refine ⟨s, h1, fun hi => ?_⟩
      have hD : D i = .lit (.string s.data.toList) := (Prod.mk.inj q1).1
      have hmem : s.data.toList.length ∈ DataW.weightsAll P e ((List.range len).map D) := weightsAll_mem (List.mem_map.2 ⟨i, List.mem_range.2 hi, rfl⟩) _ (by rw [hD]; simp [DataW.weights])
      have := List.all_eq_true.1 hw2 _ (List.mem_append.2 (.inl hmem))
      have h3 : s.data.toList.length = s.size := rfl
      have h4 : s.data.toList.length ≤ reachBytes := of_decide_eq_true this
      unfold reachBytes at h4
      omega
    obtain ⟨U, hU⟩ := choose_lt (α := ByteArray) hone
    have hlen : ((List.range len).map U).length = len := by simp
    refine ⟨(List.range len).map U, ⟨some a, m, by rw [hlen], by rw [hlen]; exact hl, fun h => by simp at h, by simp, by rw [hlen]; unfold reachBytes at hw1; omega, fun j u hu => ?_⟩, ?_⟩
    · simp only [List.getElem?_map, Option.map_eq_some_iff] at hu
      obtain ⟨x, ⟨i, hi, rfl⟩, rfl⟩ := hu
      have hj : j < len := by
        have := (List.getElem?_eq_some_iff.1 hi).1
        simpa using this
      have hij : i = j := by simpa [hj] using hi.symm
      subst hij
      have hcl := (hU i (by omega)).1
      obtain ⟨b, off, sp⟩ := a
      have hsp : sp = none := by
        cases sp with
        | none => rfl
        | some s =>
          have h0 := (hU 0 (by omega)).1
          unfold Addr.add at h0
          simp [World.cell?] at h0
          split at h0 <;> simp at h0
      subst hsp
      rw [Addr.add_lit] at hcl
      exact ⟨b, off, rfl, cell_lt hcl, hcl⟩
    · intro x hx
      obtain ⟨i, hi, rfl⟩ := List.mem_map.1 hx
      exact (hU i (by have := List.mem_range.1 hi; omega)).2 (List.mem_range.1 hi)
end

end Go.Proofs.Ytopgdemmdcipcaa
