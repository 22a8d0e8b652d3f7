/- How the arguments that come in are read: a slice of numbers, a slice of operations. Nothing of the program is named here. -/
import Derived.Test.YtopgdemmdcipcaaBase
import Derived.ProofKit
import Derived.OpenShut
import Derived.ShutString
import Derived.ChangeOld
import Derived.SizedLaws
import Derived.Deep.Slices
namespace Go.Proofs.Ytopgdemmdcipcaa
open Go.RowKit Go.ChangeShapes Go.WideShapes Go.ChangeAt Go.Deep

section
variable {H : Type} {enc : TypeId × Value → H} {P : Program} {w : World}

theorem open_intsR {t e : TypeId} {v : Value} {d : DataW H} {p : List MemPlace} (ht : P.underlying t = some (.slice e)) (he : P.underlying e = some (.int .i64)) (hc : P.cellsOf e = 1) (hby : P.bytesOf e = 8)
    (h : DataW.Trod enc P w 0 (fun _ => true) true t v d p) (hn : v.cells = #[v]) (hw : (d.weights P t).all (· ≤ reachBytes) = true) : ∃ l, RInts (fun b => b < w.heap.size) w v l := by
  obtain ⟨fuel, hf⟩ := h
  rw [hn] at hf
  rcases open_ints ht he hc hf with ⟨hcs, hx⟩ | ⟨a, len, cap, zs, hcs, _, hl, hm, hz, hx, hcell, hwz⟩
  · simp at hcs
    subst hcs
    exact ⟨[], none, 0, rfl, Nat.le_refl _, fun _ => rfl, rfl, by simp, fun i u hu => by simp at hu⟩
  · simp at hcs
    subst hcs
    simp only [if_true] at hz
    simp only [Prod.mk.injEq] at hx
    rw [hx.1] at hw
    simp only [DataW.weights, ht, hby, List.all_cons, Bool.and_eq_true, decide_eq_true_eq] at hw
    have hlen : (zs.take len).length = len := by simp; omega
    have hw1 := hw.1
    simp only [lits, List.length_map, List.length_take, List.length_drop] at hw1
    refine ⟨zs.take len, some a, cap, by rw [hlen], by rw [hlen]; exact hl, fun h => by simp at h, by simp, by rw [hlen]; unfold reachBytes at hw1; omega, fun i u hu => ?_⟩
    simp only [List.getElem?_map, Option.map_eq_some_iff] at hu
    obtain ⟨x, hx1, rfl⟩ := hu
    have hi : i < len := by
      have := (List.getElem?_eq_some_iff.1 hx1).1
      omega
    have hcl := hcell i (by omega)
    have hxe : zs.getD i 0 = x := by
      rw [List.getElem?_take, if_pos hi] at hx1
      simp [hx1]
    rw [hxe] at hcl
    obtain ⟨b, off, sp⟩ := a
    have hsp : sp = none := by
      cases sp with
      | none => rfl
      | some s =>
        have h0 := hcell 0 (by omega)
        unfold Addr.add at h0
        simp [World.cell?] at h0
        split at h0 <;> simp at h0
    subst hsp
    rw [Addr.add_lit] at hcl
    exact ⟨b, off, rfl, cell_lt hcl, hcl⟩

theorem open_opsR {t e i0 : TypeId} {f0 f1 f2 : Field} {v : Value} {d : DataW H} {p : List MemPlace} (ht : P.underlying t = some (.slice e)) (he : P.underlying e = some (.struct #[f0, f1, f2]))
    (hf0 : f0.type = i0 ∧ f0.offset = 0) (hf1 : f1.type = i0 ∧ f1.offset = 1) (hf2 : f2.type = i0 ∧ f2.offset = 2) (hi : P.underlying i0 = some (.int .i64)) (hci : P.cellsOf i0 = 1)
    (hc : P.cellsOf e = 3) (hby : P.bytesOf e = 24)
    (h : DataW.Trod enc P w 0 (fun _ => true) true t v d p) (hn : v.cells = #[v]) (hw : (d.weights P t).all (· ≤ reachBytes) = true) : ∃ l, ROps (fun b => b < w.heap.size) w v l := by
  obtain ⟨fuel, hf⟩ := h
  rw [hn] at hf
  rcases open_slice ht hf with ⟨hcs, hx⟩ | ⟨a, len, cap, m, n, D, Pl, hcs, _, hl, hm, hmm, hx, hel⟩
  · simp at hcs
    subst hcs
    exact ⟨[], none, 0, rfl, Nat.le_refl _, fun _ => rfl, rfl, by simp, fun i u hu => by simp at hu⟩
  · simp at hcs
    subst hcs
    simp only [if_true] at hmm
    subst hmm
    simp only [Prod.mk.injEq] at hx
    rw [hx.1] at hw
    simp only [DataW.weights, ht, hby, List.all_cons, Bool.and_eq_true, decide_eq_true_eq, List.length_map, List.length_range] at hw
    have hw1 := hw.1
    have hone : ∀ i, i < m → ∃ o : GOp, w.cell? (a.add (i * 3)) = some (.int .i64 o.kind) ∧ w.cell? (a.add (i * 3 + 1)) = some (.int .i64 o.key) ∧ w.cell? (a.add (i * 3 + 2)) = some (.int .i64 o.n) := by
      intro i him
      obtain ⟨cs', h1, h2⟩ := hel i him
      rw [hc] at h1
      obtain ⟨_, hcl, hat⟩ := World.cells?_some h1
      obtain ⟨ys, n', _, _, _, hyl, hfld⟩ := DataW.trod_struct he h2
      match cs', hcl with
      | [c0, c1, c2], _ =>
        have e0 := hfld 0 f0 rfl
        have e1 := hfld 1 f1 rfl
        have e2 := hfld 2 f2 rfl
        rw [hf0.1, hf0.2, hci] at e0
        rw [hf1.1, hf1.2, hci] at e1
        rw [hf2.1, hf2.2, hci] at e2
        have g0 : ys[0]? = some (ys[0]'(by simp at hyl; omega)) := by simp
        have g1 : ys[1]? = some (ys[1]'(by simp at hyl; omega)) := by simp
        have g2 : ys[2]? = some (ys[2]'(by simp at hyl; omega)) := by simp
        rw [g0] at e0
        rw [g1] at e1
        rw [g2] at e2
        obtain ⟨x0, q0, _, _⟩ := DataW.trod_int hi e0
        obtain ⟨x1, q1, _, _⟩ := DataW.trod_int hi e1
        obtain ⟨x2, q2, _, _⟩ := DataW.trod_int hi e2
        simp at q0 q1 q2
        have a0 := hat 0 (by omega)
        have a1 := hat 1 (by omega)
        have a2 := hat 2 (by omega)
        rw [Addr.add_add] at a0 a1 a2
        exact ⟨⟨x0, x1, x2⟩, by simpa [q0] using a0, by simpa [q1] using a1, by simpa [q2] using a2⟩
    obtain ⟨V, hV⟩ := choose_lt (α := GOp) hone
    have hlen : ((List.range len).map V).length = len := by simp
    refine ⟨(List.range len).map V, some a, m, by rw [hlen], by rw [hlen]; exact hl, fun h => by simp at h, by rw [flatMap_len (m := 3) (fun _ => rfl)], by rw [hlen]; unfold reachBytes at hw1; omega, fun j u hu => ?_⟩
    have hj : j < len * 3 := by
      have := (List.getElem?_eq_some_iff.1 hu).1
      rw [flatMap_len (m := 3) (fun _ => rfl), hlen] at this
      exact this
    have hq : j / 3 < len := by omega
    have hat := flatMap_at (f := opCells) (m := 3) (fun _ => rfl) ((List.range len).map V) (j / 3) (V (j / 3)) (j % 3) (by simp [hq]) (by omega)
    have hjj : j / 3 * 3 + j % 3 = j := by omega
    rw [hjj, hu] at hat
    obtain ⟨h0, h1, h2⟩ := hV (j / 3) (by omega)
    obtain ⟨b, off, sp⟩ := a
    have hsp : sp = none := by
      cases sp with
      | none => rfl
      | some s =>
        have h0 := (hV 0 (by omega)).1
        unfold Addr.add at h0
        simp [World.cell?] at h0
        split at h0 <;> simp at h0
    subst hsp
    rw [Addr.add_lit] at h0 h1 h2
    have hcl : w.cell? ⟨b, off + j, none⟩ = some u := by
      have hr : j % 3 = 0 ∨ j % 3 = 1 ∨ j % 3 = 2 := by omega
      rcases hr with r | r | r
      · rw [r] at hat
        have : j = j / 3 * 3 := by omega
        rw [this, h0, hat]; rfl
      · rw [r] at hat
        have : j = j / 3 * 3 + 1 := by omega
        rw [this, h1, hat]; rfl
      · rw [r] at hat
        have : j = j / 3 * 3 + 2 := by omega
        rw [this, h2, hat]; rfl
    exact ⟨b, off, rfl, cell_lt hcl, hcl⟩
end

end Go.Proofs.Ytopgdemmdcipcaa
