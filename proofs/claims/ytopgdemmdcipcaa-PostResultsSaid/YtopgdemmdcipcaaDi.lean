/- Structs as data, and how their cells read; facts of types. (Written by types.py.) -/
import Derived.Test.YtopgdemmdcipcaaDm
import Derived.Test.YtopgdemmdcipcaaWire
namespace Go.Proofs.Ytopgdemmdcipcaa
open Go.RowKit
open Rep (rep)
set_option linter.unusedVariables false

theorem GOp.unf {M : Mm} {cs : List Value} {d : GOp} (h : rep M cs d) : cs.length = 3 ∧ rep M (sl cs 0 1) d.kind ∧ rep M (sl cs 1 1) d.key ∧ rep M (sl cs 2 1) d.n := by
  have h : cs = opCells d := h
  subst h
  exact ⟨rfl, rfl, rfl, rfl⟩
theorem GOp.fol {M : Mm} {cs : List Value} {d : GOp} (h : cs.length = 3 ∧ rep M (sl cs 0 1) d.kind ∧ rep M (sl cs 1 1) d.key ∧ rep M (sl cs 2 1) d.n) : rep M cs d := by
  obtain ⟨h0, h1, h2, h3⟩ := h
  have e : cs = sl cs 0 1 ++ sl cs (0 + 1) (1 + 1) := by rw [sl_cat]; rw [show 1 + (1 + 1) = cs.length from h0.symm]; exact (sl_all cs).symm
  have e2 : sl cs (0 + 1) (1 + 1) = sl cs 1 1 ++ sl cs (1 + 1) 1 := (sl_cat cs 1 1 1).symm
  have h1 : sl cs 0 1 = [.int .i64 d.kind] := h1
  have h2 : sl cs 1 1 = [.int .i64 d.key] := h2
  have h3 : sl cs 2 1 = [.int .i64 d.n] := h3
  show cs = opCells d
  rw [e, e2, h1, h2, h3]
  rfl
theorem GOp.p0 {M : Mm} {cs : List Value} {o : Nat} {d : GOp} (h : rep M (sl cs o 3) d) : rep M (sl cs (o + 0) 1) d.kind := by
  obtain ⟨h, e0, e1, e2⟩ := GOp.unf h
  rwa [sl_sl _ (by decide)] at e0
theorem GOp.s0 {M : Mm} {cs ws : List Value} {o q : Nat} {d : GOp} {x : Int} (h : rep M (sl cs o 3) d) (hx : rep M (sl (pt cs q ws) (o + 0) 1) x) (h1 : o + 0 ≤ q) (h2 : q + ws.length ≤ o + 0 + 1) (hl : o + 3 ≤ cs.length) : rep M (sl (pt cs q ws) o 3) { d with kind := x } := by
  obtain ⟨h, e0, e1, e2⟩ := GOp.unf h
  exact GOp.fol ⟨sl_length (by rw [pt_length (by omega)]; exact hl), by rw [sl_sl _ (by decide)]; exact hx, by rw [sl_sl _ (by decide)] at e1 ⊢; rw [sl_pt_apart (by omega) (by omega)]; exact e1, by rw [sl_sl _ (by decide)] at e2 ⊢; rw [sl_pt_apart (by omega) (by omega)]; exact e2⟩
theorem GOp.w0 {M : Mm} {cs ws : List Value} {d : GOp} {x : Int} (h : rep M cs d) (hx : rep M ws x) : rep M (pt cs 0 ws) { d with kind := x } := by
  have hl : cs.length = 3 := Rep.len h
  have hw : ws.length = 1 := Rep.len hx
  exact rep_whole (by rw [pt_length (by omega)]; exact hl) (GOp.s0 (rep_root (k := 3) rfl h) (by rw [Nat.zero_add]; exact rep_leaf rfl hx (by omega)) (by omega) (by omega) (by omega))
theorem GOp.p1 {M : Mm} {cs : List Value} {o : Nat} {d : GOp} (h : rep M (sl cs o 3) d) : rep M (sl cs (o + 1) 1) d.key := by
  obtain ⟨h, e0, e1, e2⟩ := GOp.unf h
  rwa [sl_sl _ (by decide)] at e1
theorem GOp.s1 {M : Mm} {cs ws : List Value} {o q : Nat} {d : GOp} {x : Int} (h : rep M (sl cs o 3) d) (hx : rep M (sl (pt cs q ws) (o + 1) 1) x) (h1 : o + 1 ≤ q) (h2 : q + ws.length ≤ o + 1 + 1) (hl : o + 3 ≤ cs.length) : rep M (sl (pt cs q ws) o 3) { d with key := x } := by
  obtain ⟨h, e0, e1, e2⟩ := GOp.unf h
  exact GOp.fol ⟨sl_length (by rw [pt_length (by omega)]; exact hl), by rw [sl_sl _ (by decide)] at e0 ⊢; rw [sl_pt_apart (by omega) (by omega)]; exact e0, by rw [sl_sl _ (by decide)]; exact hx, by rw [sl_sl _ (by decide)] at e2 ⊢; rw [sl_pt_apart (by omega) (by omega)]; exact e2⟩
theorem GOp.w1 {M : Mm} {cs ws : List Value} {d : GOp} {x : Int} (h : rep M cs d) (hx : rep M ws x) : rep M (pt cs 1 ws) { d with key := x } := by
  have hl : cs.length = 3 := Rep.len h
  have hw : ws.length = 1 := Rep.len hx
  exact rep_whole (by rw [pt_length (by omega)]; exact hl) (GOp.s1 (rep_root (k := 3) rfl h) (by rw [Nat.zero_add]; exact rep_leaf rfl hx (by omega)) (by omega) (by omega) (by omega))
theorem GOp.p2 {M : Mm} {cs : List Value} {o : Nat} {d : GOp} (h : rep M (sl cs o 3) d) : rep M (sl cs (o + 2) 1) d.n := by
  obtain ⟨h, e0, e1, e2⟩ := GOp.unf h
  rwa [sl_sl _ (by decide)] at e2
theorem GOp.s2 {M : Mm} {cs ws : List Value} {o q : Nat} {d : GOp} {x : Int} (h : rep M (sl cs o 3) d) (hx : rep M (sl (pt cs q ws) (o + 2) 1) x) (h1 : o + 2 ≤ q) (h2 : q + ws.length ≤ o + 2 + 1) (hl : o + 3 ≤ cs.length) : rep M (sl (pt cs q ws) o 3) { d with n := x } := by
  obtain ⟨h, e0, e1, e2⟩ := GOp.unf h
  exact GOp.fol ⟨sl_length (by rw [pt_length (by omega)]; exact hl), by rw [sl_sl _ (by decide)] at e0 ⊢; rw [sl_pt_apart (by omega) (by omega)]; exact e0, by rw [sl_sl _ (by decide)] at e1 ⊢; rw [sl_pt_apart (by omega) (by omega)]; exact e1, by rw [sl_sl _ (by decide)]; exact hx⟩
theorem GOp.w2 {M : Mm} {cs ws : List Value} {d : GOp} {x : Int} (h : rep M cs d) (hx : rep M ws x) : rep M (pt cs 2 ws) { d with n := x } := by
  have hl : cs.length = 3 := Rep.len h
  have hw : ws.length = 1 := Rep.len hx
  exact rep_whole (by rw [pt_length (by omega)]; exact hl) (GOp.s2 (rep_root (k := 3) rfl h) (by rw [Nat.zero_add]; exact rep_leaf rfl hx (by omega)) (by omega) (by omega) (by omega))
instance : Pos GOp := ⟨by decide⟩
def zGOp : List Value := Zr.zc (Int) ++ Zr.zc (Int) ++ Zr.zc (Int)
theorem zGOp_len : zGOp.length = 3 := by
  simp only [zGOp, List.length_append, Rep.len (Zr.zr (α := Int) (M := fun _ => none))]
  rfl
instance : Zr GOp where
  zd := { kind := Zr.zd, key := Zr.zd, n := Zr.zd }
  zc := zGOp
  zr := by
    intro M
    exact GOp.fol ⟨zGOp_len, by
      have e : sl zGOp 0 1 = Zr.zc (Int) := by kernel_rfl
      rw [e]; exact Zr.zr, by
      have e : sl zGOp 1 1 = Zr.zc (Int) := by kernel_rfl
      rw [e]; exact Zr.zr, by
      have e : sl zGOp 2 1 = Zr.zc (Int) := by kernel_rfl
      rw [e]; exact Zr.zr⟩

structure GTxn where
  id : Int
  ops : List (GOp)

instance instRepGTxn : Rep GTxn where
  k := 2
  bytes := 32
  rep M cs d := cs.length = 2 ∧ rep M (sl cs 0 1) d.id ∧ rep M (sl cs 1 1) d.ops
  len h := h.1
  mono hm h := by obtain ⟨h, e0, e1⟩ := h; exact ⟨h, Rep.mono hm e0, Rep.mono hm e1⟩
  one h := by
    obtain ⟨h, e0, e1⟩ := h
    intro u hu
    have hu := mem_all h hu
    rcases mem_cut (n := 1) (m := 1) (o' := 1) rfl rfl hu with h0 | hu
    · exact Rep.one e0 u h0
    exact Rep.one e1 u hu

theorem GTxn.unf {M : Mm} {cs : List Value} {d : GTxn} (h : rep M cs d) : cs.length = 2 ∧ rep M (sl cs 0 1) d.id ∧ rep M (sl cs 1 1) d.ops := h
theorem GTxn.fol {M : Mm} {cs : List Value} {d : GTxn} (h : cs.length = 2 ∧ rep M (sl cs 0 1) d.id ∧ rep M (sl cs 1 1) d.ops) : rep M cs d := h
theorem GTxn.p0 {M : Mm} {cs : List Value} {o : Nat} {d : GTxn} (h : rep M (sl cs o 2) d) : rep M (sl cs (o + 0) 1) d.id := by
  obtain ⟨h, e0, e1⟩ := GTxn.unf h
  rwa [sl_sl _ (by decide)] at e0
theorem GTxn.s0 {M : Mm} {cs ws : List Value} {o q : Nat} {d : GTxn} {x : Int} (h : rep M (sl cs o 2) d) (hx : rep M (sl (pt cs q ws) (o + 0) 1) x) (h1 : o + 0 ≤ q) (h2 : q + ws.length ≤ o + 0 + 1) (hl : o + 2 ≤ cs.length) : rep M (sl (pt cs q ws) o 2) { d with id := x } := by
  obtain ⟨h, e0, e1⟩ := GTxn.unf h
  exact GTxn.fol ⟨sl_length (by rw [pt_length (by omega)]; exact hl), by rw [sl_sl _ (by decide)]; exact hx, by rw [sl_sl _ (by decide)] at e1 ⊢; rw [sl_pt_apart (by omega) (by omega)]; exact e1⟩
theorem GTxn.w0 {M : Mm} {cs ws : List Value} {d : GTxn} {x : Int} (h : rep M cs d) (hx : rep M ws x) : rep M (pt cs 0 ws) { d with id := x } := by
  have hl : cs.length = 2 := Rep.len h
  have hw : ws.length = 1 := Rep.len hx
  exact rep_whole (by rw [pt_length (by omega)]; exact hl) (GTxn.s0 (rep_root (k := 2) rfl h) (by rw [Nat.zero_add]; exact rep_leaf rfl hx (by omega)) (by omega) (by omega) (by omega))
theorem GTxn.p1 {M : Mm} {cs : List Value} {o : Nat} {d : GTxn} (h : rep M (sl cs o 2) d) : rep M (sl cs (o + 1) 1) d.ops := by
  obtain ⟨h, e0, e1⟩ := GTxn.unf h
  rwa [sl_sl _ (by decide)] at e1
theorem GTxn.s1 {M : Mm} {cs ws : List Value} {o q : Nat} {d : GTxn} {x : List (GOp)} (h : rep M (sl cs o 2) d) (hx : rep M (sl (pt cs q ws) (o + 1) 1) x) (h1 : o + 1 ≤ q) (h2 : q + ws.length ≤ o + 1 + 1) (hl : o + 2 ≤ cs.length) : rep M (sl (pt cs q ws) o 2) { d with ops := x } := by
  obtain ⟨h, e0, e1⟩ := GTxn.unf h
  exact GTxn.fol ⟨sl_length (by rw [pt_length (by omega)]; exact hl), by rw [sl_sl _ (by decide)] at e0 ⊢; rw [sl_pt_apart (by omega) (by omega)]; exact e0, by rw [sl_sl _ (by decide)]; exact hx⟩
theorem GTxn.w1 {M : Mm} {cs ws : List Value} {d : GTxn} {x : List (GOp)} (h : rep M cs d) (hx : rep M ws x) : rep M (pt cs 1 ws) { d with ops := x } := by
  have hl : cs.length = 2 := Rep.len h
  have hw : ws.length = 1 := Rep.len hx
  exact rep_whole (by rw [pt_length (by omega)]; exact hl) (GTxn.s1 (rep_root (k := 2) rfl h) (by rw [Nat.zero_add]; exact rep_leaf rfl hx (by omega)) (by omega) (by omega) (by omega))
instance : Pos GTxn := ⟨by decide⟩
def zGTxn : List Value := Zr.zc (Int) ++ Zr.zc (List (GOp))
theorem zGTxn_len : zGTxn.length = 2 := by
  simp only [zGTxn, List.length_append, Rep.len (Zr.zr (α := Int) (M := fun _ => none)), Rep.len (Zr.zr (α := List (GOp)) (M := fun _ => none))]
  rfl
instance : Zr GTxn where
  zd := { id := Zr.zd, ops := Zr.zd }
  zc := zGTxn
  zr := by
    intro M
    exact GTxn.fol ⟨zGTxn_len, by
      have e : sl zGTxn 0 1 = Zr.zc (Int) := by kernel_rfl
      rw [e]; exact Zr.zr, by
      have e : sl zGTxn 1 1 = Zr.zc (List (GOp)) := by kernel_rfl
      rw [e]; exact Zr.zr⟩

structure GCase where
  begun : Bool
  fixed : Bool
  ops : List (GOp)
  told : Vector (Bool) 6
  known : Vector (Bool) 6
  deps : List (Int)
  has : Vector (Bool) 4
  values : Vector (Int) 4

instance instRepGCase : Rep GCase where
  k := 24
  bytes := 112
  rep M cs d := cs.length = 24 ∧ rep M (sl cs 0 1) d.begun ∧ rep M (sl cs 1 1) d.fixed ∧ rep M (sl cs 2 1) d.ops ∧ rep M (sl cs 3 6) d.told ∧ rep M (sl cs 9 6) d.known ∧ rep M (sl cs 15 1) d.deps ∧ rep M (sl cs 16 4) d.has ∧ rep M (sl cs 20 4) d.values
  len h := h.1
  mono hm h := by obtain ⟨h, e0, e1, e2, e3, e4, e5, e6, e7⟩ := h; exact ⟨h, Rep.mono hm e0, Rep.mono hm e1, Rep.mono hm e2, Rep.mono hm e3, Rep.mono hm e4, Rep.mono hm e5, Rep.mono hm e6, Rep.mono hm e7⟩
  one h := by
    obtain ⟨h, e0, e1, e2, e3, e4, e5, e6, e7⟩ := h
    intro u hu
    have hu := mem_all h hu
    rcases mem_cut (n := 1) (m := 23) (o' := 1) rfl rfl hu with h0 | hu
    · exact Rep.one e0 u h0
    rcases mem_cut (n := 1) (m := 22) (o' := 2) rfl rfl hu with h1 | hu
    · exact Rep.one e1 u h1
    rcases mem_cut (n := 1) (m := 21) (o' := 3) rfl rfl hu with h2 | hu
    · exact Rep.one e2 u h2
    rcases mem_cut (n := 6) (m := 15) (o' := 9) rfl rfl hu with h3 | hu
    · exact Rep.one e3 u h3
    rcases mem_cut (n := 6) (m := 9) (o' := 15) rfl rfl hu with h4 | hu
    · exact Rep.one e4 u h4
    rcases mem_cut (n := 1) (m := 8) (o' := 16) rfl rfl hu with h5 | hu
    · exact Rep.one e5 u h5
    rcases mem_cut (n := 4) (m := 4) (o' := 20) rfl rfl hu with h6 | hu
    · exact Rep.one e6 u h6
    exact Rep.one e7 u hu

theorem GCase.unf {M : Mm} {cs : List Value} {d : GCase} (h : rep M cs d) : cs.length = 24 ∧ rep M (sl cs 0 1) d.begun ∧ rep M (sl cs 1 1) d.fixed ∧ rep M (sl cs 2 1) d.ops ∧ rep M (sl cs 3 6) d.told ∧ rep M (sl cs 9 6) d.known ∧ rep M (sl cs 15 1) d.deps ∧ rep M (sl cs 16 4) d.has ∧ rep M (sl cs 20 4) d.values := h
theorem GCase.fol {M : Mm} {cs : List Value} {d : GCase} (h : cs.length = 24 ∧ rep M (sl cs 0 1) d.begun ∧ rep M (sl cs 1 1) d.fixed ∧ rep M (sl cs 2 1) d.ops ∧ rep M (sl cs 3 6) d.told ∧ rep M (sl cs 9 6) d.known ∧ rep M (sl cs 15 1) d.deps ∧ rep M (sl cs 16 4) d.has ∧ rep M (sl cs 20 4) d.values) : rep M cs d := h
theorem GCase.p0 {M : Mm} {cs : List Value} {o : Nat} {d : GCase} (h : rep M (sl cs o 24) d) : rep M (sl cs (o + 0) 1) d.begun := by
  obtain ⟨h, e0, e1, e2, e3, e4, e5, e6, e7⟩ := GCase.unf h
  rwa [sl_sl _ (by decide)] at e0
theorem GCase.s0 {M : Mm} {cs ws : List Value} {o q : Nat} {d : GCase} {x : Bool} (h : rep M (sl cs o 24) d) (hx : rep M (sl (pt cs q ws) (o + 0) 1) x) (h1 : o + 0 ≤ q) (h2 : q + ws.length ≤ o + 0 + 1) (hl : o + 24 ≤ cs.length) : rep M (sl (pt cs q ws) o 24) { d with begun := x } := by
  obtain ⟨h, e0, e1, e2, e3, e4, e5, e6, e7⟩ := GCase.unf h
  exact GCase.fol ⟨sl_length (by rw [pt_length (by omega)]; exact hl), by rw [sl_sl _ (by decide)]; exact hx, by rw [sl_sl _ (by decide)] at e1 ⊢; rw [sl_pt_apart (by omega) (by omega)]; exact e1, by rw [sl_sl _ (by decide)] at e2 ⊢; rw [sl_pt_apart (by omega) (by omega)]; exact e2, by rw [sl_sl _ (by decide)] at e3 ⊢; rw [sl_pt_apart (by omega) (by omega)]; exact e3, by rw [sl_sl _ (by decide)] at e4 ⊢; rw [sl_pt_apart (by omega) (by omega)]; exact e4, by rw [sl_sl _ (by decide)] at e5 ⊢; rw [sl_pt_apart (by omega) (by omega)]; exact e5, by rw [sl_sl _ (by decide)] at e6 ⊢; rw [sl_pt_apart (by omega) (by omega)]; exact e6, by rw [sl_sl _ (by decide)] at e7 ⊢; rw [sl_pt_apart (by omega) (by omega)]; exact e7⟩
theorem GCase.w0 {M : Mm} {cs ws : List Value} {d : GCase} {x : Bool} (h : rep M cs d) (hx : rep M ws x) : rep M (pt cs 0 ws) { d with begun := x } := by
  have hl : cs.length = 24 := Rep.len h
  have hw : ws.length = 1 := Rep.len hx
  exact rep_whole (by rw [pt_length (by omega)]; exact hl) (GCase.s0 (rep_root (k := 24) rfl h) (by rw [Nat.zero_add]; exact rep_leaf rfl hx (by omega)) (by omega) (by omega) (by omega))
theorem GCase.p1 {M : Mm} {cs : List Value} {o : Nat} {d : GCase} (h : rep M (sl cs o 24) d) : rep M (sl cs (o + 1) 1) d.fixed := by
  obtain ⟨h, e0, e1, e2, e3, e4, e5, e6, e7⟩ := GCase.unf h
  rwa [sl_sl _ (by decide)] at e1
theorem GCase.s1 {M : Mm} {cs ws : List Value} {o q : Nat} {d : GCase} {x : Bool} (h : rep M (sl cs o 24) d) (hx : rep M (sl (pt cs q ws) (o + 1) 1) x) (h1 : o + 1 ≤ q) (h2 : q + ws.length ≤ o + 1 + 1) (hl : o + 24 ≤ cs.length) : rep M (sl (pt cs q ws) o 24) { d with fixed := x } := by
  obtain ⟨h, e0, e1, e2, e3, e4, e5, e6, e7⟩ := GCase.unf h
  exact GCase.fol ⟨sl_length (by rw [pt_length (by omega)]; exact hl), by rw [sl_sl _ (by decide)] at e0 ⊢; rw [sl_pt_apart (by omega) (by omega)]; exact e0, by rw [sl_sl _ (by decide)]; exact hx, by rw [sl_sl _ (by decide)] at e2 ⊢; rw [sl_pt_apart (by omega) (by omega)]; exact e2, by rw [sl_sl _ (by decide)] at e3 ⊢; rw [sl_pt_apart (by omega) (by omega)]; exact e3, by rw [sl_sl _ (by decide)] at e4 ⊢; rw [sl_pt_apart (by omega) (by omega)]; exact e4, by rw [sl_sl _ (by decide)] at e5 ⊢; rw [sl_pt_apart (by omega) (by omega)]; exact e5, by rw [sl_sl _ (by decide)] at e6 ⊢; rw [sl_pt_apart (by omega) (by omega)]; exact e6, by rw [sl_sl _ (by decide)] at e7 ⊢; rw [sl_pt_apart (by omega) (by omega)]; exact e7⟩
theorem GCase.w1 {M : Mm} {cs ws : List Value} {d : GCase} {x : Bool} (h : rep M cs d) (hx : rep M ws x) : rep M (pt cs 1 ws) { d with fixed := x } := by
  have hl : cs.length = 24 := Rep.len h
  have hw : ws.length = 1 := Rep.len hx
  exact rep_whole (by rw [pt_length (by omega)]; exact hl) (GCase.s1 (rep_root (k := 24) rfl h) (by rw [Nat.zero_add]; exact rep_leaf rfl hx (by omega)) (by omega) (by omega) (by omega))
theorem GCase.p2 {M : Mm} {cs : List Value} {o : Nat} {d : GCase} (h : rep M (sl cs o 24) d) : rep M (sl cs (o + 2) 1) d.ops := by
  obtain ⟨h, e0, e1, e2, e3, e4, e5, e6, e7⟩ := GCase.unf h
  rwa [sl_sl _ (by decide)] at e2
theorem GCase.s2 {M : Mm} {cs ws : List Value} {o q : Nat} {d : GCase} {x : List (GOp)} (h : rep M (sl cs o 24) d) (hx : rep M (sl (pt cs q ws) (o + 2) 1) x) (h1 : o + 2 ≤ q) (h2 : q + ws.length ≤ o + 2 + 1) (hl : o + 24 ≤ cs.length) : rep M (sl (pt cs q ws) o 24) { d with ops := x } := by
  obtain ⟨h, e0, e1, e2, e3, e4, e5, e6, e7⟩ := GCase.unf h
  exact GCase.fol ⟨sl_length (by rw [pt_length (by omega)]; exact hl), by rw [sl_sl _ (by decide)] at e0 ⊢; rw [sl_pt_apart (by omega) (by omega)]; exact e0, by rw [sl_sl _ (by decide)] at e1 ⊢; rw [sl_pt_apart (by omega) (by omega)]; exact e1, by rw [sl_sl _ (by decide)]; exact hx, by rw [sl_sl _ (by decide)] at e3 ⊢; rw [sl_pt_apart (by omega) (by omega)]; exact e3, by rw [sl_sl _ (by decide)] at e4 ⊢; rw [sl_pt_apart (by omega) (by omega)]; exact e4, by rw [sl_sl _ (by decide)] at e5 ⊢; rw [sl_pt_apart (by omega) (by omega)]; exact e5, by rw [sl_sl _ (by decide)] at e6 ⊢; rw [sl_pt_apart (by omega) (by omega)]; exact e6, by rw [sl_sl _ (by decide)] at e7 ⊢; rw [sl_pt_apart (by omega) (by omega)]; exact e7⟩
theorem GCase.w2 {M : Mm} {cs ws : List Value} {d : GCase} {x : List (GOp)} (h : rep M cs d) (hx : rep M ws x) : rep M (pt cs 2 ws) { d with ops := x } := by
  have hl : cs.length = 24 := Rep.len h
  have hw : ws.length = 1 := Rep.len hx
  exact rep_whole (by rw [pt_length (by omega)]; exact hl) (GCase.s2 (rep_root (k := 24) rfl h) (by rw [Nat.zero_add]; exact rep_leaf rfl hx (by omega)) (by omega) (by omega) (by omega))
theorem GCase.p3 {M : Mm} {cs : List Value} {o : Nat} {d : GCase} (h : rep M (sl cs o 24) d) : rep M (sl cs (o + 3) 6) d.told := by
  obtain ⟨h, e0, e1, e2, e3, e4, e5, e6, e7⟩ := GCase.unf h
  rwa [sl_sl _ (by decide)] at e3
theorem GCase.s3 {M : Mm} {cs ws : List Value} {o q : Nat} {d : GCase} {x : Vector (Bool) 6} (h : rep M (sl cs o 24) d) (hx : rep M (sl (pt cs q ws) (o + 3) 6) x) (h1 : o + 3 ≤ q) (h2 : q + ws.length ≤ o + 3 + 6) (hl : o + 24 ≤ cs.length) : rep M (sl (pt cs q ws) o 24) { d with told := x } := by
  obtain ⟨h, e0, e1, e2, e3, e4, e5, e6, e7⟩ := GCase.unf h
  exact GCase.fol ⟨sl_length (by rw [pt_length (by omega)]; exact hl), by rw [sl_sl _ (by decide)] at e0 ⊢; rw [sl_pt_apart (by omega) (by omega)]; exact e0, by rw [sl_sl _ (by decide)] at e1 ⊢; rw [sl_pt_apart (by omega) (by omega)]; exact e1, by rw [sl_sl _ (by decide)] at e2 ⊢; rw [sl_pt_apart (by omega) (by omega)]; exact e2, by rw [sl_sl _ (by decide)]; exact hx, by rw [sl_sl _ (by decide)] at e4 ⊢; rw [sl_pt_apart (by omega) (by omega)]; exact e4, by rw [sl_sl _ (by decide)] at e5 ⊢; rw [sl_pt_apart (by omega) (by omega)]; exact e5, by rw [sl_sl _ (by decide)] at e6 ⊢; rw [sl_pt_apart (by omega) (by omega)]; exact e6, by rw [sl_sl _ (by decide)] at e7 ⊢; rw [sl_pt_apart (by omega) (by omega)]; exact e7⟩
theorem GCase.w3 {M : Mm} {cs ws : List Value} {d : GCase} {x : Vector (Bool) 6} (h : rep M cs d) (hx : rep M ws x) : rep M (pt cs 3 ws) { d with told := x } := by
  have hl : cs.length = 24 := Rep.len h
  have hw : ws.length = 6 := Rep.len hx
  exact rep_whole (by rw [pt_length (by omega)]; exact hl) (GCase.s3 (rep_root (k := 24) rfl h) (by rw [Nat.zero_add]; exact rep_leaf rfl hx (by omega)) (by omega) (by omega) (by omega))
theorem GCase.p4 {M : Mm} {cs : List Value} {o : Nat} {d : GCase} (h : rep M (sl cs o 24) d) : rep M (sl cs (o + 9) 6) d.known := by
  obtain ⟨h, e0, e1, e2, e3, e4, e5, e6, e7⟩ := GCase.unf h
  rwa [sl_sl _ (by decide)] at e4
theorem GCase.s4 {M : Mm} {cs ws : List Value} {o q : Nat} {d : GCase} {x : Vector (Bool) 6} (h : rep M (sl cs o 24) d) (hx : rep M (sl (pt cs q ws) (o + 9) 6) x) (h1 : o + 9 ≤ q) (h2 : q + ws.length ≤ o + 9 + 6) (hl : o + 24 ≤ cs.length) : rep M (sl (pt cs q ws) o 24) { d with known := x } := by
  obtain ⟨h, e0, e1, e2, e3, e4, e5, e6, e7⟩ := GCase.unf h
  exact GCase.fol ⟨sl_length (by rw [pt_length (by omega)]; exact hl), by rw [sl_sl _ (by decide)] at e0 ⊢; rw [sl_pt_apart (by omega) (by omega)]; exact e0, by rw [sl_sl _ (by decide)] at e1 ⊢; rw [sl_pt_apart (by omega) (by omega)]; exact e1, by rw [sl_sl _ (by decide)] at e2 ⊢; rw [sl_pt_apart (by omega) (by omega)]; exact e2, by rw [sl_sl _ (by decide)] at e3 ⊢; rw [sl_pt_apart (by omega) (by omega)]; exact e3, by rw [sl_sl _ (by decide)]; exact hx, by rw [sl_sl _ (by decide)] at e5 ⊢; rw [sl_pt_apart (by omega) (by omega)]; exact e5, by rw [sl_sl _ (by decide)] at e6 ⊢; rw [sl_pt_apart (by omega) (by omega)]; exact e6, by rw [sl_sl _ (by decide)] at e7 ⊢; rw [sl_pt_apart (by omega) (by omega)]; exact e7⟩
theorem GCase.w4 {M : Mm} {cs ws : List Value} {d : GCase} {x : Vector (Bool) 6} (h : rep M cs d) (hx : rep M ws x) : rep M (pt cs 9 ws) { d with known := x } := by
  have hl : cs.length = 24 := Rep.len h
  have hw : ws.length = 6 := Rep.len hx
  exact rep_whole (by rw [pt_length (by omega)]; exact hl) (GCase.s4 (rep_root (k := 24) rfl h) (by rw [Nat.zero_add]; exact rep_leaf rfl hx (by omega)) (by omega) (by omega) (by omega))
theorem GCase.p5 {M : Mm} {cs : List Value} {o : Nat} {d : GCase} (h : rep M (sl cs o 24) d) : rep M (sl cs (o + 15) 1) d.deps := by
  obtain ⟨h, e0, e1, e2, e3, e4, e5, e6, e7⟩ := GCase.unf h
  rwa [sl_sl _ (by decide)] at e5
theorem GCase.s5 {M : Mm} {cs ws : List Value} {o q : Nat} {d : GCase} {x : List (Int)} (h : rep M (sl cs o 24) d) (hx : rep M (sl (pt cs q ws) (o + 15) 1) x) (h1 : o + 15 ≤ q) (h2 : q + ws.length ≤ o + 15 + 1) (hl : o + 24 ≤ cs.length) : rep M (sl (pt cs q ws) o 24) { d with deps := x } := by
  obtain ⟨h, e0, e1, e2, e3, e4, e5, e6, e7⟩ := GCase.unf h
  exact GCase.fol ⟨sl_length (by rw [pt_length (by omega)]; exact hl), by rw [sl_sl _ (by decide)] at e0 ⊢; rw [sl_pt_apart (by omega) (by omega)]; exact e0, by rw [sl_sl _ (by decide)] at e1 ⊢; rw [sl_pt_apart (by omega) (by omega)]; exact e1, by rw [sl_sl _ (by decide)] at e2 ⊢; rw [sl_pt_apart (by omega) (by omega)]; exact e2, by rw [sl_sl _ (by decide)] at e3 ⊢; rw [sl_pt_apart (by omega) (by omega)]; exact e3, by rw [sl_sl _ (by decide)] at e4 ⊢; rw [sl_pt_apart (by omega) (by omega)]; exact e4, by rw [sl_sl _ (by decide)]; exact hx, by rw [sl_sl _ (by decide)] at e6 ⊢; rw [sl_pt_apart (by omega) (by omega)]; exact e6, by rw [sl_sl _ (by decide)] at e7 ⊢; rw [sl_pt_apart (by omega) (by omega)]; exact e7⟩
theorem GCase.w5 {M : Mm} {cs ws : List Value} {d : GCase} {x : List (Int)} (h : rep M cs d) (hx : rep M ws x) : rep M (pt cs 15 ws) { d with deps := x } := by
  have hl : cs.length = 24 := Rep.len h
  have hw : ws.length = 1 := Rep.len hx
  exact rep_whole (by rw [pt_length (by omega)]; exact hl) (GCase.s5 (rep_root (k := 24) rfl h) (by rw [Nat.zero_add]; exact rep_leaf rfl hx (by omega)) (by omega) (by omega) (by omega))
theorem GCase.p6 {M : Mm} {cs : List Value} {o : Nat} {d : GCase} (h : rep M (sl cs o 24) d) : rep M (sl cs (o + 16) 4) d.has := by
  obtain ⟨h, e0, e1, e2, e3, e4, e5, e6, e7⟩ := GCase.unf h
  rwa [sl_sl _ (by decide)] at e6
theorem GCase.s6 {M : Mm} {cs ws : List Value} {o q : Nat} {d : GCase} {x : Vector (Bool) 4} (h : rep M (sl cs o 24) d) (hx : rep M (sl (pt cs q ws) (o + 16) 4) x) (h1 : o + 16 ≤ q) (h2 : q + ws.length ≤ o + 16 + 4) (hl : o + 24 ≤ cs.length) : rep M (sl (pt cs q ws) o 24) { d with has := x } := by
  obtain ⟨h, e0, e1, e2, e3, e4, e5, e6, e7⟩ := GCase.unf h
  exact GCase.fol ⟨sl_length (by rw [pt_length (by omega)]; exact hl), by rw [sl_sl _ (by decide)] at e0 ⊢; rw [sl_pt_apart (by omega) (by omega)]; exact e0, by rw [sl_sl _ (by decide)] at e1 ⊢; rw [sl_pt_apart (by omega) (by omega)]; exact e1, by rw [sl_sl _ (by decide)] at e2 ⊢; rw [sl_pt_apart (by omega) (by omega)]; exact e2, by rw [sl_sl _ (by decide)] at e3 ⊢; rw [sl_pt_apart (by omega) (by omega)]; exact e3, by rw [sl_sl _ (by decide)] at e4 ⊢; rw [sl_pt_apart (by omega) (by omega)]; exact e4, by rw [sl_sl _ (by decide)] at e5 ⊢; rw [sl_pt_apart (by omega) (by omega)]; exact e5, by rw [sl_sl _ (by decide)]; exact hx, by rw [sl_sl _ (by decide)] at e7 ⊢; rw [sl_pt_apart (by omega) (by omega)]; exact e7⟩
theorem GCase.w6 {M : Mm} {cs ws : List Value} {d : GCase} {x : Vector (Bool) 4} (h : rep M cs d) (hx : rep M ws x) : rep M (pt cs 16 ws) { d with has := x } := by
  have hl : cs.length = 24 := Rep.len h
  have hw : ws.length = 4 := Rep.len hx
  exact rep_whole (by rw [pt_length (by omega)]; exact hl) (GCase.s6 (rep_root (k := 24) rfl h) (by rw [Nat.zero_add]; exact rep_leaf rfl hx (by omega)) (by omega) (by omega) (by omega))
theorem GCase.p7 {M : Mm} {cs : List Value} {o : Nat} {d : GCase} (h : rep M (sl cs o 24) d) : rep M (sl cs (o + 20) 4) d.values := by
  obtain ⟨h, e0, e1, e2, e3, e4, e5, e6, e7⟩ := GCase.unf h
  rwa [sl_sl _ (by decide)] at e7
theorem GCase.s7 {M : Mm} {cs ws : List Value} {o q : Nat} {d : GCase} {x : Vector (Int) 4} (h : rep M (sl cs o 24) d) (hx : rep M (sl (pt cs q ws) (o + 20) 4) x) (h1 : o + 20 ≤ q) (h2 : q + ws.length ≤ o + 20 + 4) (hl : o + 24 ≤ cs.length) : rep M (sl (pt cs q ws) o 24) { d with values := x } := by
  obtain ⟨h, e0, e1, e2, e3, e4, e5, e6, e7⟩ := GCase.unf h
  exact GCase.fol ⟨sl_length (by rw [pt_length (by omega)]; exact hl), by rw [sl_sl _ (by decide)] at e0 ⊢; rw [sl_pt_apart (by omega) (by omega)]; exact e0, by rw [sl_sl _ (by decide)] at e1 ⊢; rw [sl_pt_apart (by omega) (by omega)]; exact e1, by rw [sl_sl _ (by decide)] at e2 ⊢; rw [sl_pt_apart (by omega) (by omega)]; exact e2, by rw [sl_sl _ (by decide)] at e3 ⊢; rw [sl_pt_apart (by omega) (by omega)]; exact e3, by rw [sl_sl _ (by decide)] at e4 ⊢; rw [sl_pt_apart (by omega) (by omega)]; exact e4, by rw [sl_sl _ (by decide)] at e5 ⊢; rw [sl_pt_apart (by omega) (by omega)]; exact e5, by rw [sl_sl _ (by decide)] at e6 ⊢; rw [sl_pt_apart (by omega) (by omega)]; exact e6, by rw [sl_sl _ (by decide)]; exact hx⟩
theorem GCase.w7 {M : Mm} {cs ws : List Value} {d : GCase} {x : Vector (Int) 4} (h : rep M cs d) (hx : rep M ws x) : rep M (pt cs 20 ws) { d with values := x } := by
  have hl : cs.length = 24 := Rep.len h
  have hw : ws.length = 4 := Rep.len hx
  exact rep_whole (by rw [pt_length (by omega)]; exact hl) (GCase.s7 (rep_root (k := 24) rfl h) (by rw [Nat.zero_add]; exact rep_leaf rfl hx (by omega)) (by omega) (by omega) (by omega))
instance : Pos GCase := ⟨by decide⟩
def zGCase : List Value := Zr.zc (Bool) ++ Zr.zc (Bool) ++ Zr.zc (List (GOp)) ++ Zr.zc (Vector (Bool) 6) ++ Zr.zc (Vector (Bool) 6) ++ Zr.zc (List (Int)) ++ Zr.zc (Vector (Bool) 4) ++ Zr.zc (Vector (Int) 4)
theorem zGCase_len : zGCase.length = 24 := by
  simp only [zGCase, List.length_append, Rep.len (Zr.zr (α := Bool) (M := fun _ => none)), Rep.len (Zr.zr (α := List (GOp)) (M := fun _ => none)), Rep.len (Zr.zr (α := Vector (Bool) 6) (M := fun _ => none)), Rep.len (Zr.zr (α := List (Int)) (M := fun _ => none)), Rep.len (Zr.zr (α := Vector (Bool) 4) (M := fun _ => none)), Rep.len (Zr.zr (α := Vector (Int) 4) (M := fun _ => none))]
  rfl
instance : Zr GCase where
  zd := { begun := Zr.zd, fixed := Zr.zd, ops := Zr.zd, told := Zr.zd, known := Zr.zd, deps := Zr.zd, has := Zr.zd, values := Zr.zd }
  zc := zGCase
  zr := by
    intro M
    exact GCase.fol ⟨zGCase_len, by
      have e : sl zGCase 0 1 = Zr.zc (Bool) := by kernel_rfl
      rw [e]; exact Zr.zr, by
      have e : sl zGCase 1 1 = Zr.zc (Bool) := by kernel_rfl
      rw [e]; exact Zr.zr, by
      have e : sl zGCase 2 1 = Zr.zc (List (GOp)) := by kernel_rfl
      rw [e]; exact Zr.zr, by
      have e : sl zGCase 3 6 = Zr.zc (Vector (Bool) 6) := by kernel_rfl
      rw [e]; exact Zr.zr, by
      have e : sl zGCase 9 6 = Zr.zc (Vector (Bool) 6) := by kernel_rfl
      rw [e]; exact Zr.zr, by
      have e : sl zGCase 15 1 = Zr.zc (List (Int)) := by kernel_rfl
      rw [e]; exact Zr.zr, by
      have e : sl zGCase 16 4 = Zr.zc (Vector (Bool) 4) := by kernel_rfl
      rw [e]; exact Zr.zr, by
      have e : sl zGCase 20 4 = Zr.zc (Vector (Int) 4) := by kernel_rfl
      rw [e]; exact Zr.zr⟩

instance instRepGFrame : Rep GFrame where
  k := 7
  bytes := 120
  rep M cs d := cs.length = 7 ∧ rep M (sl cs 0 1) d.kind ∧ rep M (sl cs 1 1) d.node ∧ rep M (sl cs 2 1) d.id ∧ rep M (sl cs 3 1) d.ops ∧ rep M (sl cs 4 1) d.deps ∧ rep M (sl cs 5 1) d.at_ ∧ rep M (sl cs 6 1) d.vals
  len h := h.1
  mono hm h := by obtain ⟨h, e0, e1, e2, e3, e4, e5, e6⟩ := h; exact ⟨h, Rep.mono hm e0, Rep.mono hm e1, Rep.mono hm e2, Rep.mono hm e3, Rep.mono hm e4, Rep.mono hm e5, Rep.mono hm e6⟩
  one h := by
    obtain ⟨h, e0, e1, e2, e3, e4, e5, e6⟩ := h
    intro u hu
    have hu := mem_all h hu
    rcases mem_cut (n := 1) (m := 6) (o' := 1) rfl rfl hu with h0 | hu
    · exact Rep.one e0 u h0
    rcases mem_cut (n := 1) (m := 5) (o' := 2) rfl rfl hu with h1 | hu
    · exact Rep.one e1 u h1
    rcases mem_cut (n := 1) (m := 4) (o' := 3) rfl rfl hu with h2 | hu
    · exact Rep.one e2 u h2
    rcases mem_cut (n := 1) (m := 3) (o' := 4) rfl rfl hu with h3 | hu
    · exact Rep.one e3 u h3
    rcases mem_cut (n := 1) (m := 2) (o' := 5) rfl rfl hu with h4 | hu
    · exact Rep.one e4 u h4
    rcases mem_cut (n := 1) (m := 1) (o' := 6) rfl rfl hu with h5 | hu
    · exact Rep.one e5 u h5
    exact Rep.one e6 u hu

theorem GFrame.unf {M : Mm} {cs : List Value} {d : GFrame} (h : rep M cs d) : cs.length = 7 ∧ rep M (sl cs 0 1) d.kind ∧ rep M (sl cs 1 1) d.node ∧ rep M (sl cs 2 1) d.id ∧ rep M (sl cs 3 1) d.ops ∧ rep M (sl cs 4 1) d.deps ∧ rep M (sl cs 5 1) d.at_ ∧ rep M (sl cs 6 1) d.vals := h
theorem GFrame.fol {M : Mm} {cs : List Value} {d : GFrame} (h : cs.length = 7 ∧ rep M (sl cs 0 1) d.kind ∧ rep M (sl cs 1 1) d.node ∧ rep M (sl cs 2 1) d.id ∧ rep M (sl cs 3 1) d.ops ∧ rep M (sl cs 4 1) d.deps ∧ rep M (sl cs 5 1) d.at_ ∧ rep M (sl cs 6 1) d.vals) : rep M cs d := h
theorem GFrame.p0 {M : Mm} {cs : List Value} {o : Nat} {d : GFrame} (h : rep M (sl cs o 7) d) : rep M (sl cs (o + 0) 1) d.kind := by
  obtain ⟨h, e0, e1, e2, e3, e4, e5, e6⟩ := GFrame.unf h
  rwa [sl_sl _ (by decide)] at e0
theorem GFrame.s0 {M : Mm} {cs ws : List Value} {o q : Nat} {d : GFrame} {x : Int} (h : rep M (sl cs o 7) d) (hx : rep M (sl (pt cs q ws) (o + 0) 1) x) (h1 : o + 0 ≤ q) (h2 : q + ws.length ≤ o + 0 + 1) (hl : o + 7 ≤ cs.length) : rep M (sl (pt cs q ws) o 7) { d with kind := x } := by
  obtain ⟨h, e0, e1, e2, e3, e4, e5, e6⟩ := GFrame.unf h
  exact GFrame.fol ⟨sl_length (by rw [pt_length (by omega)]; exact hl), by rw [sl_sl _ (by decide)]; exact hx, by rw [sl_sl _ (by decide)] at e1 ⊢; rw [sl_pt_apart (by omega) (by omega)]; exact e1, by rw [sl_sl _ (by decide)] at e2 ⊢; rw [sl_pt_apart (by omega) (by omega)]; exact e2, by rw [sl_sl _ (by decide)] at e3 ⊢; rw [sl_pt_apart (by omega) (by omega)]; exact e3, by rw [sl_sl _ (by decide)] at e4 ⊢; rw [sl_pt_apart (by omega) (by omega)]; exact e4, by rw [sl_sl _ (by decide)] at e5 ⊢; rw [sl_pt_apart (by omega) (by omega)]; exact e5, by rw [sl_sl _ (by decide)] at e6 ⊢; rw [sl_pt_apart (by omega) (by omega)]; exact e6⟩
theorem GFrame.w0 {M : Mm} {cs ws : List Value} {d : GFrame} {x : Int} (h : rep M cs d) (hx : rep M ws x) : rep M (pt cs 0 ws) { d with kind := x } := by
  have hl : cs.length = 7 := Rep.len h
  have hw : ws.length = 1 := Rep.len hx
  exact rep_whole (by rw [pt_length (by omega)]; exact hl) (GFrame.s0 (rep_root (k := 7) rfl h) (by rw [Nat.zero_add]; exact rep_leaf rfl hx (by omega)) (by omega) (by omega) (by omega))
theorem GFrame.p1 {M : Mm} {cs : List Value} {o : Nat} {d : GFrame} (h : rep M (sl cs o 7) d) : rep M (sl cs (o + 1) 1) d.node := by
  obtain ⟨h, e0, e1, e2, e3, e4, e5, e6⟩ := GFrame.unf h
  rwa [sl_sl _ (by decide)] at e1
theorem GFrame.s1 {M : Mm} {cs ws : List Value} {o q : Nat} {d : GFrame} {x : Int} (h : rep M (sl cs o 7) d) (hx : rep M (sl (pt cs q ws) (o + 1) 1) x) (h1 : o + 1 ≤ q) (h2 : q + ws.length ≤ o + 1 + 1) (hl : o + 7 ≤ cs.length) : rep M (sl (pt cs q ws) o 7) { d with node := x } := by
  obtain ⟨h, e0, e1, e2, e3, e4, e5, e6⟩ := GFrame.unf h
  exact GFrame.fol ⟨sl_length (by rw [pt_length (by omega)]; exact hl), by rw [sl_sl _ (by decide)] at e0 ⊢; rw [sl_pt_apart (by omega) (by omega)]; exact e0, by rw [sl_sl _ (by decide)]; exact hx, by rw [sl_sl _ (by decide)] at e2 ⊢; rw [sl_pt_apart (by omega) (by omega)]; exact e2, by rw [sl_sl _ (by decide)] at e3 ⊢; rw [sl_pt_apart (by omega) (by omega)]; exact e3, by rw [sl_sl _ (by decide)] at e4 ⊢; rw [sl_pt_apart (by omega) (by omega)]; exact e4, by rw [sl_sl _ (by decide)] at e5 ⊢; rw [sl_pt_apart (by omega) (by omega)]; exact e5, by rw [sl_sl _ (by decide)] at e6 ⊢; rw [sl_pt_apart (by omega) (by omega)]; exact e6⟩
theorem GFrame.w1 {M : Mm} {cs ws : List Value} {d : GFrame} {x : Int} (h : rep M cs d) (hx : rep M ws x) : rep M (pt cs 1 ws) { d with node := x } := by
  have hl : cs.length = 7 := Rep.len h
  have hw : ws.length = 1 := Rep.len hx
  exact rep_whole (by rw [pt_length (by omega)]; exact hl) (GFrame.s1 (rep_root (k := 7) rfl h) (by rw [Nat.zero_add]; exact rep_leaf rfl hx (by omega)) (by omega) (by omega) (by omega))
theorem GFrame.p2 {M : Mm} {cs : List Value} {o : Nat} {d : GFrame} (h : rep M (sl cs o 7) d) : rep M (sl cs (o + 2) 1) d.id := by
  obtain ⟨h, e0, e1, e2, e3, e4, e5, e6⟩ := GFrame.unf h
  rwa [sl_sl _ (by decide)] at e2
theorem GFrame.s2 {M : Mm} {cs ws : List Value} {o q : Nat} {d : GFrame} {x : Int} (h : rep M (sl cs o 7) d) (hx : rep M (sl (pt cs q ws) (o + 2) 1) x) (h1 : o + 2 ≤ q) (h2 : q + ws.length ≤ o + 2 + 1) (hl : o + 7 ≤ cs.length) : rep M (sl (pt cs q ws) o 7) { d with id := x } := by
  obtain ⟨h, e0, e1, e2, e3, e4, e5, e6⟩ := GFrame.unf h
  exact GFrame.fol ⟨sl_length (by rw [pt_length (by omega)]; exact hl), by rw [sl_sl _ (by decide)] at e0 ⊢; rw [sl_pt_apart (by omega) (by omega)]; exact e0, by rw [sl_sl _ (by decide)] at e1 ⊢; rw [sl_pt_apart (by omega) (by omega)]; exact e1, by rw [sl_sl _ (by decide)]; exact hx, by rw [sl_sl _ (by decide)] at e3 ⊢; rw [sl_pt_apart (by omega) (by omega)]; exact e3, by rw [sl_sl _ (by decide)] at e4 ⊢; rw [sl_pt_apart (by omega) (by omega)]; exact e4, by rw [sl_sl _ (by decide)] at e5 ⊢; rw [sl_pt_apart (by omega) (by omega)]; exact e5, by rw [sl_sl _ (by decide)] at e6 ⊢; rw [sl_pt_apart (by omega) (by omega)]; exact e6⟩
theorem GFrame.w2 {M : Mm} {cs ws : List Value} {d : GFrame} {x : Int} (h : rep M cs d) (hx : rep M ws x) : rep M (pt cs 2 ws) { d with id := x } := by
  have hl : cs.length = 7 := Rep.len h
  have hw : ws.length = 1 := Rep.len hx
  exact rep_whole (by rw [pt_length (by omega)]; exact hl) (GFrame.s2 (rep_root (k := 7) rfl h) (by rw [Nat.zero_add]; exact rep_leaf rfl hx (by omega)) (by omega) (by omega) (by omega))
theorem GFrame.p3 {M : Mm} {cs : List Value} {o : Nat} {d : GFrame} (h : rep M (sl cs o 7) d) : rep M (sl cs (o + 3) 1) d.ops := by
  obtain ⟨h, e0, e1, e2, e3, e4, e5, e6⟩ := GFrame.unf h
  rwa [sl_sl _ (by decide)] at e3
theorem GFrame.s3 {M : Mm} {cs ws : List Value} {o q : Nat} {d : GFrame} {x : List (GOp)} (h : rep M (sl cs o 7) d) (hx : rep M (sl (pt cs q ws) (o + 3) 1) x) (h1 : o + 3 ≤ q) (h2 : q + ws.length ≤ o + 3 + 1) (hl : o + 7 ≤ cs.length) : rep M (sl (pt cs q ws) o 7) { d with ops := x } := by
  obtain ⟨h, e0, e1, e2, e3, e4, e5, e6⟩ := GFrame.unf h
  exact GFrame.fol ⟨sl_length (by rw [pt_length (by omega)]; exact hl), by rw [sl_sl _ (by decide)] at e0 ⊢; rw [sl_pt_apart (by omega) (by omega)]; exact e0, by rw [sl_sl _ (by decide)] at e1 ⊢; rw [sl_pt_apart (by omega) (by omega)]; exact e1, by rw [sl_sl _ (by decide)] at e2 ⊢; rw [sl_pt_apart (by omega) (by omega)]; exact e2, by rw [sl_sl _ (by decide)]; exact hx, by rw [sl_sl _ (by decide)] at e4 ⊢; rw [sl_pt_apart (by omega) (by omega)]; exact e4, by rw [sl_sl _ (by decide)] at e5 ⊢; rw [sl_pt_apart (by omega) (by omega)]; exact e5, by rw [sl_sl _ (by decide)] at e6 ⊢; rw [sl_pt_apart (by omega) (by omega)]; exact e6⟩
theorem GFrame.w3 {M : Mm} {cs ws : List Value} {d : GFrame} {x : List (GOp)} (h : rep M cs d) (hx : rep M ws x) : rep M (pt cs 3 ws) { d with ops := x } := by
  have hl : cs.length = 7 := Rep.len h
  have hw : ws.length = 1 := Rep.len hx
  exact rep_whole (by rw [pt_length (by omega)]; exact hl) (GFrame.s3 (rep_root (k := 7) rfl h) (by rw [Nat.zero_add]; exact rep_leaf rfl hx (by omega)) (by omega) (by omega) (by omega))
theorem GFrame.p4 {M : Mm} {cs : List Value} {o : Nat} {d : GFrame} (h : rep M (sl cs o 7) d) : rep M (sl cs (o + 4) 1) d.deps := by
  obtain ⟨h, e0, e1, e2, e3, e4, e5, e6⟩ := GFrame.unf h
  rwa [sl_sl _ (by decide)] at e4
theorem GFrame.s4 {M : Mm} {cs ws : List Value} {o q : Nat} {d : GFrame} {x : List (Int)} (h : rep M (sl cs o 7) d) (hx : rep M (sl (pt cs q ws) (o + 4) 1) x) (h1 : o + 4 ≤ q) (h2 : q + ws.length ≤ o + 4 + 1) (hl : o + 7 ≤ cs.length) : rep M (sl (pt cs q ws) o 7) { d with deps := x } := by
  obtain ⟨h, e0, e1, e2, e3, e4, e5, e6⟩ := GFrame.unf h
  exact GFrame.fol ⟨sl_length (by rw [pt_length (by omega)]; exact hl), by rw [sl_sl _ (by decide)] at e0 ⊢; rw [sl_pt_apart (by omega) (by omega)]; exact e0, by rw [sl_sl _ (by decide)] at e1 ⊢; rw [sl_pt_apart (by omega) (by omega)]; exact e1, by rw [sl_sl _ (by decide)] at e2 ⊢; rw [sl_pt_apart (by omega) (by omega)]; exact e2, by rw [sl_sl _ (by decide)] at e3 ⊢; rw [sl_pt_apart (by omega) (by omega)]; exact e3, by rw [sl_sl _ (by decide)]; exact hx, by rw [sl_sl _ (by decide)] at e5 ⊢; rw [sl_pt_apart (by omega) (by omega)]; exact e5, by rw [sl_sl _ (by decide)] at e6 ⊢; rw [sl_pt_apart (by omega) (by omega)]; exact e6⟩
theorem GFrame.w4 {M : Mm} {cs ws : List Value} {d : GFrame} {x : List (Int)} (h : rep M cs d) (hx : rep M ws x) : rep M (pt cs 4 ws) { d with deps := x } := by
  have hl : cs.length = 7 := Rep.len h
  have hw : ws.length = 1 := Rep.len hx
  exact rep_whole (by rw [pt_length (by omega)]; exact hl) (GFrame.s4 (rep_root (k := 7) rfl h) (by rw [Nat.zero_add]; exact rep_leaf rfl hx (by omega)) (by omega) (by omega) (by omega))
theorem GFrame.p5 {M : Mm} {cs : List Value} {o : Nat} {d : GFrame} (h : rep M (sl cs o 7) d) : rep M (sl cs (o + 5) 1) d.at_ := by
  obtain ⟨h, e0, e1, e2, e3, e4, e5, e6⟩ := GFrame.unf h
  rwa [sl_sl _ (by decide)] at e5
theorem GFrame.s5 {M : Mm} {cs ws : List Value} {o q : Nat} {d : GFrame} {x : List (Int)} (h : rep M (sl cs o 7) d) (hx : rep M (sl (pt cs q ws) (o + 5) 1) x) (h1 : o + 5 ≤ q) (h2 : q + ws.length ≤ o + 5 + 1) (hl : o + 7 ≤ cs.length) : rep M (sl (pt cs q ws) o 7) { d with at_ := x } := by
  obtain ⟨h, e0, e1, e2, e3, e4, e5, e6⟩ := GFrame.unf h
  exact GFrame.fol ⟨sl_length (by rw [pt_length (by omega)]; exact hl), by rw [sl_sl _ (by decide)] at e0 ⊢; rw [sl_pt_apart (by omega) (by omega)]; exact e0, by rw [sl_sl _ (by decide)] at e1 ⊢; rw [sl_pt_apart (by omega) (by omega)]; exact e1, by rw [sl_sl _ (by decide)] at e2 ⊢; rw [sl_pt_apart (by omega) (by omega)]; exact e2, by rw [sl_sl _ (by decide)] at e3 ⊢; rw [sl_pt_apart (by omega) (by omega)]; exact e3, by rw [sl_sl _ (by decide)] at e4 ⊢; rw [sl_pt_apart (by omega) (by omega)]; exact e4, by rw [sl_sl _ (by decide)]; exact hx, by rw [sl_sl _ (by decide)] at e6 ⊢; rw [sl_pt_apart (by omega) (by omega)]; exact e6⟩
theorem GFrame.w5 {M : Mm} {cs ws : List Value} {d : GFrame} {x : List (Int)} (h : rep M cs d) (hx : rep M ws x) : rep M (pt cs 5 ws) { d with at_ := x } := by
  have hl : cs.length = 7 := Rep.len h
  have hw : ws.length = 1 := Rep.len hx
  exact rep_whole (by rw [pt_length (by omega)]; exact hl) (GFrame.s5 (rep_root (k := 7) rfl h) (by rw [Nat.zero_add]; exact rep_leaf rfl hx (by omega)) (by omega) (by omega) (by omega))
theorem GFrame.p6 {M : Mm} {cs : List Value} {o : Nat} {d : GFrame} (h : rep M (sl cs o 7) d) : rep M (sl cs (o + 6) 1) d.vals := by
  obtain ⟨h, e0, e1, e2, e3, e4, e5, e6⟩ := GFrame.unf h
  rwa [sl_sl _ (by decide)] at e6
theorem GFrame.s6 {M : Mm} {cs ws : List Value} {o q : Nat} {d : GFrame} {x : List (Int)} (h : rep M (sl cs o 7) d) (hx : rep M (sl (pt cs q ws) (o + 6) 1) x) (h1 : o + 6 ≤ q) (h2 : q + ws.length ≤ o + 6 + 1) (hl : o + 7 ≤ cs.length) : rep M (sl (pt cs q ws) o 7) { d with vals := x } := by
  obtain ⟨h, e0, e1, e2, e3, e4, e5, e6⟩ := GFrame.unf h
  exact GFrame.fol ⟨sl_length (by rw [pt_length (by omega)]; exact hl), by rw [sl_sl _ (by decide)] at e0 ⊢; rw [sl_pt_apart (by omega) (by omega)]; exact e0, by rw [sl_sl _ (by decide)] at e1 ⊢; rw [sl_pt_apart (by omega) (by omega)]; exact e1, by rw [sl_sl _ (by decide)] at e2 ⊢; rw [sl_pt_apart (by omega) (by omega)]; exact e2, by rw [sl_sl _ (by decide)] at e3 ⊢; rw [sl_pt_apart (by omega) (by omega)]; exact e3, by rw [sl_sl _ (by decide)] at e4 ⊢; rw [sl_pt_apart (by omega) (by omega)]; exact e4, by rw [sl_sl _ (by decide)] at e5 ⊢; rw [sl_pt_apart (by omega) (by omega)]; exact e5, by rw [sl_sl _ (by decide)]; exact hx⟩
theorem GFrame.w6 {M : Mm} {cs ws : List Value} {d : GFrame} {x : List (Int)} (h : rep M cs d) (hx : rep M ws x) : rep M (pt cs 6 ws) { d with vals := x } := by
  have hl : cs.length = 7 := Rep.len h
  have hw : ws.length = 1 := Rep.len hx
  exact rep_whole (by rw [pt_length (by omega)]; exact hl) (GFrame.s6 (rep_root (k := 7) rfl h) (by rw [Nat.zero_add]; exact rep_leaf rfl hx (by omega)) (by omega) (by omega) (by omega))
instance : Pos GFrame := ⟨by decide⟩
def zGFrame : List Value := Zr.zc (Int) ++ Zr.zc (Int) ++ Zr.zc (Int) ++ Zr.zc (List (GOp)) ++ Zr.zc (List (Int)) ++ Zr.zc (List (Int)) ++ Zr.zc (List (Int))
theorem zGFrame_len : zGFrame.length = 7 := by
  simp only [zGFrame, List.length_append, Rep.len (Zr.zr (α := Int) (M := fun _ => none)), Rep.len (Zr.zr (α := List (GOp)) (M := fun _ => none)), Rep.len (Zr.zr (α := List (Int)) (M := fun _ => none))]
  rfl
instance : Zr GFrame where
  zd := { kind := Zr.zd, node := Zr.zd, id := Zr.zd, ops := Zr.zd, deps := Zr.zd, at_ := Zr.zd, vals := Zr.zd }
  zc := zGFrame
  zr := by
    intro M
    exact GFrame.fol ⟨zGFrame_len, by
      have e : sl zGFrame 0 1 = Zr.zc (Int) := by kernel_rfl
      rw [e]; exact Zr.zr, by
      have e : sl zGFrame 1 1 = Zr.zc (Int) := by kernel_rfl
      rw [e]; exact Zr.zr, by
      have e : sl zGFrame 2 1 = Zr.zc (Int) := by kernel_rfl
      rw [e]; exact Zr.zr, by
      have e : sl zGFrame 3 1 = Zr.zc (List (GOp)) := by kernel_rfl
      rw [e]; exact Zr.zr, by
      have e : sl zGFrame 4 1 = Zr.zc (List (Int)) := by kernel_rfl
      rw [e]; exact Zr.zr, by
      have e : sl zGFrame 5 1 = Zr.zc (List (Int)) := by kernel_rfl
      rw [e]; exact Zr.zr, by
      have e : sl zGFrame 6 1 = Zr.zc (List (Int)) := by kernel_rfl
      rw [e]; exact Zr.zr⟩

structure GEntry where
  state : Int
  ops : List (GOp)
  first : List (Int)
  deps : List (Int)
  at_ : List (Int)
  values : List (Int)

instance instRepGEntry : Rep GEntry where
  k := 6
  bytes := 128
  rep M cs d := cs.length = 6 ∧ rep M (sl cs 0 1) d.state ∧ rep M (sl cs 1 1) d.ops ∧ rep M (sl cs 2 1) d.first ∧ rep M (sl cs 3 1) d.deps ∧ rep M (sl cs 4 1) d.at_ ∧ rep M (sl cs 5 1) d.values
  len h := h.1
  mono hm h := by obtain ⟨h, e0, e1, e2, e3, e4, e5⟩ := h; exact ⟨h, Rep.mono hm e0, Rep.mono hm e1, Rep.mono hm e2, Rep.mono hm e3, Rep.mono hm e4, Rep.mono hm e5⟩
  one h := by
    obtain ⟨h, e0, e1, e2, e3, e4, e5⟩ := h
    intro u hu
    have hu := mem_all h hu
    rcases mem_cut (n := 1) (m := 5) (o' := 1) rfl rfl hu with h0 | hu
    · exact Rep.one e0 u h0
    rcases mem_cut (n := 1) (m := 4) (o' := 2) rfl rfl hu with h1 | hu
    · exact Rep.one e1 u h1
    rcases mem_cut (n := 1) (m := 3) (o' := 3) rfl rfl hu with h2 | hu
    · exact Rep.one e2 u h2
    rcases mem_cut (n := 1) (m := 2) (o' := 4) rfl rfl hu with h3 | hu
    · exact Rep.one e3 u h3
    rcases mem_cut (n := 1) (m := 1) (o' := 5) rfl rfl hu with h4 | hu
    · exact Rep.one e4 u h4
    exact Rep.one e5 u hu

theorem GEntry.unf {M : Mm} {cs : List Value} {d : GEntry} (h : rep M cs d) : cs.length = 6 ∧ rep M (sl cs 0 1) d.state ∧ rep M (sl cs 1 1) d.ops ∧ rep M (sl cs 2 1) d.first ∧ rep M (sl cs 3 1) d.deps ∧ rep M (sl cs 4 1) d.at_ ∧ rep M (sl cs 5 1) d.values := h
theorem GEntry.fol {M : Mm} {cs : List Value} {d : GEntry} (h : cs.length = 6 ∧ rep M (sl cs 0 1) d.state ∧ rep M (sl cs 1 1) d.ops ∧ rep M (sl cs 2 1) d.first ∧ rep M (sl cs 3 1) d.deps ∧ rep M (sl cs 4 1) d.at_ ∧ rep M (sl cs 5 1) d.values) : rep M cs d := h
theorem GEntry.p0 {M : Mm} {cs : List Value} {o : Nat} {d : GEntry} (h : rep M (sl cs o 6) d) : rep M (sl cs (o + 0) 1) d.state := by
  obtain ⟨h, e0, e1, e2, e3, e4, e5⟩ := GEntry.unf h
  rwa [sl_sl _ (by decide)] at e0
theorem GEntry.s0 {M : Mm} {cs ws : List Value} {o q : Nat} {d : GEntry} {x : Int} (h : rep M (sl cs o 6) d) (hx : rep M (sl (pt cs q ws) (o + 0) 1) x) (h1 : o + 0 ≤ q) (h2 : q + ws.length ≤ o + 0 + 1) (hl : o + 6 ≤ cs.length) : rep M (sl (pt cs q ws) o 6) { d with state := x } := by
  obtain ⟨h, e0, e1, e2, e3, e4, e5⟩ := GEntry.unf h
  exact GEntry.fol ⟨sl_length (by rw [pt_length (by omega)]; exact hl), by rw [sl_sl _ (by decide)]; exact hx, by rw [sl_sl _ (by decide)] at e1 ⊢; rw [sl_pt_apart (by omega) (by omega)]; exact e1, by rw [sl_sl _ (by decide)] at e2 ⊢; rw [sl_pt_apart (by omega) (by omega)]; exact e2, by rw [sl_sl _ (by decide)] at e3 ⊢; rw [sl_pt_apart (by omega) (by omega)]; exact e3, by rw [sl_sl _ (by decide)] at e4 ⊢; rw [sl_pt_apart (by omega) (by omega)]; exact e4, by rw [sl_sl _ (by decide)] at e5 ⊢; rw [sl_pt_apart (by omega) (by omega)]; exact e5⟩
theorem GEntry.w0 {M : Mm} {cs ws : List Value} {d : GEntry} {x : Int} (h : rep M cs d) (hx : rep M ws x) : rep M (pt cs 0 ws) { d with state := x } := by
  have hl : cs.length = 6 := Rep.len h
  have hw : ws.length = 1 := Rep.len hx
  exact rep_whole (by rw [pt_length (by omega)]; exact hl) (GEntry.s0 (rep_root (k := 6) rfl h) (by rw [Nat.zero_add]; exact rep_leaf rfl hx (by omega)) (by omega) (by omega) (by omega))
theorem GEntry.p1 {M : Mm} {cs : List Value} {o : Nat} {d : GEntry} (h : rep M (sl cs o 6) d) : rep M (sl cs (o + 1) 1) d.ops := by
  obtain ⟨h, e0, e1, e2, e3, e4, e5⟩ := GEntry.unf h
  rwa [sl_sl _ (by decide)] at e1
theorem GEntry.s1 {M : Mm} {cs ws : List Value} {o q : Nat} {d : GEntry} {x : List (GOp)} (h : rep M (sl cs o 6) d) (hx : rep M (sl (pt cs q ws) (o + 1) 1) x) (h1 : o + 1 ≤ q) (h2 : q + ws.length ≤ o + 1 + 1) (hl : o + 6 ≤ cs.length) : rep M (sl (pt cs q ws) o 6) { d with ops := x } := by
  obtain ⟨h, e0, e1, e2, e3, e4, e5⟩ := GEntry.unf h
  exact GEntry.fol ⟨sl_length (by rw [pt_length (by omega)]; exact hl), by rw [sl_sl _ (by decide)] at e0 ⊢; rw [sl_pt_apart (by omega) (by omega)]; exact e0, by rw [sl_sl _ (by decide)]; exact hx, by rw [sl_sl _ (by decide)] at e2 ⊢; rw [sl_pt_apart (by omega) (by omega)]; exact e2, by rw [sl_sl _ (by decide)] at e3 ⊢; rw [sl_pt_apart (by omega) (by omega)]; exact e3, by rw [sl_sl _ (by decide)] at e4 ⊢; rw [sl_pt_apart (by omega) (by omega)]; exact e4, by rw [sl_sl _ (by decide)] at e5 ⊢; rw [sl_pt_apart (by omega) (by omega)]; exact e5⟩
theorem GEntry.w1 {M : Mm} {cs ws : List Value} {d : GEntry} {x : List (GOp)} (h : rep M cs d) (hx : rep M ws x) : rep M (pt cs 1 ws) { d with ops := x } := by
  have hl : cs.length = 6 := Rep.len h
  have hw : ws.length = 1 := Rep.len hx
  exact rep_whole (by rw [pt_length (by omega)]; exact hl) (GEntry.s1 (rep_root (k := 6) rfl h) (by rw [Nat.zero_add]; exact rep_leaf rfl hx (by omega)) (by omega) (by omega) (by omega))
theorem GEntry.p2 {M : Mm} {cs : List Value} {o : Nat} {d : GEntry} (h : rep M (sl cs o 6) d) : rep M (sl cs (o + 2) 1) d.first := by
  obtain ⟨h, e0, e1, e2, e3, e4, e5⟩ := GEntry.unf h
  rwa [sl_sl _ (by decide)] at e2
theorem GEntry.s2 {M : Mm} {cs ws : List Value} {o q : Nat} {d : GEntry} {x : List (Int)} (h : rep M (sl cs o 6) d) (hx : rep M (sl (pt cs q ws) (o + 2) 1) x) (h1 : o + 2 ≤ q) (h2 : q + ws.length ≤ o + 2 + 1) (hl : o + 6 ≤ cs.length) : rep M (sl (pt cs q ws) o 6) { d with first := x } := by
  obtain ⟨h, e0, e1, e2, e3, e4, e5⟩ := GEntry.unf h
  exact GEntry.fol ⟨sl_length (by rw [pt_length (by omega)]; exact hl), by rw [sl_sl _ (by decide)] at e0 ⊢; rw [sl_pt_apart (by omega) (by omega)]; exact e0, by rw [sl_sl _ (by decide)] at e1 ⊢; rw [sl_pt_apart (by omega) (by omega)]; exact e1, by rw [sl_sl _ (by decide)]; exact hx, by rw [sl_sl _ (by decide)] at e3 ⊢; rw [sl_pt_apart (by omega) (by omega)]; exact e3, by rw [sl_sl _ (by decide)] at e4 ⊢; rw [sl_pt_apart (by omega) (by omega)]; exact e4, by rw [sl_sl _ (by decide)] at e5 ⊢; rw [sl_pt_apart (by omega) (by omega)]; exact e5⟩
theorem GEntry.w2 {M : Mm} {cs ws : List Value} {d : GEntry} {x : List (Int)} (h : rep M cs d) (hx : rep M ws x) : rep M (pt cs 2 ws) { d with first := x } := by
  have hl : cs.length = 6 := Rep.len h
  have hw : ws.length = 1 := Rep.len hx
  exact rep_whole (by rw [pt_length (by omega)]; exact hl) (GEntry.s2 (rep_root (k := 6) rfl h) (by rw [Nat.zero_add]; exact rep_leaf rfl hx (by omega)) (by omega) (by omega) (by omega))
theorem GEntry.p3 {M : Mm} {cs : List Value} {o : Nat} {d : GEntry} (h : rep M (sl cs o 6) d) : rep M (sl cs (o + 3) 1) d.deps := by
  obtain ⟨h, e0, e1, e2, e3, e4, e5⟩ := GEntry.unf h
  rwa [sl_sl _ (by decide)] at e3
theorem GEntry.s3 {M : Mm} {cs ws : List Value} {o q : Nat} {d : GEntry} {x : List (Int)} (h : rep M (sl cs o 6) d) (hx : rep M (sl (pt cs q ws) (o + 3) 1) x) (h1 : o + 3 ≤ q) (h2 : q + ws.length ≤ o + 3 + 1) (hl : o + 6 ≤ cs.length) : rep M (sl (pt cs q ws) o 6) { d with deps := x } := by
  obtain ⟨h, e0, e1, e2, e3, e4, e5⟩ := GEntry.unf h
  exact GEntry.fol ⟨sl_length (by rw [pt_length (by omega)]; exact hl), by rw [sl_sl _ (by decide)] at e0 ⊢; rw [sl_pt_apart (by omega) (by omega)]; exact e0, by rw [sl_sl _ (by decide)] at e1 ⊢; rw [sl_pt_apart (by omega) (by omega)]; exact e1, by rw [sl_sl _ (by decide)] at e2 ⊢; rw [sl_pt_apart (by omega) (by omega)]; exact e2, by rw [sl_sl _ (by decide)]; exact hx, by rw [sl_sl _ (by decide)] at e4 ⊢; rw [sl_pt_apart (by omega) (by omega)]; exact e4, by rw [sl_sl _ (by decide)] at e5 ⊢; rw [sl_pt_apart (by omega) (by omega)]; exact e5⟩
theorem GEntry.w3 {M : Mm} {cs ws : List Value} {d : GEntry} {x : List (Int)} (h : rep M cs d) (hx : rep M ws x) : rep M (pt cs 3 ws) { d with deps := x } := by
  have hl : cs.length = 6 := Rep.len h
  have hw : ws.length = 1 := Rep.len hx
  exact rep_whole (by rw [pt_length (by omega)]; exact hl) (GEntry.s3 (rep_root (k := 6) rfl h) (by rw [Nat.zero_add]; exact rep_leaf rfl hx (by omega)) (by omega) (by omega) (by omega))
theorem GEntry.p4 {M : Mm} {cs : List Value} {o : Nat} {d : GEntry} (h : rep M (sl cs o 6) d) : rep M (sl cs (o + 4) 1) d.at_ := by
  obtain ⟨h, e0, e1, e2, e3, e4, e5⟩ := GEntry.unf h
  rwa [sl_sl _ (by decide)] at e4
theorem GEntry.s4 {M : Mm} {cs ws : List Value} {o q : Nat} {d : GEntry} {x : List (Int)} (h : rep M (sl cs o 6) d) (hx : rep M (sl (pt cs q ws) (o + 4) 1) x) (h1 : o + 4 ≤ q) (h2 : q + ws.length ≤ o + 4 + 1) (hl : o + 6 ≤ cs.length) : rep M (sl (pt cs q ws) o 6) { d with at_ := x } := by
  obtain ⟨h, e0, e1, e2, e3, e4, e5⟩ := GEntry.unf h
  exact GEntry.fol ⟨sl_length (by rw [pt_length (by omega)]; exact hl), by rw [sl_sl _ (by decide)] at e0 ⊢; rw [sl_pt_apart (by omega) (by omega)]; exact e0, by rw [sl_sl _ (by decide)] at e1 ⊢; rw [sl_pt_apart (by omega) (by omega)]; exact e1, by rw [sl_sl _ (by decide)] at e2 ⊢; rw [sl_pt_apart (by omega) (by omega)]; exact e2, by rw [sl_sl _ (by decide)] at e3 ⊢; rw [sl_pt_apart (by omega) (by omega)]; exact e3, by rw [sl_sl _ (by decide)]; exact hx, by rw [sl_sl _ (by decide)] at e5 ⊢; rw [sl_pt_apart (by omega) (by omega)]; exact e5⟩
theorem GEntry.w4 {M : Mm} {cs ws : List Value} {d : GEntry} {x : List (Int)} (h : rep M cs d) (hx : rep M ws x) : rep M (pt cs 4 ws) { d with at_ := x } := by
  have hl : cs.length = 6 := Rep.len h
  have hw : ws.length = 1 := Rep.len hx
  exact rep_whole (by rw [pt_length (by omega)]; exact hl) (GEntry.s4 (rep_root (k := 6) rfl h) (by rw [Nat.zero_add]; exact rep_leaf rfl hx (by omega)) (by omega) (by omega) (by omega))
theorem GEntry.p5 {M : Mm} {cs : List Value} {o : Nat} {d : GEntry} (h : rep M (sl cs o 6) d) : rep M (sl cs (o + 5) 1) d.values := by
  obtain ⟨h, e0, e1, e2, e3, e4, e5⟩ := GEntry.unf h
  rwa [sl_sl _ (by decide)] at e5
theorem GEntry.s5 {M : Mm} {cs ws : List Value} {o q : Nat} {d : GEntry} {x : List (Int)} (h : rep M (sl cs o 6) d) (hx : rep M (sl (pt cs q ws) (o + 5) 1) x) (h1 : o + 5 ≤ q) (h2 : q + ws.length ≤ o + 5 + 1) (hl : o + 6 ≤ cs.length) : rep M (sl (pt cs q ws) o 6) { d with values := x } := by
  obtain ⟨h, e0, e1, e2, e3, e4, e5⟩ := GEntry.unf h
  exact GEntry.fol ⟨sl_length (by rw [pt_length (by omega)]; exact hl), by rw [sl_sl _ (by decide)] at e0 ⊢; rw [sl_pt_apart (by omega) (by omega)]; exact e0, by rw [sl_sl _ (by decide)] at e1 ⊢; rw [sl_pt_apart (by omega) (by omega)]; exact e1, by rw [sl_sl _ (by decide)] at e2 ⊢; rw [sl_pt_apart (by omega) (by omega)]; exact e2, by rw [sl_sl _ (by decide)] at e3 ⊢; rw [sl_pt_apart (by omega) (by omega)]; exact e3, by rw [sl_sl _ (by decide)] at e4 ⊢; rw [sl_pt_apart (by omega) (by omega)]; exact e4, by rw [sl_sl _ (by decide)]; exact hx⟩
theorem GEntry.w5 {M : Mm} {cs ws : List Value} {d : GEntry} {x : List (Int)} (h : rep M cs d) (hx : rep M ws x) : rep M (pt cs 5 ws) { d with values := x } := by
  have hl : cs.length = 6 := Rep.len h
  have hw : ws.length = 1 := Rep.len hx
  exact rep_whole (by rw [pt_length (by omega)]; exact hl) (GEntry.s5 (rep_root (k := 6) rfl h) (by rw [Nat.zero_add]; exact rep_leaf rfl hx (by omega)) (by omega) (by omega) (by omega))
instance : Pos GEntry := ⟨by decide⟩
def zGEntry : List Value := Zr.zc (Int) ++ Zr.zc (List (GOp)) ++ Zr.zc (List (Int)) ++ Zr.zc (List (Int)) ++ Zr.zc (List (Int)) ++ Zr.zc (List (Int))
theorem zGEntry_len : zGEntry.length = 6 := by
  simp only [zGEntry, List.length_append, Rep.len (Zr.zr (α := Int) (M := fun _ => none)), Rep.len (Zr.zr (α := List (GOp)) (M := fun _ => none)), Rep.len (Zr.zr (α := List (Int)) (M := fun _ => none))]
  rfl
instance : Zr GEntry where
  zd := { state := Zr.zd, ops := Zr.zd, first := Zr.zd, deps := Zr.zd, at_ := Zr.zd, values := Zr.zd }
  zc := zGEntry
  zr := by
    intro M
    exact GEntry.fol ⟨zGEntry_len, by
      have e : sl zGEntry 0 1 = Zr.zc (Int) := by kernel_rfl
      rw [e]; exact Zr.zr, by
      have e : sl zGEntry 1 1 = Zr.zc (List (GOp)) := by kernel_rfl
      rw [e]; exact Zr.zr, by
      have e : sl zGEntry 2 1 = Zr.zc (List (Int)) := by kernel_rfl
      rw [e]; exact Zr.zr, by
      have e : sl zGEntry 3 1 = Zr.zc (List (Int)) := by kernel_rfl
      rw [e]; exact Zr.zr, by
      have e : sl zGEntry 4 1 = Zr.zc (List (Int)) := by kernel_rfl
      rw [e]; exact Zr.zr, by
      have e : sl zGEntry 5 1 = Zr.zc (List (Int)) := by kernel_rfl
      rw [e]; exact Zr.zr⟩

structure GNode where
  entries : Vector (GEntry) 32
  order : List (Int)
  values : Vector (Int) 8

instance instRepGNode : Rep GNode where
  k := 201
  bytes := 4184
  rep M cs d := cs.length = 201 ∧ rep M (sl cs 0 192) d.entries ∧ rep M (sl cs 192 1) d.order ∧ rep M (sl cs 193 8) d.values
  len h := h.1
  mono hm h := by obtain ⟨h, e0, e1, e2⟩ := h; exact ⟨h, Rep.mono hm e0, Rep.mono hm e1, Rep.mono hm e2⟩
  one h := by
    obtain ⟨h, e0, e1, e2⟩ := h
    intro u hu
    have hu := mem_all h hu
    rcases mem_cut (n := 192) (m := 9) (o' := 192) rfl rfl hu with h0 | hu
    · exact Rep.one e0 u h0
    rcases mem_cut (n := 1) (m := 8) (o' := 193) rfl rfl hu with h1 | hu
    · exact Rep.one e1 u h1
    exact Rep.one e2 u hu

theorem GNode.unf {M : Mm} {cs : List Value} {d : GNode} (h : rep M cs d) : cs.length = 201 ∧ rep M (sl cs 0 192) d.entries ∧ rep M (sl cs 192 1) d.order ∧ rep M (sl cs 193 8) d.values := h
theorem GNode.fol {M : Mm} {cs : List Value} {d : GNode} (h : cs.length = 201 ∧ rep M (sl cs 0 192) d.entries ∧ rep M (sl cs 192 1) d.order ∧ rep M (sl cs 193 8) d.values) : rep M cs d := h
theorem GNode.p0 {M : Mm} {cs : List Value} {o : Nat} {d : GNode} (h : rep M (sl cs o 201) d) : rep M (sl cs (o + 0) 192) d.entries := by
  obtain ⟨h, e0, e1, e2⟩ := GNode.unf h
  rwa [sl_sl _ (by decide)] at e0
theorem GNode.s0 {M : Mm} {cs ws : List Value} {o q : Nat} {d : GNode} {x : Vector (GEntry) 32} (h : rep M (sl cs o 201) d) (hx : rep M (sl (pt cs q ws) (o + 0) 192) x) (h1 : o + 0 ≤ q) (h2 : q + ws.length ≤ o + 0 + 192) (hl : o + 201 ≤ cs.length) : rep M (sl (pt cs q ws) o 201) { d with entries := x } := by
  obtain ⟨h, e0, e1, e2⟩ := GNode.unf h
  exact GNode.fol ⟨sl_length (by rw [pt_length (by omega)]; exact hl), by rw [sl_sl _ (by decide)]; exact hx, by rw [sl_sl _ (by decide)] at e1 ⊢; rw [sl_pt_apart (by omega) (by omega)]; exact e1, by rw [sl_sl _ (by decide)] at e2 ⊢; rw [sl_pt_apart (by omega) (by omega)]; exact e2⟩
theorem GNode.w0 {M : Mm} {cs ws : List Value} {d : GNode} {x : Vector (GEntry) 32} (h : rep M cs d) (hx : rep M ws x) : rep M (pt cs 0 ws) { d with entries := x } := by
  have hl : cs.length = 201 := Rep.len h
  have hw : ws.length = 192 := Rep.len hx
  exact rep_whole (by rw [pt_length (by omega)]; exact hl) (GNode.s0 (rep_root (k := 201) rfl h) (by rw [Nat.zero_add]; exact rep_leaf rfl hx (by omega)) (by omega) (by omega) (by omega))
theorem GNode.p1 {M : Mm} {cs : List Value} {o : Nat} {d : GNode} (h : rep M (sl cs o 201) d) : rep M (sl cs (o + 192) 1) d.order := by
  obtain ⟨h, e0, e1, e2⟩ := GNode.unf h
  rwa [sl_sl _ (by decide)] at e1
theorem GNode.s1 {M : Mm} {cs ws : List Value} {o q : Nat} {d : GNode} {x : List (Int)} (h : rep M (sl cs o 201) d) (hx : rep M (sl (pt cs q ws) (o + 192) 1) x) (h1 : o + 192 ≤ q) (h2 : q + ws.length ≤ o + 192 + 1) (hl : o + 201 ≤ cs.length) : rep M (sl (pt cs q ws) o 201) { d with order := x } := by
  obtain ⟨h, e0, e1, e2⟩ := GNode.unf h
  exact GNode.fol ⟨sl_length (by rw [pt_length (by omega)]; exact hl), by rw [sl_sl _ (by decide)] at e0 ⊢; rw [sl_pt_apart (by omega) (by omega)]; exact e0, by rw [sl_sl _ (by decide)]; exact hx, by rw [sl_sl _ (by decide)] at e2 ⊢; rw [sl_pt_apart (by omega) (by omega)]; exact e2⟩
theorem GNode.w1 {M : Mm} {cs ws : List Value} {d : GNode} {x : List (Int)} (h : rep M cs d) (hx : rep M ws x) : rep M (pt cs 192 ws) { d with order := x } := by
  have hl : cs.length = 201 := Rep.len h
  have hw : ws.length = 1 := Rep.len hx
  exact rep_whole (by rw [pt_length (by omega)]; exact hl) (GNode.s1 (rep_root (k := 201) rfl h) (by rw [Nat.zero_add]; exact rep_leaf rfl hx (by omega)) (by omega) (by omega) (by omega))
theorem GNode.p2 {M : Mm} {cs : List Value} {o : Nat} {d : GNode} (h : rep M (sl cs o 201) d) : rep M (sl cs (o + 193) 8) d.values := by
  obtain ⟨h, e0, e1, e2⟩ := GNode.unf h
  rwa [sl_sl _ (by decide)] at e2
theorem GNode.s2 {M : Mm} {cs ws : List Value} {o q : Nat} {d : GNode} {x : Vector (Int) 8} (h : rep M (sl cs o 201) d) (hx : rep M (sl (pt cs q ws) (o + 193) 8) x) (h1 : o + 193 ≤ q) (h2 : q + ws.length ≤ o + 193 + 8) (hl : o + 201 ≤ cs.length) : rep M (sl (pt cs q ws) o 201) { d with values := x } := by
  obtain ⟨h, e0, e1, e2⟩ := GNode.unf h
  exact GNode.fol ⟨sl_length (by rw [pt_length (by omega)]; exact hl), by rw [sl_sl _ (by decide)] at e0 ⊢; rw [sl_pt_apart (by omega) (by omega)]; exact e0, by rw [sl_sl _ (by decide)] at e1 ⊢; rw [sl_pt_apart (by omega) (by omega)]; exact e1, by rw [sl_sl _ (by decide)]; exact hx⟩
theorem GNode.w2 {M : Mm} {cs ws : List Value} {d : GNode} {x : Vector (Int) 8} (h : rep M cs d) (hx : rep M ws x) : rep M (pt cs 193 ws) { d with values := x } := by
  have hl : cs.length = 201 := Rep.len h
  have hw : ws.length = 8 := Rep.len hx
  exact rep_whole (by rw [pt_length (by omega)]; exact hl) (GNode.s2 (rep_root (k := 201) rfl h) (by rw [Nat.zero_add]; exact rep_leaf rfl hx (by omega)) (by omega) (by omega) (by omega))
instance : Pos GNode := ⟨by decide⟩
def zGNode : List Value := Zr.zc (Vector (GEntry) 32) ++ Zr.zc (List (Int)) ++ Zr.zc (Vector (Int) 8)
theorem zGNode_len : zGNode.length = 201 := by
  simp only [zGNode, List.length_append, Rep.len (Zr.zr (α := Vector (GEntry) 32) (M := fun _ => none)), Rep.len (Zr.zr (α := List (Int)) (M := fun _ => none)), Rep.len (Zr.zr (α := Vector (Int) 8) (M := fun _ => none))]
  rfl
instance : Zr GNode where
  zd := { entries := Zr.zd, order := Zr.zd, values := Zr.zd }
  zc := zGNode
  zr := by
    intro M
    exact GNode.fol ⟨zGNode_len, by
      have e : sl zGNode 0 192 = Zr.zc (Vector (GEntry) 32) := by kernel_rfl
      rw [e]; exact Zr.zr, by
      have e : sl zGNode 192 1 = Zr.zc (List (Int)) := by kernel_rfl
      rw [e]; exact Zr.zr, by
      have e : sl zGNode 193 8 = Zr.zc (Vector (Int) 8) := by kernel_rfl
      rw [e]; exact Zr.zr⟩

structure GGraph where
  known : Vector (Bool) 32
  deps : Vector (List (Int)) 32

instance instRepGGraph : Rep GGraph where
  k := 64
  bytes := 800
  rep M cs d := cs.length = 64 ∧ rep M (sl cs 0 32) d.known ∧ rep M (sl cs 32 32) d.deps
  len h := h.1
  mono hm h := by obtain ⟨h, e0, e1⟩ := h; exact ⟨h, Rep.mono hm e0, Rep.mono hm e1⟩
  one h := by
    obtain ⟨h, e0, e1⟩ := h
    intro u hu
    have hu := mem_all h hu
    rcases mem_cut (n := 32) (m := 32) (o' := 32) rfl rfl hu with h0 | hu
    · exact Rep.one e0 u h0
    exact Rep.one e1 u hu

theorem GGraph.unf {M : Mm} {cs : List Value} {d : GGraph} (h : rep M cs d) : cs.length = 64 ∧ rep M (sl cs 0 32) d.known ∧ rep M (sl cs 32 32) d.deps := h
theorem GGraph.fol {M : Mm} {cs : List Value} {d : GGraph} (h : cs.length = 64 ∧ rep M (sl cs 0 32) d.known ∧ rep M (sl cs 32 32) d.deps) : rep M cs d := h
theorem GGraph.p0 {M : Mm} {cs : List Value} {o : Nat} {d : GGraph} (h : rep M (sl cs o 64) d) : rep M (sl cs (o + 0) 32) d.known := by
  obtain ⟨h, e0, e1⟩ := GGraph.unf h
  rwa [sl_sl _ (by decide)] at e0
theorem GGraph.s0 {M : Mm} {cs ws : List Value} {o q : Nat} {d : GGraph} {x : Vector (Bool) 32} (h : rep M (sl cs o 64) d) (hx : rep M (sl (pt cs q ws) (o + 0) 32) x) (h1 : o + 0 ≤ q) (h2 : q + ws.length ≤ o + 0 + 32) (hl : o + 64 ≤ cs.length) : rep M (sl (pt cs q ws) o 64) { d with known := x } := by
  obtain ⟨h, e0, e1⟩ := GGraph.unf h
  exact GGraph.fol ⟨sl_length (by rw [pt_length (by omega)]; exact hl), by rw [sl_sl _ (by decide)]; exact hx, by rw [sl_sl _ (by decide)] at e1 ⊢; rw [sl_pt_apart (by omega) (by omega)]; exact e1⟩
theorem GGraph.w0 {M : Mm} {cs ws : List Value} {d : GGraph} {x : Vector (Bool) 32} (h : rep M cs d) (hx : rep M ws x) : rep M (pt cs 0 ws) { d with known := x } := by
  have hl : cs.length = 64 := Rep.len h
  have hw : ws.length = 32 := Rep.len hx
  exact rep_whole (by rw [pt_length (by omega)]; exact hl) (GGraph.s0 (rep_root (k := 64) rfl h) (by rw [Nat.zero_add]; exact rep_leaf rfl hx (by omega)) (by omega) (by omega) (by omega))
theorem GGraph.p1 {M : Mm} {cs : List Value} {o : Nat} {d : GGraph} (h : rep M (sl cs o 64) d) : rep M (sl cs (o + 32) 32) d.deps := by
  obtain ⟨h, e0, e1⟩ := GGraph.unf h
  rwa [sl_sl _ (by decide)] at e1
theorem GGraph.s1 {M : Mm} {cs ws : List Value} {o q : Nat} {d : GGraph} {x : Vector (List (Int)) 32} (h : rep M (sl cs o 64) d) (hx : rep M (sl (pt cs q ws) (o + 32) 32) x) (h1 : o + 32 ≤ q) (h2 : q + ws.length ≤ o + 32 + 32) (hl : o + 64 ≤ cs.length) : rep M (sl (pt cs q ws) o 64) { d with deps := x } := by
  obtain ⟨h, e0, e1⟩ := GGraph.unf h
  exact GGraph.fol ⟨sl_length (by rw [pt_length (by omega)]; exact hl), by rw [sl_sl _ (by decide)] at e0 ⊢; rw [sl_pt_apart (by omega) (by omega)]; exact e0, by rw [sl_sl _ (by decide)]; exact hx⟩
theorem GGraph.w1 {M : Mm} {cs ws : List Value} {d : GGraph} {x : Vector (List (Int)) 32} (h : rep M cs d) (hx : rep M ws x) : rep M (pt cs 32 ws) { d with deps := x } := by
  have hl : cs.length = 64 := Rep.len h
  have hw : ws.length = 32 := Rep.len hx
  exact rep_whole (by rw [pt_length (by omega)]; exact hl) (GGraph.s1 (rep_root (k := 64) rfl h) (by rw [Nat.zero_add]; exact rep_leaf rfl hx (by omega)) (by omega) (by omega) (by omega))
instance : Pos GGraph := ⟨by decide⟩
def zGGraph : List Value := Zr.zc (Vector (Bool) 32) ++ Zr.zc (Vector (List (Int)) 32)
theorem zGGraph_len : zGGraph.length = 64 := by
  simp only [zGGraph, List.length_append, Rep.len (Zr.zr (α := Vector (Bool) 32) (M := fun _ => none)), Rep.len (Zr.zr (α := Vector (List (Int)) 32) (M := fun _ => none))]
  rfl
instance : Zr GGraph where
  zd := { known := Zr.zd, deps := Zr.zd }
  zc := zGGraph
  zr := by
    intro M
    exact GGraph.fol ⟨zGGraph_len, by
      have e : sl zGGraph 0 32 = Zr.zc (Vector (Bool) 32) := by kernel_rfl
      rw [e]; exact Zr.zr, by
      have e : sl zGGraph 32 32 = Zr.zc (Vector (List (Int)) 32) := by kernel_rfl
      rw [e]; exact Zr.zr⟩

structure GReader where
  s : ByteArray
  bad : Bool

instance instRepGReader : Rep GReader where
  k := 2
  bytes := 24
  rep M cs d := cs.length = 2 ∧ rep M (sl cs 0 1) d.s ∧ rep M (sl cs 1 1) d.bad
  len h := h.1
  mono hm h := by obtain ⟨h, e0, e1⟩ := h; exact ⟨h, Rep.mono hm e0, Rep.mono hm e1⟩
  one h := by
    obtain ⟨h, e0, e1⟩ := h
    intro u hu
    have hu := mem_all h hu
    rcases mem_cut (n := 1) (m := 1) (o' := 1) rfl rfl hu with h0 | hu
    · exact Rep.one e0 u h0
    exact Rep.one e1 u hu

theorem GReader.unf {M : Mm} {cs : List Value} {d : GReader} (h : rep M cs d) : cs.length = 2 ∧ rep M (sl cs 0 1) d.s ∧ rep M (sl cs 1 1) d.bad := h
theorem GReader.fol {M : Mm} {cs : List Value} {d : GReader} (h : cs.length = 2 ∧ rep M (sl cs 0 1) d.s ∧ rep M (sl cs 1 1) d.bad) : rep M cs d := h
theorem GReader.p0 {M : Mm} {cs : List Value} {o : Nat} {d : GReader} (h : rep M (sl cs o 2) d) : rep M (sl cs (o + 0) 1) d.s := by
  obtain ⟨h, e0, e1⟩ := GReader.unf h
  rwa [sl_sl _ (by decide)] at e0
theorem GReader.s0 {M : Mm} {cs ws : List Value} {o q : Nat} {d : GReader} {x : ByteArray} (h : rep M (sl cs o 2) d) (hx : rep M (sl (pt cs q ws) (o + 0) 1) x) (h1 : o + 0 ≤ q) (h2 : q + ws.length ≤ o + 0 + 1) (hl : o + 2 ≤ cs.length) : rep M (sl (pt cs q ws) o 2) { d with s := x } := by
  obtain ⟨h, e0, e1⟩ := GReader.unf h
  exact GReader.fol ⟨sl_length (by rw [pt_length (by omega)]; exact hl), by rw [sl_sl _ (by decide)]; exact hx, by rw [sl_sl _ (by decide)] at e1 ⊢; rw [sl_pt_apart (by omega) (by omega)]; exact e1⟩
theorem GReader.w0 {M : Mm} {cs ws : List Value} {d : GReader} {x : ByteArray} (h : rep M cs d) (hx : rep M ws x) : rep M (pt cs 0 ws) { d with s := x } := by
  have hl : cs.length = 2 := Rep.len h
  have hw : ws.length = 1 := Rep.len hx
  exact rep_whole (by rw [pt_length (by omega)]; exact hl) (GReader.s0 (rep_root (k := 2) rfl h) (by rw [Nat.zero_add]; exact rep_leaf rfl hx (by omega)) (by omega) (by omega) (by omega))
theorem GReader.p1 {M : Mm} {cs : List Value} {o : Nat} {d : GReader} (h : rep M (sl cs o 2) d) : rep M (sl cs (o + 1) 1) d.bad := by
  obtain ⟨h, e0, e1⟩ := GReader.unf h
  rwa [sl_sl _ (by decide)] at e1
theorem GReader.s1 {M : Mm} {cs ws : List Value} {o q : Nat} {d : GReader} {x : Bool} (h : rep M (sl cs o 2) d) (hx : rep M (sl (pt cs q ws) (o + 1) 1) x) (h1 : o + 1 ≤ q) (h2 : q + ws.length ≤ o + 1 + 1) (hl : o + 2 ≤ cs.length) : rep M (sl (pt cs q ws) o 2) { d with bad := x } := by
  obtain ⟨h, e0, e1⟩ := GReader.unf h
  exact GReader.fol ⟨sl_length (by rw [pt_length (by omega)]; exact hl), by rw [sl_sl _ (by decide)] at e0 ⊢; rw [sl_pt_apart (by omega) (by omega)]; exact e0, by rw [sl_sl _ (by decide)]; exact hx⟩
theorem GReader.w1 {M : Mm} {cs ws : List Value} {d : GReader} {x : Bool} (h : rep M cs d) (hx : rep M ws x) : rep M (pt cs 1 ws) { d with bad := x } := by
  have hl : cs.length = 2 := Rep.len h
  have hw : ws.length = 1 := Rep.len hx
  exact rep_whole (by rw [pt_length (by omega)]; exact hl) (GReader.s1 (rep_root (k := 2) rfl h) (by rw [Nat.zero_add]; exact rep_leaf rfl hx (by omega)) (by omega) (by omega) (by omega))
instance : Pos GReader := ⟨by decide⟩
def zGReader : List Value := Zr.zc (ByteArray) ++ Zr.zc (Bool)
theorem zGReader_len : zGReader.length = 2 := by
  simp only [zGReader, List.length_append, Rep.len (Zr.zr (α := ByteArray) (M := fun _ => none)), Rep.len (Zr.zr (α := Bool) (M := fun _ => none))]
  rfl
instance : Zr GReader where
  zd := { s := Zr.zd, bad := Zr.zd }
  zc := zGReader
  zr := by
    intro M
    exact GReader.fol ⟨zGReader_len, by
      have e : sl zGReader 0 1 = Zr.zc (ByteArray) := by kernel_rfl
      rw [e]; exact Zr.zr, by
      have e : sl zGReader 1 1 = Zr.zc (Bool) := by kernel_rfl
      rw [e]; exact Zr.zr⟩

structure GSearch where
  g : GGraph
  mark_ : Vector (Int) 32
  low : Vector (Int) 32
  on_ : Vector (Bool) 32
  stack : Hole
  ring : Vector (Int) 32
  next : Int

instance instRepGSearch : Rep GSearch where
  k := 194
  bytes := 1632
  rep M cs d := cs.length = 194 ∧ rep M (sl cs 0 64) d.g ∧ rep M (sl cs 64 32) d.mark_ ∧ rep M (sl cs 96 32) d.low ∧ rep M (sl cs 128 32) d.on_ ∧ rep M (sl cs 160 1) d.stack ∧ rep M (sl cs 161 32) d.ring ∧ rep M (sl cs 193 1) d.next
  len h := h.1
  mono hm h := by obtain ⟨h, e0, e1, e2, e3, e4, e5, e6⟩ := h; exact ⟨h, Rep.mono hm e0, Rep.mono hm e1, Rep.mono hm e2, Rep.mono hm e3, Rep.mono hm e4, Rep.mono hm e5, Rep.mono hm e6⟩
  one h := by
    obtain ⟨h, e0, e1, e2, e3, e4, e5, e6⟩ := h
    intro u hu
    have hu := mem_all h hu
    rcases mem_cut (n := 64) (m := 130) (o' := 64) rfl rfl hu with h0 | hu
    · exact Rep.one e0 u h0
    rcases mem_cut (n := 32) (m := 98) (o' := 96) rfl rfl hu with h1 | hu
    · exact Rep.one e1 u h1
    rcases mem_cut (n := 32) (m := 66) (o' := 128) rfl rfl hu with h2 | hu
    · exact Rep.one e2 u h2
    rcases mem_cut (n := 32) (m := 34) (o' := 160) rfl rfl hu with h3 | hu
    · exact Rep.one e3 u h3
    rcases mem_cut (n := 1) (m := 33) (o' := 161) rfl rfl hu with h4 | hu
    · exact Rep.one e4 u h4
    rcases mem_cut (n := 32) (m := 1) (o' := 193) rfl rfl hu with h5 | hu
    · exact Rep.one e5 u h5
    exact Rep.one e6 u hu

theorem GSearch.unf {M : Mm} {cs : List Value} {d : GSearch} (h : rep M cs d) : cs.length = 194 ∧ rep M (sl cs 0 64) d.g ∧ rep M (sl cs 64 32) d.mark_ ∧ rep M (sl cs 96 32) d.low ∧ rep M (sl cs 128 32) d.on_ ∧ rep M (sl cs 160 1) d.stack ∧ rep M (sl cs 161 32) d.ring ∧ rep M (sl cs 193 1) d.next := h
theorem GSearch.fol {M : Mm} {cs : List Value} {d : GSearch} (h : cs.length = 194 ∧ rep M (sl cs 0 64) d.g ∧ rep M (sl cs 64 32) d.mark_ ∧ rep M (sl cs 96 32) d.low ∧ rep M (sl cs 128 32) d.on_ ∧ rep M (sl cs 160 1) d.stack ∧ rep M (sl cs 161 32) d.ring ∧ rep M (sl cs 193 1) d.next) : rep M cs d := h
theorem GSearch.p0 {M : Mm} {cs : List Value} {o : Nat} {d : GSearch} (h : rep M (sl cs o 194) d) : rep M (sl cs (o + 0) 64) d.g := by
  obtain ⟨h, e0, e1, e2, e3, e4, e5, e6⟩ := GSearch.unf h
  rwa [sl_sl _ (by decide)] at e0
theorem GSearch.s0 {M : Mm} {cs ws : List Value} {o q : Nat} {d : GSearch} {x : GGraph} (h : rep M (sl cs o 194) d) (hx : rep M (sl (pt cs q ws) (o + 0) 64) x) (h1 : o + 0 ≤ q) (h2 : q + ws.length ≤ o + 0 + 64) (hl : o + 194 ≤ cs.length) : rep M (sl (pt cs q ws) o 194) { d with g := x } := by
  obtain ⟨h, e0, e1, e2, e3, e4, e5, e6⟩ := GSearch.unf h
  exact GSearch.fol ⟨sl_length (by rw [pt_length (by omega)]; exact hl), by rw [sl_sl _ (by decide)]; exact hx, by rw [sl_sl _ (by decide)] at e1 ⊢; rw [sl_pt_apart (by omega) (by omega)]; exact e1, by rw [sl_sl _ (by decide)] at e2 ⊢; rw [sl_pt_apart (by omega) (by omega)]; exact e2, by rw [sl_sl _ (by decide)] at e3 ⊢; rw [sl_pt_apart (by omega) (by omega)]; exact e3, by rw [sl_sl _ (by decide)] at e4 ⊢; rw [sl_pt_apart (by omega) (by omega)]; exact e4, by rw [sl_sl _ (by decide)] at e5 ⊢; rw [sl_pt_apart (by omega) (by omega)]; exact e5, by rw [sl_sl _ (by decide)] at e6 ⊢; rw [sl_pt_apart (by omega) (by omega)]; exact e6⟩
theorem GSearch.w0 {M : Mm} {cs ws : List Value} {d : GSearch} {x : GGraph} (h : rep M cs d) (hx : rep M ws x) : rep M (pt cs 0 ws) { d with g := x } := by
  have hl : cs.length = 194 := Rep.len h
  have hw : ws.length = 64 := Rep.len hx
  exact rep_whole (by rw [pt_length (by omega)]; exact hl) (GSearch.s0 (rep_root (k := 194) rfl h) (by rw [Nat.zero_add]; exact rep_leaf rfl hx (by omega)) (by omega) (by omega) (by omega))
theorem GSearch.p1 {M : Mm} {cs : List Value} {o : Nat} {d : GSearch} (h : rep M (sl cs o 194) d) : rep M (sl cs (o + 64) 32) d.mark_ := by
  obtain ⟨h, e0, e1, e2, e3, e4, e5, e6⟩ := GSearch.unf h
  rwa [sl_sl _ (by decide)] at e1
theorem GSearch.s1 {M : Mm} {cs ws : List Value} {o q : Nat} {d : GSearch} {x : Vector (Int) 32} (h : rep M (sl cs o 194) d) (hx : rep M (sl (pt cs q ws) (o + 64) 32) x) (h1 : o + 64 ≤ q) (h2 : q + ws.length ≤ o + 64 + 32) (hl : o + 194 ≤ cs.length) : rep M (sl (pt cs q ws) o 194) { d with mark_ := x } := by
  obtain ⟨h, e0, e1, e2, e3, e4, e5, e6⟩ := GSearch.unf h
  exact GSearch.fol ⟨sl_length (by rw [pt_length (by omega)]; exact hl), by rw [sl_sl _ (by decide)] at e0 ⊢; rw [sl_pt_apart (by omega) (by omega)]; exact e0, by rw [sl_sl _ (by decide)]; exact hx, by rw [sl_sl _ (by decide)] at e2 ⊢; rw [sl_pt_apart (by omega) (by omega)]; exact e2, by rw [sl_sl _ (by decide)] at e3 ⊢; rw [sl_pt_apart (by omega) (by omega)]; exact e3, by rw [sl_sl _ (by decide)] at e4 ⊢; rw [sl_pt_apart (by omega) (by omega)]; exact e4, by rw [sl_sl _ (by decide)] at e5 ⊢; rw [sl_pt_apart (by omega) (by omega)]; exact e5, by rw [sl_sl _ (by decide)] at e6 ⊢; rw [sl_pt_apart (by omega) (by omega)]; exact e6⟩
theorem GSearch.w1 {M : Mm} {cs ws : List Value} {d : GSearch} {x : Vector (Int) 32} (h : rep M cs d) (hx : rep M ws x) : rep M (pt cs 64 ws) { d with mark_ := x } := by
  have hl : cs.length = 194 := Rep.len h
  have hw : ws.length = 32 := Rep.len hx
  exact rep_whole (by rw [pt_length (by omega)]; exact hl) (GSearch.s1 (rep_root (k := 194) rfl h) (by rw [Nat.zero_add]; exact rep_leaf rfl hx (by omega)) (by omega) (by omega) (by omega))
theorem GSearch.p2 {M : Mm} {cs : List Value} {o : Nat} {d : GSearch} (h : rep M (sl cs o 194) d) : rep M (sl cs (o + 96) 32) d.low := by
  obtain ⟨h, e0, e1, e2, e3, e4, e5, e6⟩ := GSearch.unf h
  rwa [sl_sl _ (by decide)] at e2
theorem GSearch.s2 {M : Mm} {cs ws : List Value} {o q : Nat} {d : GSearch} {x : Vector (Int) 32} (h : rep M (sl cs o 194) d) (hx : rep M (sl (pt cs q ws) (o + 96) 32) x) (h1 : o + 96 ≤ q) (h2 : q + ws.length ≤ o + 96 + 32) (hl : o + 194 ≤ cs.length) : rep M (sl (pt cs q ws) o 194) { d with low := x } := by
  obtain ⟨h, e0, e1, e2, e3, e4, e5, e6⟩ := GSearch.unf h
  exact GSearch.fol ⟨sl_length (by rw [pt_length (by omega)]; exact hl), by rw [sl_sl _ (by decide)] at e0 ⊢; rw [sl_pt_apart (by omega) (by omega)]; exact e0, by rw [sl_sl _ (by decide)] at e1 ⊢; rw [sl_pt_apart (by omega) (by omega)]; exact e1, by rw [sl_sl _ (by decide)]; exact hx, by rw [sl_sl _ (by decide)] at e3 ⊢; rw [sl_pt_apart (by omega) (by omega)]; exact e3, by rw [sl_sl _ (by decide)] at e4 ⊢; rw [sl_pt_apart (by omega) (by omega)]; exact e4, by rw [sl_sl _ (by decide)] at e5 ⊢; rw [sl_pt_apart (by omega) (by omega)]; exact e5, by rw [sl_sl _ (by decide)] at e6 ⊢; rw [sl_pt_apart (by omega) (by omega)]; exact e6⟩
theorem GSearch.w2 {M : Mm} {cs ws : List Value} {d : GSearch} {x : Vector (Int) 32} (h : rep M cs d) (hx : rep M ws x) : rep M (pt cs 96 ws) { d with low := x } := by
  have hl : cs.length = 194 := Rep.len h
  have hw : ws.length = 32 := Rep.len hx
  exact rep_whole (by rw [pt_length (by omega)]; exact hl) (GSearch.s2 (rep_root (k := 194) rfl h) (by rw [Nat.zero_add]; exact rep_leaf rfl hx (by omega)) (by omega) (by omega) (by omega))
theorem GSearch.p3 {M : Mm} {cs : List Value} {o : Nat} {d : GSearch} (h : rep M (sl cs o 194) d) : rep M (sl cs (o + 128) 32) d.on_ := by
  obtain ⟨h, e0, e1, e2, e3, e4, e5, e6⟩ := GSearch.unf h
  rwa [sl_sl _ (by decide)] at e3
theorem GSearch.s3 {M : Mm} {cs ws : List Value} {o q : Nat} {d : GSearch} {x : Vector (Bool) 32} (h : rep M (sl cs o 194) d) (hx : rep M (sl (pt cs q ws) (o + 128) 32) x) (h1 : o + 128 ≤ q) (h2 : q + ws.length ≤ o + 128 + 32) (hl : o + 194 ≤ cs.length) : rep M (sl (pt cs q ws) o 194) { d with on_ := x } := by
  obtain ⟨h, e0, e1, e2, e3, e4, e5, e6⟩ := GSearch.unf h
  exact GSearch.fol ⟨sl_length (by rw [pt_length (by omega)]; exact hl), by rw [sl_sl _ (by decide)] at e0 ⊢; rw [sl_pt_apart (by omega) (by omega)]; exact e0, by rw [sl_sl _ (by decide)] at e1 ⊢; rw [sl_pt_apart (by omega) (by omega)]; exact e1, by rw [sl_sl _ (by decide)] at e2 ⊢; rw [sl_pt_apart (by omega) (by omega)]; exact e2, by rw [sl_sl _ (by decide)]; exact hx, by rw [sl_sl _ (by decide)] at e4 ⊢; rw [sl_pt_apart (by omega) (by omega)]; exact e4, by rw [sl_sl _ (by decide)] at e5 ⊢; rw [sl_pt_apart (by omega) (by omega)]; exact e5, by rw [sl_sl _ (by decide)] at e6 ⊢; rw [sl_pt_apart (by omega) (by omega)]; exact e6⟩
theorem GSearch.w3 {M : Mm} {cs ws : List Value} {d : GSearch} {x : Vector (Bool) 32} (h : rep M cs d) (hx : rep M ws x) : rep M (pt cs 128 ws) { d with on_ := x } := by
  have hl : cs.length = 194 := Rep.len h
  have hw : ws.length = 32 := Rep.len hx
  exact rep_whole (by rw [pt_length (by omega)]; exact hl) (GSearch.s3 (rep_root (k := 194) rfl h) (by rw [Nat.zero_add]; exact rep_leaf rfl hx (by omega)) (by omega) (by omega) (by omega))
theorem GSearch.p4 {M : Mm} {cs : List Value} {o : Nat} {d : GSearch} (h : rep M (sl cs o 194) d) : rep M (sl cs (o + 160) 1) d.stack := by
  obtain ⟨h, e0, e1, e2, e3, e4, e5, e6⟩ := GSearch.unf h
  rwa [sl_sl _ (by decide)] at e4
theorem GSearch.s4 {M : Mm} {cs ws : List Value} {o q : Nat} {d : GSearch} {x : Hole} (h : rep M (sl cs o 194) d) (hx : rep M (sl (pt cs q ws) (o + 160) 1) x) (h1 : o + 160 ≤ q) (h2 : q + ws.length ≤ o + 160 + 1) (hl : o + 194 ≤ cs.length) : rep M (sl (pt cs q ws) o 194) { d with stack := x } := by
  obtain ⟨h, e0, e1, e2, e3, e4, e5, e6⟩ := GSearch.unf h
  exact GSearch.fol ⟨sl_length (by rw [pt_length (by omega)]; exact hl), by rw [sl_sl _ (by decide)] at e0 ⊢; rw [sl_pt_apart (by omega) (by omega)]; exact e0, by rw [sl_sl _ (by decide)] at e1 ⊢; rw [sl_pt_apart (by omega) (by omega)]; exact e1, by rw [sl_sl _ (by decide)] at e2 ⊢; rw [sl_pt_apart (by omega) (by omega)]; exact e2, by rw [sl_sl _ (by decide)] at e3 ⊢; rw [sl_pt_apart (by omega) (by omega)]; exact e3, by rw [sl_sl _ (by decide)]; exact hx, by rw [sl_sl _ (by decide)] at e5 ⊢; rw [sl_pt_apart (by omega) (by omega)]; exact e5, by rw [sl_sl _ (by decide)] at e6 ⊢; rw [sl_pt_apart (by omega) (by omega)]; exact e6⟩
theorem GSearch.w4 {M : Mm} {cs ws : List Value} {d : GSearch} {x : Hole} (h : rep M cs d) (hx : rep M ws x) : rep M (pt cs 160 ws) { d with stack := x } := by
  have hl : cs.length = 194 := Rep.len h
  have hw : ws.length = 1 := Rep.len hx
  exact rep_whole (by rw [pt_length (by omega)]; exact hl) (GSearch.s4 (rep_root (k := 194) rfl h) (by rw [Nat.zero_add]; exact rep_leaf rfl hx (by omega)) (by omega) (by omega) (by omega))
theorem GSearch.p5 {M : Mm} {cs : List Value} {o : Nat} {d : GSearch} (h : rep M (sl cs o 194) d) : rep M (sl cs (o + 161) 32) d.ring := by
  obtain ⟨h, e0, e1, e2, e3, e4, e5, e6⟩ := GSearch.unf h
  rwa [sl_sl _ (by decide)] at e5
theorem GSearch.s5 {M : Mm} {cs ws : List Value} {o q : Nat} {d : GSearch} {x : Vector (Int) 32} (h : rep M (sl cs o 194) d) (hx : rep M (sl (pt cs q ws) (o + 161) 32) x) (h1 : o + 161 ≤ q) (h2 : q + ws.length ≤ o + 161 + 32) (hl : o + 194 ≤ cs.length) : rep M (sl (pt cs q ws) o 194) { d with ring := x } := by
  obtain ⟨h, e0, e1, e2, e3, e4, e5, e6⟩ := GSearch.unf h
  exact GSearch.fol ⟨sl_length (by rw [pt_length (by omega)]; exact hl), by rw [sl_sl _ (by decide)] at e0 ⊢; rw [sl_pt_apart (by omega) (by omega)]; exact e0, by rw [sl_sl _ (by decide)] at e1 ⊢; rw [sl_pt_apart (by omega) (by omega)]; exact e1, by rw [sl_sl _ (by decide)] at e2 ⊢; rw [sl_pt_apart (by omega) (by omega)]; exact e2, by rw [sl_sl _ (by decide)] at e3 ⊢; rw [sl_pt_apart (by omega) (by omega)]; exact e3, by rw [sl_sl _ (by decide)] at e4 ⊢; rw [sl_pt_apart (by omega) (by omega)]; exact e4, by rw [sl_sl _ (by decide)]; exact hx, by rw [sl_sl _ (by decide)] at e6 ⊢; rw [sl_pt_apart (by omega) (by omega)]; exact e6⟩
theorem GSearch.w5 {M : Mm} {cs ws : List Value} {d : GSearch} {x : Vector (Int) 32} (h : rep M cs d) (hx : rep M ws x) : rep M (pt cs 161 ws) { d with ring := x } := by
  have hl : cs.length = 194 := Rep.len h
  have hw : ws.length = 32 := Rep.len hx
  exact rep_whole (by rw [pt_length (by omega)]; exact hl) (GSearch.s5 (rep_root (k := 194) rfl h) (by rw [Nat.zero_add]; exact rep_leaf rfl hx (by omega)) (by omega) (by omega) (by omega))
theorem GSearch.p6 {M : Mm} {cs : List Value} {o : Nat} {d : GSearch} (h : rep M (sl cs o 194) d) : rep M (sl cs (o + 193) 1) d.next := by
  obtain ⟨h, e0, e1, e2, e3, e4, e5, e6⟩ := GSearch.unf h
  rwa [sl_sl _ (by decide)] at e6
theorem GSearch.s6 {M : Mm} {cs ws : List Value} {o q : Nat} {d : GSearch} {x : Int} (h : rep M (sl cs o 194) d) (hx : rep M (sl (pt cs q ws) (o + 193) 1) x) (h1 : o + 193 ≤ q) (h2 : q + ws.length ≤ o + 193 + 1) (hl : o + 194 ≤ cs.length) : rep M (sl (pt cs q ws) o 194) { d with next := x } := by
  obtain ⟨h, e0, e1, e2, e3, e4, e5, e6⟩ := GSearch.unf h
  exact GSearch.fol ⟨sl_length (by rw [pt_length (by omega)]; exact hl), by rw [sl_sl _ (by decide)] at e0 ⊢; rw [sl_pt_apart (by omega) (by omega)]; exact e0, by rw [sl_sl _ (by decide)] at e1 ⊢; rw [sl_pt_apart (by omega) (by omega)]; exact e1, by rw [sl_sl _ (by decide)] at e2 ⊢; rw [sl_pt_apart (by omega) (by omega)]; exact e2, by rw [sl_sl _ (by decide)] at e3 ⊢; rw [sl_pt_apart (by omega) (by omega)]; exact e3, by rw [sl_sl _ (by decide)] at e4 ⊢; rw [sl_pt_apart (by omega) (by omega)]; exact e4, by rw [sl_sl _ (by decide)] at e5 ⊢; rw [sl_pt_apart (by omega) (by omega)]; exact e5, by rw [sl_sl _ (by decide)]; exact hx⟩
theorem GSearch.w6 {M : Mm} {cs ws : List Value} {d : GSearch} {x : Int} (h : rep M cs d) (hx : rep M ws x) : rep M (pt cs 193 ws) { d with next := x } := by
  have hl : cs.length = 194 := Rep.len h
  have hw : ws.length = 1 := Rep.len hx
  exact rep_whole (by rw [pt_length (by omega)]; exact hl) (GSearch.s6 (rep_root (k := 194) rfl h) (by rw [Nat.zero_add]; exact rep_leaf rfl hx (by omega)) (by omega) (by omega) (by omega))
instance : Pos GSearch := ⟨by decide⟩
def zGSearch : List Value := Zr.zc (GGraph) ++ Zr.zc (Vector (Int) 32) ++ Zr.zc (Vector (Int) 32) ++ Zr.zc (Vector (Bool) 32) ++ Zr.zc (Hole) ++ Zr.zc (Vector (Int) 32) ++ Zr.zc (Int)
theorem zGSearch_len : zGSearch.length = 194 := by
  simp only [zGSearch, List.length_append, Rep.len (Zr.zr (α := GGraph) (M := fun _ => none)), Rep.len (Zr.zr (α := Vector (Int) 32) (M := fun _ => none)), Rep.len (Zr.zr (α := Vector (Bool) 32) (M := fun _ => none)), Rep.len (Zr.zr (α := Hole) (M := fun _ => none)), Rep.len (Zr.zr (α := Int) (M := fun _ => none))]
  rfl
instance : Zr GSearch where
  zd := { g := Zr.zd, mark_ := Zr.zd, low := Zr.zd, on_ := Zr.zd, stack := Zr.zd, ring := Zr.zd, next := Zr.zd }
  zc := zGSearch
  zr := by
    intro M
    exact GSearch.fol ⟨zGSearch_len, by
      have e : sl zGSearch 0 64 = Zr.zc (GGraph) := by kernel_rfl
      rw [e]; exact Zr.zr, by
      have e : sl zGSearch 64 32 = Zr.zc (Vector (Int) 32) := by kernel_rfl
      rw [e]; exact Zr.zr, by
      have e : sl zGSearch 96 32 = Zr.zc (Vector (Int) 32) := by kernel_rfl
      rw [e]; exact Zr.zr, by
      have e : sl zGSearch 128 32 = Zr.zc (Vector (Bool) 32) := by kernel_rfl
      rw [e]; exact Zr.zr, by
      have e : sl zGSearch 160 1 = Zr.zc (Hole) := by kernel_rfl
      rw [e]; exact Zr.zr, by
      have e : sl zGSearch 161 32 = Zr.zc (Vector (Int) 32) := by kernel_rfl
      rw [e]; exact Zr.zr, by
      have e : sl zGSearch 193 1 = Zr.zc (Int) := by kernel_rfl
      rw [e]; exact Zr.zr⟩

theorem ts3 : TS Try.prog 3 := ⟨_, Try.underlying3, rfl⟩
theorem ts4 : TS Try.prog 4 := ⟨_, Try.underlying4, rfl⟩
theorem ts5 : TS Try.prog 5 := ⟨_, Try.underlying5, rfl⟩
theorem ts9 : TS Try.prog 9 := ⟨_, Try.underlying9, rfl⟩
theorem ts22 : TS Try.prog 22 := ⟨_, Try.underlying22, rfl⟩
theorem il22 : IL Try.prog 22 3 := ⟨_, Try.underlying22, by kernel_rfl⟩
theorem tp22 : TP Try.prog 22 78 3 24 := tp_of Try.underlying22 (by kernel_rfl) (by decide) (by decide)
theorem tl22 : TL Try.prog 22 3 := tl_of tp22
theorem ta24 : TA Try.prog 24 2 := ⟨_, Try.underlying24, rfl, by kernel_rfl⟩
theorem tz24 : TZ Try.prog 24 (Zr.zc GTxn) := tz_of (by kernel_rfl)
theorem fa24_0 : FA Try.prog 24 0 0 := ⟨_, _, 0, Try.underlying24, rfl, by kernel_rfl, rfl⟩
theorem fa24_1 : FA Try.prog 24 1 1 := ⟨_, _, 0, Try.underlying24, rfl, by kernel_rfl, rfl⟩
theorem tb24 : TB Try.prog 24 (Zr.zc GTxn) [(0, 1), (1, 1)] := tb_of Try.underlying24 tz24 (by kernel_rfl)
theorem ts25 : TS Try.prog 25 := ⟨_, Try.underlying25, rfl⟩
theorem il25 : IL Try.prog 25 7 := ⟨_, Try.underlying25, by kernel_rfl⟩
theorem tp25 : TP Try.prog 25 38 7 120 := tp_of Try.underlying25 (by kernel_rfl) (by decide) (by decide)
theorem tl25 : TL Try.prog 25 7 := tl_of tp25
theorem ta26 : TA Try.prog 26 6 := ⟨_, Try.underlying26, rfl, by kernel_rfl⟩
theorem tz26 : TZ Try.prog 26 (Zr.zc (Vector (Bool) 6)) := tz_of (by kernel_rfl)
theorem ia26 : IA Try.prog 26 6 1 := ⟨_, Try.underlying26, by kernel_rfl⟩
theorem iv26 : IV1 Try.prog 26 6 := ⟨_, Try.underlying26, by kernel_rfl, _, Try.underlying4, rfl⟩
theorem ts27 : TS Try.prog 27 := ⟨_, Try.underlying27, rfl⟩
theorem il27 : IL Try.prog 27 1 := ⟨_, Try.underlying27, by kernel_rfl⟩
theorem tp27 : TP Try.prog 27 3 1 8 := tp_of Try.underlying27 (by kernel_rfl) (by decide) (by decide)
theorem tl27 : TL Try.prog 27 1 := tl_of tp27
theorem ta28 : TA Try.prog 28 4 := ⟨_, Try.underlying28, rfl, by kernel_rfl⟩
theorem tz28 : TZ Try.prog 28 (Zr.zc (Vector (Bool) 4)) := tz_of (by kernel_rfl)
theorem ia28 : IA Try.prog 28 4 1 := ⟨_, Try.underlying28, by kernel_rfl⟩
theorem iv28 : IV1 Try.prog 28 4 := ⟨_, Try.underlying28, by kernel_rfl, _, Try.underlying4, rfl⟩
theorem ta29 : TA Try.prog 29 4 := ⟨_, Try.underlying29, rfl, by kernel_rfl⟩
theorem tz29 : TZ Try.prog 29 (Zr.zc (Vector (Int) 4)) := tz_of (by kernel_rfl)
theorem ia29 : IA Try.prog 29 4 1 := ⟨_, Try.underlying29, by kernel_rfl⟩
theorem iv29 : IV1 Try.prog 29 4 := ⟨_, Try.underlying29, by kernel_rfl, _, Try.underlying3, rfl⟩
theorem ta31 : TA Try.prog 31 24 := ⟨_, Try.underlying31, rfl, by kernel_rfl⟩
theorem tz31 : TZ Try.prog 31 (Zr.zc GCase) := tz_of (by kernel_rfl)
theorem fa31_0 : FA Try.prog 31 0 0 := ⟨_, _, 0, Try.underlying31, rfl, by kernel_rfl, rfl⟩
theorem fa31_1 : FA Try.prog 31 1 1 := ⟨_, _, 0, Try.underlying31, rfl, by kernel_rfl, rfl⟩
theorem fa31_2 : FA Try.prog 31 2 2 := ⟨_, _, 0, Try.underlying31, rfl, by kernel_rfl, rfl⟩
theorem fa31_3 : FA Try.prog 31 3 3 := ⟨_, _, 5, Try.underlying31, rfl, by kernel_rfl, rfl⟩
theorem fa31_4 : FA Try.prog 31 4 9 := ⟨_, _, 5, Try.underlying31, rfl, by kernel_rfl, rfl⟩
theorem fa31_5 : FA Try.prog 31 5 15 := ⟨_, _, 0, Try.underlying31, rfl, by kernel_rfl, rfl⟩
theorem fa31_6 : FA Try.prog 31 6 16 := ⟨_, _, 3, Try.underlying31, rfl, by kernel_rfl, rfl⟩
theorem fa31_7 : FA Try.prog 31 7 20 := ⟨_, _, 3, Try.underlying31, rfl, by kernel_rfl, rfl⟩
theorem tb31 : TB Try.prog 31 (Zr.zc GCase) [(0, 1), (1, 1), (2, 1), (3, 6), (9, 6), (15, 1), (16, 4), (20, 4)] := tb_of Try.underlying31 tz31 (by kernel_rfl)
theorem ts32 : TS Try.prog 32 := ⟨_, Try.underlying32, rfl⟩
theorem ta38 : TA Try.prog 38 7 := ⟨_, Try.underlying38, rfl, by kernel_rfl⟩
theorem tz38 : TZ Try.prog 38 (Zr.zc GFrame) := tz_of (by kernel_rfl)
theorem fa38_0 : FA Try.prog 38 0 0 := ⟨_, _, 0, Try.underlying38, rfl, by kernel_rfl, rfl⟩
theorem fa38_1 : FA Try.prog 38 1 1 := ⟨_, _, 0, Try.underlying38, rfl, by kernel_rfl, rfl⟩
theorem fa38_2 : FA Try.prog 38 2 2 := ⟨_, _, 0, Try.underlying38, rfl, by kernel_rfl, rfl⟩
theorem fa38_3 : FA Try.prog 38 3 3 := ⟨_, _, 0, Try.underlying38, rfl, by kernel_rfl, rfl⟩
theorem fa38_4 : FA Try.prog 38 4 4 := ⟨_, _, 0, Try.underlying38, rfl, by kernel_rfl, rfl⟩
theorem fa38_5 : FA Try.prog 38 5 5 := ⟨_, _, 0, Try.underlying38, rfl, by kernel_rfl, rfl⟩
theorem fa38_6 : FA Try.prog 38 6 6 := ⟨_, _, 0, Try.underlying38, rfl, by kernel_rfl, rfl⟩
theorem tb38 : TB Try.prog 38 (Zr.zc GFrame) [(0, 1), (1, 1), (2, 1), (3, 1), (4, 1), (5, 1), (6, 1)] := tb_of Try.underlying38 tz38 (by kernel_rfl)
theorem ta44 : TA Try.prog 44 6 := ⟨_, Try.underlying44, rfl, by kernel_rfl⟩
theorem tz44 : TZ Try.prog 44 (Zr.zc GEntry) := tz_of (by kernel_rfl)
theorem fa44_0 : FA Try.prog 44 0 0 := ⟨_, _, 0, Try.underlying44, rfl, by kernel_rfl, rfl⟩
theorem fa44_1 : FA Try.prog 44 1 1 := ⟨_, _, 0, Try.underlying44, rfl, by kernel_rfl, rfl⟩
theorem fa44_2 : FA Try.prog 44 2 2 := ⟨_, _, 0, Try.underlying44, rfl, by kernel_rfl, rfl⟩
theorem fa44_3 : FA Try.prog 44 3 3 := ⟨_, _, 0, Try.underlying44, rfl, by kernel_rfl, rfl⟩
theorem fa44_4 : FA Try.prog 44 4 4 := ⟨_, _, 0, Try.underlying44, rfl, by kernel_rfl, rfl⟩
theorem fa44_5 : FA Try.prog 44 5 5 := ⟨_, _, 0, Try.underlying44, rfl, by kernel_rfl, rfl⟩
theorem tb44 : TB Try.prog 44 (Zr.zc GEntry) [(0, 1), (1, 1), (2, 1), (3, 1), (4, 1), (5, 1)] := tb_of Try.underlying44 tz44 (by kernel_rfl)
theorem ta45 : TA Try.prog 45 192 := ⟨_, Try.underlying45, rfl, by kernel_rfl⟩
theorem tz45 : TZ Try.prog 45 (Zr.zc (Vector (GEntry) 32)) := tz_of (by kernel_rfl)
theorem ia45 : IA Try.prog 45 32 6 := ⟨_, Try.underlying45, by kernel_rfl⟩
theorem iv45 : IVn Try.prog 45 32 6 := ⟨_, Try.underlying45, by kernel_rfl, _, Try.underlying44, rfl, by kernel_rfl⟩
theorem ta46 : TA Try.prog 46 8 := ⟨_, Try.underlying46, rfl, by kernel_rfl⟩
theorem tz46 : TZ Try.prog 46 (Zr.zc (Vector (Int) 8)) := tz_of (by kernel_rfl)
theorem ia46 : IA Try.prog 46 8 1 := ⟨_, Try.underlying46, by kernel_rfl⟩
theorem iv46 : IV1 Try.prog 46 8 := ⟨_, Try.underlying46, by kernel_rfl, _, Try.underlying3, rfl⟩
theorem ta48 : TA Try.prog 48 201 := ⟨_, Try.underlying48, rfl, by kernel_rfl⟩
theorem tz48 : TZ Try.prog 48 (Zr.zc GNode) := tz_of (by kernel_rfl)
theorem fa48_0 : FA Try.prog 48 0 0 := ⟨_, _, 191, Try.underlying48, rfl, by kernel_rfl, rfl⟩
theorem fa48_1 : FA Try.prog 48 1 192 := ⟨_, _, 0, Try.underlying48, rfl, by kernel_rfl, rfl⟩
theorem fa48_2 : FA Try.prog 48 2 193 := ⟨_, _, 7, Try.underlying48, rfl, by kernel_rfl, rfl⟩
theorem tb48 : TB Try.prog 48 (Zr.zc GNode) [(0, 192), (192, 1), (193, 8)] := tb_of Try.underlying48 tz48 (by kernel_rfl)
theorem ta61 : TA Try.prog 61 32 := ⟨_, Try.underlying61, rfl, by kernel_rfl⟩
theorem tz61 : TZ Try.prog 61 (Zr.zc (Vector (Bool) 32)) := tz_of (by kernel_rfl)
theorem ia61 : IA Try.prog 61 32 1 := ⟨_, Try.underlying61, by kernel_rfl⟩
theorem iv61 : IV1 Try.prog 61 32 := ⟨_, Try.underlying61, by kernel_rfl, _, Try.underlying4, rfl⟩
theorem ta62 : TA Try.prog 62 32 := ⟨_, Try.underlying62, rfl, by kernel_rfl⟩
theorem tz62 : TZ Try.prog 62 (Zr.zc (Vector (List (Int)) 32)) := tz_of (by kernel_rfl)
theorem ia62 : IA Try.prog 62 32 1 := ⟨_, Try.underlying62, by kernel_rfl⟩
theorem iv62 : IV1 Try.prog 62 32 := ⟨_, Try.underlying62, by kernel_rfl, _, Try.underlying27, rfl⟩
theorem ta64 : TA Try.prog 64 64 := ⟨_, Try.underlying64, rfl, by kernel_rfl⟩
theorem tz64 : TZ Try.prog 64 (Zr.zc GGraph) := tz_of (by kernel_rfl)
theorem fa64_0 : FA Try.prog 64 0 0 := ⟨_, _, 31, Try.underlying64, rfl, by kernel_rfl, rfl⟩
theorem fa64_1 : FA Try.prog 64 1 32 := ⟨_, _, 31, Try.underlying64, rfl, by kernel_rfl, rfl⟩
theorem tb64 : TB Try.prog 64 (Zr.zc GGraph) [(0, 32), (32, 32)] := tb_of Try.underlying64 tz64 (by kernel_rfl)
theorem ta66 : TA Try.prog 66 32 := ⟨_, Try.underlying66, rfl, by kernel_rfl⟩
theorem tz66 : TZ Try.prog 66 (Zr.zc (Vector (Int) 32)) := tz_of (by kernel_rfl)
theorem ia66 : IA Try.prog 66 32 1 := ⟨_, Try.underlying66, by kernel_rfl⟩
theorem iv66 : IV1 Try.prog 66 32 := ⟨_, Try.underlying66, by kernel_rfl, _, Try.underlying3, rfl⟩
theorem ts69 : TS Try.prog 69 := ⟨_, Try.underlying69, rfl⟩
theorem il69 : IL Try.prog 69 1 := ⟨_, Try.underlying69, by kernel_rfl⟩
theorem tp69 : TP Try.prog 69 9 1 16 := tp_of Try.underlying69 (by kernel_rfl) (by decide) (by decide)
theorem tl69 : TL Try.prog 69 1 := tl_of tp69
theorem ta78 : TA Try.prog 78 3 := ⟨_, Try.underlying78, rfl, by kernel_rfl⟩
theorem tz78 : TZ Try.prog 78 (Zr.zc GOp) := tz_of (by kernel_rfl)
theorem fa78_0 : FA Try.prog 78 0 0 := ⟨_, _, 0, Try.underlying78, rfl, by kernel_rfl, rfl⟩
theorem fa78_1 : FA Try.prog 78 1 1 := ⟨_, _, 0, Try.underlying78, rfl, by kernel_rfl, rfl⟩
theorem fa78_2 : FA Try.prog 78 2 2 := ⟨_, _, 0, Try.underlying78, rfl, by kernel_rfl, rfl⟩
theorem tb78 : TB Try.prog 78 (Zr.zc GOp) [(0, 1), (1, 1), (2, 1)] := tb_of Try.underlying78 tz78 (by kernel_rfl)
theorem ts98 : TS Try.prog 98 := ⟨_, Try.underlying98, rfl⟩
theorem il98 : IL Try.prog 98 1 := ⟨_, Try.underlying98, by kernel_rfl⟩
theorem tp98 : TP Try.prog 98 5 1 1 := tp_of Try.underlying98 (by kernel_rfl) (by decide) (by decide)
theorem tl98 : TL Try.prog 98 1 := tl_of tp98
theorem ta100 : TA Try.prog 100 8 := ⟨_, Try.underlying100, rfl, by kernel_rfl⟩
theorem tz100 : TZ Try.prog 100 (Zr.zc (Vector (Bool) 8)) := tz_of (by kernel_rfl)
theorem ia100 : IA Try.prog 100 8 1 := ⟨_, Try.underlying100, by kernel_rfl⟩
theorem iv100 : IV1 Try.prog 100 8 := ⟨_, Try.underlying100, by kernel_rfl, _, Try.underlying4, rfl⟩
theorem ta102 : TA Try.prog 102 2 := ⟨_, Try.underlying102, rfl, by kernel_rfl⟩
theorem tz102 : TZ Try.prog 102 (Zr.zc (Vector (List (Int)) 2)) := tz_of (by kernel_rfl)
theorem ia102 : IA Try.prog 102 2 1 := ⟨_, Try.underlying102, by kernel_rfl⟩
theorem iv102 : IV1 Try.prog 102 2 := ⟨_, Try.underlying102, by kernel_rfl, _, Try.underlying27, rfl⟩
theorem ta106 : TA Try.prog 106 1024 := ⟨_, Try.underlying106, rfl, by kernel_rfl⟩
theorem tz106 : TZ Try.prog 106 (Zr.zc (Vector (Vector (Bool) 32) 32)) := tz_of (by kernel_rfl)
theorem ia106 : IA Try.prog 106 32 32 := ⟨_, Try.underlying106, by kernel_rfl⟩
theorem iv106 : IVn Try.prog 106 32 32 := ⟨_, Try.underlying106, by kernel_rfl, _, Try.underlying61, rfl, by kernel_rfl⟩
theorem ta110 : TA Try.prog 110 2 := ⟨_, Try.underlying110, rfl, by kernel_rfl⟩
theorem tz110 : TZ Try.prog 110 (Zr.zc GReader) := tz_of (by kernel_rfl)
theorem fa110_0 : FA Try.prog 110 0 0 := ⟨_, _, 0, Try.underlying110, rfl, by kernel_rfl, rfl⟩
theorem fa110_1 : FA Try.prog 110 1 1 := ⟨_, _, 0, Try.underlying110, rfl, by kernel_rfl, rfl⟩
theorem tb110 : TB Try.prog 110 (Zr.zc GReader) [(0, 1), (1, 1)] := tb_of Try.underlying110 tz110 (by kernel_rfl)
theorem ts114 : TS Try.prog 114 := ⟨_, Try.underlying114, rfl⟩
theorem ta117 : TA Try.prog 117 194 := ⟨_, Try.underlying117, rfl, by kernel_rfl⟩
theorem tz117 : TZ Try.prog 117 (Zr.zc GSearch) := tz_of (by kernel_rfl)
theorem fa117_0 : FA Try.prog 117 0 0 := ⟨_, _, 63, Try.underlying117, rfl, by kernel_rfl, rfl⟩
theorem fa117_1 : FA Try.prog 117 1 64 := ⟨_, _, 31, Try.underlying117, rfl, by kernel_rfl, rfl⟩
theorem fa117_2 : FA Try.prog 117 2 96 := ⟨_, _, 31, Try.underlying117, rfl, by kernel_rfl, rfl⟩
theorem fa117_3 : FA Try.prog 117 3 128 := ⟨_, _, 31, Try.underlying117, rfl, by kernel_rfl, rfl⟩
theorem fa117_4 : FA Try.prog 117 4 160 := ⟨_, _, 0, Try.underlying117, rfl, by kernel_rfl, rfl⟩
theorem fa117_5 : FA Try.prog 117 5 161 := ⟨_, _, 31, Try.underlying117, rfl, by kernel_rfl, rfl⟩
theorem fa117_6 : FA Try.prog 117 6 193 := ⟨_, _, 0, Try.underlying117, rfl, by kernel_rfl, rfl⟩
theorem tb117 : TB Try.prog 117 (Zr.zc GSearch) [(0, 64), (64, 32), (96, 32), (128, 32), (160, 1), (161, 32), (193, 1)] := tb_of Try.underlying117 tz117 (by kernel_rfl)
theorem cb2 : CB Try.prog 2 := cb_any (by kernel_rfl)
theorem cb3 : CB Try.prog 3 := cb_any (by kernel_rfl)
theorem cb4 : CB Try.prog 4 := cb_any (by kernel_rfl)
theorem cb5 : CB Try.prog 5 := cb_any (by kernel_rfl)
theorem cb6 : CB Try.prog 6 := cb_any (by kernel_rfl)
theorem cb7 : CB Try.prog 7 := cb_any (by kernel_rfl)
theorem cb8 : CB Try.prog 8 := cb_any (by kernel_rfl)
theorem cb9 : CB Try.prog 9 := cb_any (by kernel_rfl)
theorem cb10 : CB Try.prog 10 := cb_any (by kernel_rfl)
theorem cb11 : CB Try.prog 11 := cb_any (by kernel_rfl)
theorem cb12 : CB Try.prog 12 := cb_any (by kernel_rfl)
theorem cb13 : CB Try.prog 13 := cb_any (by kernel_rfl)
theorem cb14 : CB Try.prog 14 := cb_any (by kernel_rfl)
theorem cb15 : CB Try.prog 15 := cb_any (by kernel_rfl)
theorem cb16 : CB Try.prog 16 := cb_any (by kernel_rfl)
theorem cb17 : CB Try.prog 17 := cb_any (by kernel_rfl)
theorem cb18 : CB Try.prog 18 := cb_any (by kernel_rfl)
theorem cb19 : CB Try.prog 19 := cb_any (by kernel_rfl)
theorem cb20 : CB Try.prog 20 := cb_any (by kernel_rfl)
theorem cb21 : CB Try.prog 21 := cb_any (by kernel_rfl)
theorem cb22 : CB Try.prog 22 := cb_any (by kernel_rfl)
theorem cb23 : CB Try.prog 23 := cb_any (by kernel_rfl)
theorem cb24 : CB Try.prog 24 := cb_any (by kernel_rfl)
theorem cb25 : CB Try.prog 25 := cb_any (by kernel_rfl)
theorem cb26 : CB Try.prog 26 := cb_any (by kernel_rfl)
theorem cb27 : CB Try.prog 27 := cb_any (by kernel_rfl)
theorem cb28 : CB Try.prog 28 := cb_any (by kernel_rfl)
theorem cb29 : CB Try.prog 29 := cb_any (by kernel_rfl)
theorem cb30 : CB Try.prog 30 := cb_any (by kernel_rfl)
theorem cb31 : CB Try.prog 31 := cb_any (by kernel_rfl)
theorem cb32 : CB Try.prog 32 := cb_any (by kernel_rfl)
theorem cb33 : CB Try.prog 33 := cb_any (by kernel_rfl)
theorem cb34 : CB Try.prog 34 := cb_any (by kernel_rfl)
theorem cb35 : CB Try.prog 35 := cb_any (by kernel_rfl)
theorem cb36 : CB Try.prog 36 := cb_any (by kernel_rfl)
theorem cb37 : CB Try.prog 37 := cb_any (by kernel_rfl)
theorem cb38 : CB Try.prog 38 := cb_any (by kernel_rfl)
theorem cb39 : CB Try.prog 39 := cb_any (by kernel_rfl)
theorem cb40 : CB Try.prog 40 := cb_any (by kernel_rfl)
theorem cb41 : CB Try.prog 41 := cb_any (by kernel_rfl)
theorem cb42 : CB Try.prog 42 := cb_any (by kernel_rfl)
theorem cb43 : CB Try.prog 43 := cb_any (by kernel_rfl)
theorem cb44 : CB Try.prog 44 := cb_any (by kernel_rfl)
theorem cb45 : CB Try.prog 45 := cb_any (by kernel_rfl)
theorem cb46 : CB Try.prog 46 := cb_any (by kernel_rfl)
theorem cb47 : CB Try.prog 47 := cb_any (by kernel_rfl)
theorem cb48 : CB Try.prog 48 := cb_any (by kernel_rfl)
theorem cb49 : CB Try.prog 49 := cb_any (by kernel_rfl)
theorem cb50 : CB Try.prog 50 := cb_any (by kernel_rfl)
theorem cb51 : CB Try.prog 51 := cb_any (by kernel_rfl)
theorem cb52 : CB Try.prog 52 := cb_any (by kernel_rfl)
theorem cb53 : CB Try.prog 53 := cb_any (by kernel_rfl)
theorem cb54 : CB Try.prog 54 := cb_any (by kernel_rfl)
theorem cb55 : CB Try.prog 55 := cb_any (by kernel_rfl)
theorem cb56 : CB Try.prog 56 := cb_any (by kernel_rfl)
theorem cb57 : CB Try.prog 57 := cb_any (by kernel_rfl)
theorem cb58 : CB Try.prog 58 := cb_any (by kernel_rfl)
theorem cb59 : CB Try.prog 59 := cb_any (by kernel_rfl)
theorem cb60 : CB Try.prog 60 := cb_any (by kernel_rfl)
theorem cb61 : CB Try.prog 61 := cb_any (by kernel_rfl)
theorem cb62 : CB Try.prog 62 := cb_any (by kernel_rfl)
theorem cb63 : CB Try.prog 63 := cb_any (by kernel_rfl)
theorem cb64 : CB Try.prog 64 := cb_any (by kernel_rfl)
theorem cb65 : CB Try.prog 65 := cb_any (by kernel_rfl)
theorem cb66 : CB Try.prog 66 := cb_any (by kernel_rfl)
theorem cb67 : CB Try.prog 67 := cb_any (by kernel_rfl)
theorem cb68 : CB Try.prog 68 := cb_any (by kernel_rfl)
theorem cb69 : CB Try.prog 69 := cb_any (by kernel_rfl)
theorem cb70 : CB Try.prog 70 := cb_any (by kernel_rfl)
theorem cb71 : CB Try.prog 71 := cb_any (by kernel_rfl)
theorem cb72 : CB Try.prog 72 := cb_any (by kernel_rfl)
theorem cb73 : CB Try.prog 73 := cb_any (by kernel_rfl)
theorem cb74 : CB Try.prog 74 := cb_any (by kernel_rfl)
theorem cb75 : CB Try.prog 75 := cb_any (by kernel_rfl)
theorem cb76 : CB Try.prog 76 := cb_any (by kernel_rfl)
theorem cb77 : CB Try.prog 77 := cb_any (by kernel_rfl)
theorem cb78 : CB Try.prog 78 := cb_any (by kernel_rfl)
theorem cb79 : CB Try.prog 79 := cb_any (by kernel_rfl)
theorem cb80 : CB Try.prog 80 := cb_any (by kernel_rfl)
theorem cb81 : CB Try.prog 81 := cb_any (by kernel_rfl)
theorem cb82 : CB Try.prog 82 := cb_any (by kernel_rfl)
theorem cb83 : CB Try.prog 83 := cb_any (by kernel_rfl)
theorem cb84 : CB Try.prog 84 := cb_any (by kernel_rfl)
theorem cb85 : CB Try.prog 85 := cb_any (by kernel_rfl)
theorem cb86 : CB Try.prog 86 := cb_any (by kernel_rfl)
theorem cb87 : CB Try.prog 87 := cb_any (by kernel_rfl)
theorem cb88 : CB Try.prog 88 := cb_any (by kernel_rfl)
theorem eg26 : EG Try.prog 26 (Vector (Bool) 6) := ⟨by kernel_rfl, (ev_array Try.underlying26 (by kernel_rfl) (by kernel_rfl) (eq_bool Try.underlying4)).le (by decide)⟩
theorem eg28 : EG Try.prog 28 (Vector (Bool) 4) := ⟨by kernel_rfl, (ev_array Try.underlying28 (by kernel_rfl) (by kernel_rfl) (eq_bool Try.underlying4)).le (by decide)⟩
theorem eg29 : EG Try.prog 29 (Vector (Int) 4) := ⟨by kernel_rfl, (ev_array Try.underlying29 (by kernel_rfl) (by kernel_rfl) (eq_int Try.underlying3)).le (by decide)⟩
theorem eg46 : EG Try.prog 46 (Vector (Int) 8) := ⟨by kernel_rfl, (ev_array Try.underlying46 (by kernel_rfl) (by kernel_rfl) (eq_int Try.underlying3)).le (by decide)⟩
theorem eg78 : EG Try.prog 78 GOp := ⟨by kernel_rfl, fun M M' w d xs ys x y hd hx hy => by
  obtain ⟨d, rfl⟩ : ∃ e, d = e + 1 := ⟨d - 1, by omega⟩
  obtain ⟨_, a0, a1, a2⟩ := GOp.unf hx
  obtain ⟨_, b0, b1, b2⟩ := GOp.unf hy
  rw [run_equalIn_agg w d 78 _ _ (by unfold Program.fieldsOf; rw [Try.underlying78]) (by kernel_rfl)]
  unfold Program.fieldsOf
  rw [Try.underlying78]
  refine Eq.trans (eqf_cons (o := 0) (k := 1) (by simp) (eq_int Try.underlying3) (by rfl) (by omega) (by rfl) rfl a0 b0 (eqf_cons (o := 1) (k := 1) (by simp) (eq_int Try.underlying3) (by rfl) (by omega) (by rfl) rfl a1 b1 (eqf_cons (o := 2) (k := 1) (by simp) (eq_int Try.underlying3) (by rfl) (by omega) (by rfl) rfl a2 b2 (eqf_nil w)))) ?_
  congr 1
  cases x
  cases y
  simp⟩
theorem mixed : Try.prog.follows .mixedOrders = true := by kernel_rfl
end Go.Proofs.Ytopgdemmdcipcaa
