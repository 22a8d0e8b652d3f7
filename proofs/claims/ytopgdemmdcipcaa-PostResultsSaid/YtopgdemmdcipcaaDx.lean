/- How arguments of the seat's types are read that come in. (Written by types.py.) -/
import Derived.Test.YtopgdemmdcipcaaDi
import Derived.Test.YtopgdemmdcipcaaOpn
namespace Go.Proofs.Ytopgdemmdcipcaa
open Go.RowKit
open Rep (rep)

theorem op3 : Opn Try.prog 3 Int := opn_int Try.underlying3 (by kernel_rfl)
theorem op78 : Opn Try.prog 78 GOp := ⟨by kernel_rfl, fun H enc w fuel cs d p h hw => by
  have hl : cs.length = 3 := by obtain ⟨_, _, _, _, hl, _⟩ := DataW.trod_struct Try.underlying78 h; rw [hl]; kernel_rfl
  obtain ⟨x0, h0⟩ := opn_field (α := Int) (o := 0) (k := 1) Try.underlying78 h hw 0 _ rfl rfl rfl (by kernel_rfl) op3
  obtain ⟨x1, h1⟩ := opn_field (α := Int) (o := 1) (k := 1) Try.underlying78 h hw 1 _ rfl rfl rfl (by kernel_rfl) op3
  obtain ⟨x2, h2⟩ := opn_field (α := Int) (o := 2) (k := 1) Try.underlying78 h hw 2 _ rfl rfl rfl (by kernel_rfl) op3
  exact ⟨⟨x0, x1, x2⟩, GOp.fol ⟨hl, h0, h1, h2⟩⟩⟩
theorem op22 : Opn Try.prog 22 (List (GOp)) := opn_slice Try.underlying22 (by kernel_rfl) op78 (by decide) (by kernel_rfl)
theorem op24 : Opn Try.prog 24 GTxn := ⟨by kernel_rfl, fun H enc w fuel cs d p h hw => by
  have hl : cs.length = 2 := by obtain ⟨_, _, _, _, hl, _⟩ := DataW.trod_struct Try.underlying24 h; rw [hl]; kernel_rfl
  obtain ⟨x0, h0⟩ := opn_field (α := Int) (o := 0) (k := 1) Try.underlying24 h hw 0 _ rfl rfl rfl (by kernel_rfl) op3
  obtain ⟨x1, h1⟩ := opn_field (α := List (GOp)) (o := 1) (k := 1) Try.underlying24 h hw 1 _ rfl rfl rfl (by kernel_rfl) op22
  exact ⟨⟨x0, x1⟩, GTxn.fol ⟨hl, h0, h1⟩⟩⟩
theorem op27 : Opn Try.prog 27 (List (Int)) := opn_slice Try.underlying27 (by kernel_rfl) op3 (by decide) (by kernel_rfl)
theorem op38 : Opn Try.prog 38 GFrame := ⟨by kernel_rfl, fun H enc w fuel cs d p h hw => by
  have hl : cs.length = 7 := by obtain ⟨_, _, _, _, hl, _⟩ := DataW.trod_struct Try.underlying38 h; rw [hl]; kernel_rfl
  obtain ⟨x0, h0⟩ := opn_field (α := Int) (o := 0) (k := 1) Try.underlying38 h hw 0 _ rfl rfl rfl (by kernel_rfl) op3
  obtain ⟨x1, h1⟩ := opn_field (α := Int) (o := 1) (k := 1) Try.underlying38 h hw 1 _ rfl rfl rfl (by kernel_rfl) op3
  obtain ⟨x2, h2⟩ := opn_field (α := Int) (o := 2) (k := 1) Try.underlying38 h hw 2 _ rfl rfl rfl (by kernel_rfl) op3
  obtain ⟨x3, h3⟩ := opn_field (α := List (GOp)) (o := 3) (k := 1) Try.underlying38 h hw 3 _ rfl rfl rfl (by kernel_rfl) op22
  obtain ⟨x4, h4⟩ := opn_field (α := List (Int)) (o := 4) (k := 1) Try.underlying38 h hw 4 _ rfl rfl rfl (by kernel_rfl) op27
  obtain ⟨x5, h5⟩ := opn_field (α := List (Int)) (o := 5) (k := 1) Try.underlying38 h hw 5 _ rfl rfl rfl (by kernel_rfl) op27
  obtain ⟨x6, h6⟩ := opn_field (α := List (Int)) (o := 6) (k := 1) Try.underlying38 h hw 6 _ rfl rfl rfl (by kernel_rfl) op27
  exact ⟨⟨x0, x1, x2, x3, x4, x5, x6⟩, GFrame.fol ⟨hl, h0, h1, h2, h3, h4, h5, h6⟩⟩⟩
theorem op25 : Opn Try.prog 25 (List (GFrame)) := opn_slice Try.underlying25 (by kernel_rfl) op38 (by decide) (by kernel_rfl)
theorem op44 : Opn Try.prog 44 GEntry := ⟨by kernel_rfl, fun H enc w fuel cs d p h hw => by
  have hl : cs.length = 6 := by obtain ⟨_, _, _, _, hl, _⟩ := DataW.trod_struct Try.underlying44 h; rw [hl]; kernel_rfl
  obtain ⟨x0, h0⟩ := opn_field (α := Int) (o := 0) (k := 1) Try.underlying44 h hw 0 _ rfl rfl rfl (by kernel_rfl) op3
  obtain ⟨x1, h1⟩ := opn_field (α := List (GOp)) (o := 1) (k := 1) Try.underlying44 h hw 1 _ rfl rfl rfl (by kernel_rfl) op22
  obtain ⟨x2, h2⟩ := opn_field (α := List (Int)) (o := 2) (k := 1) Try.underlying44 h hw 2 _ rfl rfl rfl (by kernel_rfl) op27
  obtain ⟨x3, h3⟩ := opn_field (α := List (Int)) (o := 3) (k := 1) Try.underlying44 h hw 3 _ rfl rfl rfl (by kernel_rfl) op27
  obtain ⟨x4, h4⟩ := opn_field (α := List (Int)) (o := 4) (k := 1) Try.underlying44 h hw 4 _ rfl rfl rfl (by kernel_rfl) op27
  obtain ⟨x5, h5⟩ := opn_field (α := List (Int)) (o := 5) (k := 1) Try.underlying44 h hw 5 _ rfl rfl rfl (by kernel_rfl) op27
  exact ⟨⟨x0, x1, x2, x3, x4, x5⟩, GEntry.fol ⟨hl, h0, h1, h2, h3, h4, h5⟩⟩⟩
theorem op45 : Opn Try.prog 45 (Vector (GEntry) 32) := opn_array Try.underlying45 (by kernel_rfl) op44 (by decide)
theorem op46 : Opn Try.prog 46 (Vector (Int) 8) := opn_array Try.underlying46 (by kernel_rfl) op3 (by decide)
theorem op48 : Opn Try.prog 48 GNode := ⟨by kernel_rfl, fun H enc w fuel cs d p h hw => by
  have hl : cs.length = 201 := by obtain ⟨_, _, _, _, hl, _⟩ := DataW.trod_struct Try.underlying48 h; rw [hl]; kernel_rfl
  obtain ⟨x0, h0⟩ := opn_field (α := Vector (GEntry) 32) (o := 0) (k := 192) Try.underlying48 h hw 0 _ rfl rfl rfl (by kernel_rfl) op45
  obtain ⟨x1, h1⟩ := opn_field (α := List (Int)) (o := 192) (k := 1) Try.underlying48 h hw 1 _ rfl rfl rfl (by kernel_rfl) op27
  obtain ⟨x2, h2⟩ := opn_field (α := Vector (Int) 8) (o := 193) (k := 8) Try.underlying48 h hw 2 _ rfl rfl rfl (by kernel_rfl) op46
  exact ⟨⟨x0, x1, x2⟩, GNode.fol ⟨hl, h0, h1, h2⟩⟩⟩
theorem op9 : Opn Try.prog 9 ByteArray := opn_string Try.underlying9 (by kernel_rfl)
theorem op69 : Opn Try.prog 69 (List (ByteArray)) := opn_slice Try.underlying69 (by kernel_rfl) op9 (by decide) (by kernel_rfl)
end Go.Proofs.Ytopgdemmdcipcaa
