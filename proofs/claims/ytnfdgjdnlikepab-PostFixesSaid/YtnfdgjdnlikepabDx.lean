/- How arguments of the seat's types are read that come in. (Written by types.py.) -/
import Derived.Test.YtnfdgjdnlikepabDi
import Derived.Test.YtnfdgjdnlikepabOpn
namespace Go.Proofs.Ytnfdgjdnlikepab
open Go.RowKit
open Rep (rep)

theorem op3 : Opn Try.prog 3 Int := opn_int Try.underlying3 (by kernel_rfl)
theorem op9 : Opn Try.prog 9 ByteArray := opn_string Try.underlying9 (by kernel_rfl)
theorem op23 : Opn Try.prog 23 (List (Int)) := opn_slice Try.underlying23 (by kernel_rfl) op3 (by decide) (by kernel_rfl)
theorem op4 : Opn Try.prog 4 Bool := opn_bool Try.underlying4 (by kernel_rfl)
theorem op22 : Opn Try.prog 22 (Vector (Bool) 32) := opn_array Try.underlying22 (by kernel_rfl) op4 (by decide)
theorem op24 : Opn Try.prog 24 (Vector (List (Int)) 32) := opn_array Try.underlying24 (by kernel_rfl) op23 (by decide)
theorem op26 : Opn Try.prog 26 GGraph := ⟨by kernel_rfl, fun H enc w fuel cs d p h hw => by
  have hl : cs.length = 64 := by obtain ⟨_, _, _, _, hl, _⟩ := DataW.trod_struct Try.underlying26 h; rw [hl]; kernel_rfl
  obtain ⟨x0, h0⟩ := opn_field (α := Vector (Bool) 32) (o := 0) (k := 32) Try.underlying26 h hw 0 _ rfl rfl rfl (by kernel_rfl) op22
  obtain ⟨x1, h1⟩ := opn_field (α := Vector (List (Int)) 32) (o := 32) (k := 32) Try.underlying26 h hw 1 _ rfl rfl rfl (by kernel_rfl) op24
  exact ⟨⟨x0, x1⟩, GGraph.fol ⟨hl, h0, h1⟩⟩⟩
theorem op114 : Opn Try.prog 114 GOp := ⟨by kernel_rfl, fun H enc w fuel cs d p h hw => by
  have hl : cs.length = 3 := by obtain ⟨_, _, _, _, hl, _⟩ := DataW.trod_struct Try.underlying114 h; rw [hl]; kernel_rfl
  obtain ⟨x0, h0⟩ := opn_field (α := Int) (o := 0) (k := 1) Try.underlying114 h hw 0 _ rfl rfl rfl (by kernel_rfl) op3
  obtain ⟨x1, h1⟩ := opn_field (α := Int) (o := 1) (k := 1) Try.underlying114 h hw 1 _ rfl rfl rfl (by kernel_rfl) op3
  obtain ⟨x2, h2⟩ := opn_field (α := Int) (o := 2) (k := 1) Try.underlying114 h hw 2 _ rfl rfl rfl (by kernel_rfl) op3
  exact ⟨⟨x0, x1, x2⟩, GOp.fol ⟨hl, h0, h1, h2⟩⟩⟩
theorem op40 : Opn Try.prog 40 (List (GOp)) := opn_slice Try.underlying40 (by kernel_rfl) op114 (by decide) (by kernel_rfl)
theorem op71 : Opn Try.prog 71 GAct := ⟨by kernel_rfl, fun H enc w fuel cs d p h hw => by
  have hl : cs.length = 4 := by obtain ⟨_, _, _, _, hl, _⟩ := DataW.trod_struct Try.underlying71 h; rw [hl]; kernel_rfl
  obtain ⟨x0, h0⟩ := opn_field (α := Int) (o := 0) (k := 1) Try.underlying71 h hw 0 _ rfl rfl rfl (by kernel_rfl) op3
  obtain ⟨x1, h1⟩ := opn_field (α := Int) (o := 1) (k := 1) Try.underlying71 h hw 1 _ rfl rfl rfl (by kernel_rfl) op3
  obtain ⟨x2, h2⟩ := opn_field (α := Int) (o := 2) (k := 1) Try.underlying71 h hw 2 _ rfl rfl rfl (by kernel_rfl) op3
  obtain ⟨x3, h3⟩ := opn_field (α := List (GOp)) (o := 3) (k := 1) Try.underlying71 h hw 3 _ rfl rfl rfl (by kernel_rfl) op40
  exact ⟨⟨x0, x1, x2, x3⟩, GAct.fol ⟨hl, h0, h1, h2, h3⟩⟩⟩
theorem op35 : Opn Try.prog 35 (List (GAct)) := opn_slice Try.underlying35 (by kernel_rfl) op71 (by decide) (by kernel_rfl)
theorem op75 : Opn Try.prog 75 GEntry := ⟨by kernel_rfl, fun H enc w fuel cs d p h hw => by
  have hl : cs.length = 6 := by obtain ⟨_, _, _, _, hl, _⟩ := DataW.trod_struct Try.underlying75 h; rw [hl]; kernel_rfl
  obtain ⟨x0, h0⟩ := opn_field (α := Int) (o := 0) (k := 1) Try.underlying75 h hw 0 _ rfl rfl rfl (by kernel_rfl) op3
  obtain ⟨x1, h1⟩ := opn_field (α := List (GOp)) (o := 1) (k := 1) Try.underlying75 h hw 1 _ rfl rfl rfl (by kernel_rfl) op40
  obtain ⟨x2, h2⟩ := opn_field (α := List (Int)) (o := 2) (k := 1) Try.underlying75 h hw 2 _ rfl rfl rfl (by kernel_rfl) op23
  obtain ⟨x3, h3⟩ := opn_field (α := List (Int)) (o := 3) (k := 1) Try.underlying75 h hw 3 _ rfl rfl rfl (by kernel_rfl) op23
  obtain ⟨x4, h4⟩ := opn_field (α := List (Int)) (o := 4) (k := 1) Try.underlying75 h hw 4 _ rfl rfl rfl (by kernel_rfl) op23
  obtain ⟨x5, h5⟩ := opn_field (α := List (Int)) (o := 5) (k := 1) Try.underlying75 h hw 5 _ rfl rfl rfl (by kernel_rfl) op23
  exact ⟨⟨x0, x1, x2, x3, x4, x5⟩, GEntry.fol ⟨hl, h0, h1, h2, h3, h4, h5⟩⟩⟩
theorem op76 : Opn Try.prog 76 (Vector (GEntry) 32) := opn_array Try.underlying76 (by kernel_rfl) op75 (by decide)
theorem op77 : Opn Try.prog 77 (Vector (Int) 8) := opn_array Try.underlying77 (by kernel_rfl) op3 (by decide)
theorem op79 : Opn Try.prog 79 GNode := ⟨by kernel_rfl, fun H enc w fuel cs d p h hw => by
  have hl : cs.length = 201 := by obtain ⟨_, _, _, _, hl, _⟩ := DataW.trod_struct Try.underlying79 h; rw [hl]; kernel_rfl
  obtain ⟨x0, h0⟩ := opn_field (α := Vector (GEntry) 32) (o := 0) (k := 192) Try.underlying79 h hw 0 _ rfl rfl rfl (by kernel_rfl) op76
  obtain ⟨x1, h1⟩ := opn_field (α := List (Int)) (o := 192) (k := 1) Try.underlying79 h hw 1 _ rfl rfl rfl (by kernel_rfl) op23
  obtain ⟨x2, h2⟩ := opn_field (α := Vector (Int) 8) (o := 193) (k := 8) Try.underlying79 h hw 2 _ rfl rfl rfl (by kernel_rfl) op77
  exact ⟨⟨x0, x1, x2⟩, GNode.fol ⟨hl, h0, h1, h2⟩⟩⟩
theorem op106 : Opn Try.prog 106 (Vector (GNode) 6) := opn_array Try.underlying106 (by kernel_rfl) op79 (by decide)
theorem op107 : Opn Try.prog 107 (Vector (ByteArray) 6) := opn_array Try.underlying107 (by kernel_rfl) op9 (by decide)
theorem op41 : Opn Try.prog 41 (Vector (Bool) 6) := opn_array Try.underlying41 (by kernel_rfl) op4 (by decide)
theorem op69 : Opn Try.prog 69 (Vector (Int) 6) := opn_array Try.underlying69 (by kernel_rfl) op3 (by decide)
theorem op42 : Opn Try.prog 42 (Vector (Bool) 4) := opn_array Try.underlying42 (by kernel_rfl) op4 (by decide)
theorem op43 : Opn Try.prog 43 (Vector (Int) 4) := opn_array Try.underlying43 (by kernel_rfl) op3 (by decide)
theorem op45 : Opn Try.prog 45 GCase := ⟨by kernel_rfl, fun H enc w fuel cs d p h hw => by
  have hl : cs.length = 24 := by obtain ⟨_, _, _, _, hl, _⟩ := DataW.trod_struct Try.underlying45 h; rw [hl]; kernel_rfl
  obtain ⟨x0, h0⟩ := opn_field (α := Bool) (o := 0) (k := 1) Try.underlying45 h hw 0 _ rfl rfl rfl (by kernel_rfl) op4
  obtain ⟨x1, h1⟩ := opn_field (α := Bool) (o := 1) (k := 1) Try.underlying45 h hw 1 _ rfl rfl rfl (by kernel_rfl) op4
  obtain ⟨x2, h2⟩ := opn_field (α := List (GOp)) (o := 2) (k := 1) Try.underlying45 h hw 2 _ rfl rfl rfl (by kernel_rfl) op40
  obtain ⟨x3, h3⟩ := opn_field (α := Vector (Bool) 6) (o := 3) (k := 6) Try.underlying45 h hw 3 _ rfl rfl rfl (by kernel_rfl) op41
  obtain ⟨x4, h4⟩ := opn_field (α := Vector (Bool) 6) (o := 9) (k := 6) Try.underlying45 h hw 4 _ rfl rfl rfl (by kernel_rfl) op41
  obtain ⟨x5, h5⟩ := opn_field (α := List (Int)) (o := 15) (k := 1) Try.underlying45 h hw 5 _ rfl rfl rfl (by kernel_rfl) op23
  obtain ⟨x6, h6⟩ := opn_field (α := Vector (Bool) 4) (o := 16) (k := 4) Try.underlying45 h hw 6 _ rfl rfl rfl (by kernel_rfl) op42
  obtain ⟨x7, h7⟩ := opn_field (α := Vector (Int) 4) (o := 20) (k := 4) Try.underlying45 h hw 7 _ rfl rfl rfl (by kernel_rfl) op43
  exact ⟨⟨x0, x1, x2, x3, x4, x5, x6, x7⟩, GCase.fol ⟨hl, h0, h1, h2, h3, h4, h5, h6, h7⟩⟩⟩
theorem op108 : Opn Try.prog 108 (Vector (GCase) 32) := opn_array Try.underlying108 (by kernel_rfl) op45 (by decide)
theorem op109 : Opn Try.prog 109 (List (ByteArray)) := opn_slice Try.underlying109 (by kernel_rfl) op9 (by decide) (by kernel_rfl)
theorem op111 : Opn Try.prog 111 GCluster := ⟨by kernel_rfl, fun H enc w fuel cs d p h hw => by
  have hl : cs.length = 1995 := by obtain ⟨_, _, _, _, hl, _⟩ := DataW.trod_struct Try.underlying111 h; rw [hl]; kernel_rfl
  obtain ⟨x0, h0⟩ := opn_field (α := Vector (GNode) 6) (o := 0) (k := 1206) Try.underlying111 h hw 0 _ rfl rfl rfl (by kernel_rfl) op106
  obtain ⟨x1, h1⟩ := opn_field (α := Vector (ByteArray) 6) (o := 1206) (k := 6) Try.underlying111 h hw 1 _ rfl rfl rfl (by kernel_rfl) op107
  obtain ⟨x2, h2⟩ := opn_field (α := Vector (Bool) 6) (o := 1212) (k := 6) Try.underlying111 h hw 2 _ rfl rfl rfl (by kernel_rfl) op41
  obtain ⟨x3, h3⟩ := opn_field (α := Vector (Int) 6) (o := 1218) (k := 6) Try.underlying111 h hw 3 _ rfl rfl rfl (by kernel_rfl) op69
  obtain ⟨x4, h4⟩ := opn_field (α := Vector (GCase) 32) (o := 1224) (k := 768) Try.underlying111 h hw 4 _ rfl rfl rfl (by kernel_rfl) op108
  obtain ⟨x5, h5⟩ := opn_field (α := Int) (o := 1992) (k := 1) Try.underlying111 h hw 5 _ rfl rfl rfl (by kernel_rfl) op3
  obtain ⟨x6, h6⟩ := opn_field (α := List (ByteArray)) (o := 1993) (k := 1) Try.underlying111 h hw 6 _ rfl rfl rfl (by kernel_rfl) op109
  obtain ⟨x7, h7⟩ := opn_field (α := Int) (o := 1994) (k := 1) Try.underlying111 h hw 7 _ rfl rfl rfl (by kernel_rfl) op3
  exact ⟨⟨x0, x1, x2, x3, x4, x5, x6, x7⟩, GCluster.fol ⟨hl, h0, h1, h2, h3, h4, h5, h6, h7⟩⟩⟩
theorem op50 : Opn Try.prog 50 GFrame := ⟨by kernel_rfl, fun H enc w fuel cs d p h hw => by
  have hl : cs.length = 7 := by obtain ⟨_, _, _, _, hl, _⟩ := DataW.trod_struct Try.underlying50 h; rw [hl]; kernel_rfl
  obtain ⟨x0, h0⟩ := opn_field (α := Int) (o := 0) (k := 1) Try.underlying50 h hw 0 _ rfl rfl rfl (by kernel_rfl) op3
  obtain ⟨x1, h1⟩ := opn_field (α := Int) (o := 1) (k := 1) Try.underlying50 h hw 1 _ rfl rfl rfl (by kernel_rfl) op3
  obtain ⟨x2, h2⟩ := opn_field (α := Int) (o := 2) (k := 1) Try.underlying50 h hw 2 _ rfl rfl rfl (by kernel_rfl) op3
  obtain ⟨x3, h3⟩ := opn_field (α := List (GOp)) (o := 3) (k := 1) Try.underlying50 h hw 3 _ rfl rfl rfl (by kernel_rfl) op40
  obtain ⟨x4, h4⟩ := opn_field (α := List (Int)) (o := 4) (k := 1) Try.underlying50 h hw 4 _ rfl rfl rfl (by kernel_rfl) op23
  obtain ⟨x5, h5⟩ := opn_field (α := List (Int)) (o := 5) (k := 1) Try.underlying50 h hw 5 _ rfl rfl rfl (by kernel_rfl) op23
  obtain ⟨x6, h6⟩ := opn_field (α := List (Int)) (o := 6) (k := 1) Try.underlying50 h hw 6 _ rfl rfl rfl (by kernel_rfl) op23
  exact ⟨⟨x0, x1, x2, x3, x4, x5, x6⟩, GFrame.fol ⟨hl, h0, h1, h2, h3, h4, h5, h6⟩⟩⟩
theorem op62 : Opn Try.prog 62 (List (GFrame)) := opn_slice Try.underlying62 (by kernel_rfl) op50 (by decide) (by kernel_rfl)
theorem op51 : Opn Try.prog 51 Int := opn_int Try.underlying51 (by kernel_rfl)
theorem op73 : Opn Try.prog 73 GReply := ⟨by kernel_rfl, fun H enc w fuel cs d p h hw => by
  have hl : cs.length = 3 := by obtain ⟨_, _, _, _, hl, _⟩ := DataW.trod_struct Try.underlying73 h; rw [hl]; kernel_rfl
  obtain ⟨x0, h0⟩ := opn_field (α := Int) (o := 0) (k := 1) Try.underlying73 h hw 0 _ rfl rfl rfl (by kernel_rfl) op51
  obtain ⟨x1, h1⟩ := opn_field (α := Int) (o := 1) (k := 1) Try.underlying73 h hw 1 _ rfl rfl rfl (by kernel_rfl) op3
  obtain ⟨x2, h2⟩ := opn_field (α := List (Int)) (o := 2) (k := 1) Try.underlying73 h hw 2 _ rfl rfl rfl (by kernel_rfl) op23
  exact ⟨⟨x0, x1, x2⟩, GReply.fol ⟨hl, h0, h1, h2⟩⟩⟩
theorem op85 : Opn Try.prog 85 GTxn := ⟨by kernel_rfl, fun H enc w fuel cs d p h hw => by
  have hl : cs.length = 2 := by obtain ⟨_, _, _, _, hl, _⟩ := DataW.trod_struct Try.underlying85 h; rw [hl]; kernel_rfl
  obtain ⟨x0, h0⟩ := opn_field (α := Int) (o := 0) (k := 1) Try.underlying85 h hw 0 _ rfl rfl rfl (by kernel_rfl) op3
  obtain ⟨x1, h1⟩ := opn_field (α := List (GOp)) (o := 1) (k := 1) Try.underlying85 h hw 1 _ rfl rfl rfl (by kernel_rfl) op40
  exact ⟨⟨x0, x1⟩, GTxn.fol ⟨hl, h0, h1⟩⟩⟩
end Go.Proofs.Ytnfdgjdnlikepab
