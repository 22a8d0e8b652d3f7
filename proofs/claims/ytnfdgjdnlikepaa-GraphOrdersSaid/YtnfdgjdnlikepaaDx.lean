/- How arguments of the seat's types are read that come in. (Written by types.py.) -/
import Derived.Test.YtnfdgjdnlikepaaDi
import Derived.Test.YtnfdgjdnlikepaaOpn
namespace Go.Proofs.Ytnfdgjdnlikepaa
open Go.RowKit
open Rep (rep)

theorem op3 : Opn Try.prog 3 Int := opn_int Try.underlying3 (by kernel_rfl)
theorem op9 : Opn Try.prog 9 ByteArray := opn_string Try.underlying9 (by kernel_rfl)
theorem op23 : Opn Try.prog 23 (List (ByteArray)) := opn_slice Try.underlying23 (by kernel_rfl) op9 (by decide) (by kernel_rfl)
theorem op34 : Opn Try.prog 34 (List (Int)) := opn_slice Try.underlying34 (by kernel_rfl) op3 (by decide) (by kernel_rfl)
theorem op46 : Opn Try.prog 46 GOp := ⟨by kernel_rfl, fun H enc w fuel cs d p h hw => by
  have hl : cs.length = 3 := by obtain ⟨_, _, _, _, hl, _⟩ := DataW.trod_struct Try.underlying46 h; rw [hl]; kernel_rfl
  obtain ⟨x0, h0⟩ := opn_field (α := Int) (o := 0) (k := 1) Try.underlying46 h hw 0 _ rfl rfl rfl (by kernel_rfl) op3
  obtain ⟨x1, h1⟩ := opn_field (α := Int) (o := 1) (k := 1) Try.underlying46 h hw 1 _ rfl rfl rfl (by kernel_rfl) op3
  obtain ⟨x2, h2⟩ := opn_field (α := Int) (o := 2) (k := 1) Try.underlying46 h hw 2 _ rfl rfl rfl (by kernel_rfl) op3
  exact ⟨⟨x0, x1, x2⟩, GOp.fol ⟨hl, h0, h1, h2⟩⟩⟩
theorem op40 : Opn Try.prog 40 (List (GOp)) := opn_slice Try.underlying40 (by kernel_rfl) op46 (by decide) (by kernel_rfl)
theorem op50 : Opn Try.prog 50 GFrame := ⟨by kernel_rfl, fun H enc w fuel cs d p h hw => by
  have hl : cs.length = 7 := by obtain ⟨_, _, _, _, hl, _⟩ := DataW.trod_struct Try.underlying50 h; rw [hl]; kernel_rfl
  obtain ⟨x0, h0⟩ := opn_field (α := Int) (o := 0) (k := 1) Try.underlying50 h hw 0 _ rfl rfl rfl (by kernel_rfl) op3
  obtain ⟨x1, h1⟩ := opn_field (α := Int) (o := 1) (k := 1) Try.underlying50 h hw 1 _ rfl rfl rfl (by kernel_rfl) op3
  obtain ⟨x2, h2⟩ := opn_field (α := Int) (o := 2) (k := 1) Try.underlying50 h hw 2 _ rfl rfl rfl (by kernel_rfl) op3
  obtain ⟨x3, h3⟩ := opn_field (α := List (GOp)) (o := 3) (k := 1) Try.underlying50 h hw 3 _ rfl rfl rfl (by kernel_rfl) op40
  obtain ⟨x4, h4⟩ := opn_field (α := List (Int)) (o := 4) (k := 1) Try.underlying50 h hw 4 _ rfl rfl rfl (by kernel_rfl) op34
  obtain ⟨x5, h5⟩ := opn_field (α := List (Int)) (o := 5) (k := 1) Try.underlying50 h hw 5 _ rfl rfl rfl (by kernel_rfl) op34
  obtain ⟨x6, h6⟩ := opn_field (α := List (Int)) (o := 6) (k := 1) Try.underlying50 h hw 6 _ rfl rfl rfl (by kernel_rfl) op34
  exact ⟨⟨x0, x1, x2, x3, x4, x5, x6⟩, GFrame.fol ⟨hl, h0, h1, h2, h3, h4, h5, h6⟩⟩⟩
theorem op56 : Opn Try.prog 56 GTxn := ⟨by kernel_rfl, fun H enc w fuel cs d p h hw => by
  have hl : cs.length = 2 := by obtain ⟨_, _, _, _, hl, _⟩ := DataW.trod_struct Try.underlying56 h; rw [hl]; kernel_rfl
  obtain ⟨x0, h0⟩ := opn_field (α := Int) (o := 0) (k := 1) Try.underlying56 h hw 0 _ rfl rfl rfl (by kernel_rfl) op3
  obtain ⟨x1, h1⟩ := opn_field (α := List (GOp)) (o := 1) (k := 1) Try.underlying56 h hw 1 _ rfl rfl rfl (by kernel_rfl) op40
  exact ⟨⟨x0, x1⟩, GTxn.fol ⟨hl, h0, h1⟩⟩⟩
theorem op4 : Opn Try.prog 4 Bool := opn_bool Try.underlying4 (by kernel_rfl)
theorem op57 : Opn Try.prog 57 (Vector (Bool) 6) := opn_array Try.underlying57 (by kernel_rfl) op4 (by decide)
theorem op58 : Opn Try.prog 58 (Vector (Bool) 4) := opn_array Try.underlying58 (by kernel_rfl) op4 (by decide)
theorem op59 : Opn Try.prog 59 (Vector (Int) 4) := opn_array Try.underlying59 (by kernel_rfl) op3 (by decide)
theorem op61 : Opn Try.prog 61 GCase := ⟨by kernel_rfl, fun H enc w fuel cs d p h hw => by
  have hl : cs.length = 24 := by obtain ⟨_, _, _, _, hl, _⟩ := DataW.trod_struct Try.underlying61 h; rw [hl]; kernel_rfl
  obtain ⟨x0, h0⟩ := opn_field (α := Bool) (o := 0) (k := 1) Try.underlying61 h hw 0 _ rfl rfl rfl (by kernel_rfl) op4
  obtain ⟨x1, h1⟩ := opn_field (α := Bool) (o := 1) (k := 1) Try.underlying61 h hw 1 _ rfl rfl rfl (by kernel_rfl) op4
  obtain ⟨x2, h2⟩ := opn_field (α := List (GOp)) (o := 2) (k := 1) Try.underlying61 h hw 2 _ rfl rfl rfl (by kernel_rfl) op40
  obtain ⟨x3, h3⟩ := opn_field (α := Vector (Bool) 6) (o := 3) (k := 6) Try.underlying61 h hw 3 _ rfl rfl rfl (by kernel_rfl) op57
  obtain ⟨x4, h4⟩ := opn_field (α := Vector (Bool) 6) (o := 9) (k := 6) Try.underlying61 h hw 4 _ rfl rfl rfl (by kernel_rfl) op57
  obtain ⟨x5, h5⟩ := opn_field (α := List (Int)) (o := 15) (k := 1) Try.underlying61 h hw 5 _ rfl rfl rfl (by kernel_rfl) op34
  obtain ⟨x6, h6⟩ := opn_field (α := Vector (Bool) 4) (o := 16) (k := 4) Try.underlying61 h hw 6 _ rfl rfl rfl (by kernel_rfl) op58
  obtain ⟨x7, h7⟩ := opn_field (α := Vector (Int) 4) (o := 20) (k := 4) Try.underlying61 h hw 7 _ rfl rfl rfl (by kernel_rfl) op59
  exact ⟨⟨x0, x1, x2, x3, x4, x5, x6, x7⟩, GCase.fol ⟨hl, h0, h1, h2, h3, h4, h5, h6, h7⟩⟩⟩
theorem op90 : Opn Try.prog 90 GAct := ⟨by kernel_rfl, fun H enc w fuel cs d p h hw => by
  have hl : cs.length = 4 := by obtain ⟨_, _, _, _, hl, _⟩ := DataW.trod_struct Try.underlying90 h; rw [hl]; kernel_rfl
  obtain ⟨x0, h0⟩ := opn_field (α := Int) (o := 0) (k := 1) Try.underlying90 h hw 0 _ rfl rfl rfl (by kernel_rfl) op3
  obtain ⟨x1, h1⟩ := opn_field (α := Int) (o := 1) (k := 1) Try.underlying90 h hw 1 _ rfl rfl rfl (by kernel_rfl) op3
  obtain ⟨x2, h2⟩ := opn_field (α := Int) (o := 2) (k := 1) Try.underlying90 h hw 2 _ rfl rfl rfl (by kernel_rfl) op3
  obtain ⟨x3, h3⟩ := opn_field (α := List (GOp)) (o := 3) (k := 1) Try.underlying90 h hw 3 _ rfl rfl rfl (by kernel_rfl) op40
  exact ⟨⟨x0, x1, x2, x3⟩, GAct.fol ⟨hl, h0, h1, h2, h3⟩⟩⟩
theorem op72 : Opn Try.prog 72 (List (GAct)) := opn_slice Try.underlying72 (by kernel_rfl) op90 (by decide) (by kernel_rfl)
theorem op78 : Opn Try.prog 78 GEntry := ⟨by kernel_rfl, fun H enc w fuel cs d p h hw => by
  have hl : cs.length = 6 := by obtain ⟨_, _, _, _, hl, _⟩ := DataW.trod_struct Try.underlying78 h; rw [hl]; kernel_rfl
  obtain ⟨x0, h0⟩ := opn_field (α := Int) (o := 0) (k := 1) Try.underlying78 h hw 0 _ rfl rfl rfl (by kernel_rfl) op3
  obtain ⟨x1, h1⟩ := opn_field (α := List (GOp)) (o := 1) (k := 1) Try.underlying78 h hw 1 _ rfl rfl rfl (by kernel_rfl) op40
  obtain ⟨x2, h2⟩ := opn_field (α := List (Int)) (o := 2) (k := 1) Try.underlying78 h hw 2 _ rfl rfl rfl (by kernel_rfl) op34
  obtain ⟨x3, h3⟩ := opn_field (α := List (Int)) (o := 3) (k := 1) Try.underlying78 h hw 3 _ rfl rfl rfl (by kernel_rfl) op34
  obtain ⟨x4, h4⟩ := opn_field (α := List (Int)) (o := 4) (k := 1) Try.underlying78 h hw 4 _ rfl rfl rfl (by kernel_rfl) op34
  obtain ⟨x5, h5⟩ := opn_field (α := List (Int)) (o := 5) (k := 1) Try.underlying78 h hw 5 _ rfl rfl rfl (by kernel_rfl) op34
  exact ⟨⟨x0, x1, x2, x3, x4, x5⟩, GEntry.fol ⟨hl, h0, h1, h2, h3, h4, h5⟩⟩⟩
theorem op79 : Opn Try.prog 79 (Vector (GEntry) 32) := opn_array Try.underlying79 (by kernel_rfl) op78 (by decide)
theorem op80 : Opn Try.prog 80 (Vector (Int) 8) := opn_array Try.underlying80 (by kernel_rfl) op3 (by decide)
theorem op82 : Opn Try.prog 82 GNode := ⟨by kernel_rfl, fun H enc w fuel cs d p h hw => by
  have hl : cs.length = 201 := by obtain ⟨_, _, _, _, hl, _⟩ := DataW.trod_struct Try.underlying82 h; rw [hl]; kernel_rfl
  obtain ⟨x0, h0⟩ := opn_field (α := Vector (GEntry) 32) (o := 0) (k := 192) Try.underlying82 h hw 0 _ rfl rfl rfl (by kernel_rfl) op79
  obtain ⟨x1, h1⟩ := opn_field (α := List (Int)) (o := 192) (k := 1) Try.underlying82 h hw 1 _ rfl rfl rfl (by kernel_rfl) op34
  obtain ⟨x2, h2⟩ := opn_field (α := Vector (Int) 8) (o := 193) (k := 8) Try.underlying82 h hw 2 _ rfl rfl rfl (by kernel_rfl) op80
  exact ⟨⟨x0, x1, x2⟩, GNode.fol ⟨hl, h0, h1, h2⟩⟩⟩
theorem op112 : Opn Try.prog 112 (Vector (GNode) 6) := opn_array Try.underlying112 (by kernel_rfl) op82 (by decide)
theorem op113 : Opn Try.prog 113 (Vector (ByteArray) 6) := opn_array Try.underlying113 (by kernel_rfl) op9 (by decide)
theorem op114 : Opn Try.prog 114 (Vector (Int) 6) := opn_array Try.underlying114 (by kernel_rfl) op3 (by decide)
theorem op115 : Opn Try.prog 115 (Vector (GCase) 32) := opn_array Try.underlying115 (by kernel_rfl) op61 (by decide)
theorem op117 : Opn Try.prog 117 GCluster := ⟨by kernel_rfl, fun H enc w fuel cs d p h hw => by
  have hl : cs.length = 1995 := by obtain ⟨_, _, _, _, hl, _⟩ := DataW.trod_struct Try.underlying117 h; rw [hl]; kernel_rfl
  obtain ⟨x0, h0⟩ := opn_field (α := Vector (GNode) 6) (o := 0) (k := 1206) Try.underlying117 h hw 0 _ rfl rfl rfl (by kernel_rfl) op112
  obtain ⟨x1, h1⟩ := opn_field (α := Vector (ByteArray) 6) (o := 1206) (k := 6) Try.underlying117 h hw 1 _ rfl rfl rfl (by kernel_rfl) op113
  obtain ⟨x2, h2⟩ := opn_field (α := Vector (Bool) 6) (o := 1212) (k := 6) Try.underlying117 h hw 2 _ rfl rfl rfl (by kernel_rfl) op57
  obtain ⟨x3, h3⟩ := opn_field (α := Vector (Int) 6) (o := 1218) (k := 6) Try.underlying117 h hw 3 _ rfl rfl rfl (by kernel_rfl) op114
  obtain ⟨x4, h4⟩ := opn_field (α := Vector (GCase) 32) (o := 1224) (k := 768) Try.underlying117 h hw 4 _ rfl rfl rfl (by kernel_rfl) op115
  obtain ⟨x5, h5⟩ := opn_field (α := Int) (o := 1992) (k := 1) Try.underlying117 h hw 5 _ rfl rfl rfl (by kernel_rfl) op3
  obtain ⟨x6, h6⟩ := opn_field (α := List (ByteArray)) (o := 1993) (k := 1) Try.underlying117 h hw 6 _ rfl rfl rfl (by kernel_rfl) op23
  obtain ⟨x7, h7⟩ := opn_field (α := Int) (o := 1994) (k := 1) Try.underlying117 h hw 7 _ rfl rfl rfl (by kernel_rfl) op3
  exact ⟨⟨x0, x1, x2, x3, x4, x5, x6, x7⟩, GCluster.fol ⟨hl, h0, h1, h2, h3, h4, h5, h6, h7⟩⟩⟩
theorem op28 : Opn Try.prog 28 Int := opn_int Try.underlying28 (by kernel_rfl)
theorem op87 : Opn Try.prog 87 GReply := ⟨by kernel_rfl, fun H enc w fuel cs d p h hw => by
  have hl : cs.length = 3 := by obtain ⟨_, _, _, _, hl, _⟩ := DataW.trod_struct Try.underlying87 h; rw [hl]; kernel_rfl
  obtain ⟨x0, h0⟩ := opn_field (α := Int) (o := 0) (k := 1) Try.underlying87 h hw 0 _ rfl rfl rfl (by kernel_rfl) op28
  obtain ⟨x1, h1⟩ := opn_field (α := Int) (o := 1) (k := 1) Try.underlying87 h hw 1 _ rfl rfl rfl (by kernel_rfl) op3
  obtain ⟨x2, h2⟩ := opn_field (α := List (Int)) (o := 2) (k := 1) Try.underlying87 h hw 2 _ rfl rfl rfl (by kernel_rfl) op34
  exact ⟨⟨x0, x1, x2⟩, GReply.fol ⟨hl, h0, h1, h2⟩⟩⟩
theorem op92 : Opn Try.prog 92 (Vector (Bool) 32) := opn_array Try.underlying92 (by kernel_rfl) op4 (by decide)
theorem op93 : Opn Try.prog 93 (Vector (List (Int)) 32) := opn_array Try.underlying93 (by kernel_rfl) op34 (by decide)
theorem op95 : Opn Try.prog 95 GGraph := ⟨by kernel_rfl, fun H enc w fuel cs d p h hw => by
  have hl : cs.length = 64 := by obtain ⟨_, _, _, _, hl, _⟩ := DataW.trod_struct Try.underlying95 h; rw [hl]; kernel_rfl
  obtain ⟨x0, h0⟩ := opn_field (α := Vector (Bool) 32) (o := 0) (k := 32) Try.underlying95 h hw 0 _ rfl rfl rfl (by kernel_rfl) op92
  obtain ⟨x1, h1⟩ := opn_field (α := Vector (List (Int)) 32) (o := 32) (k := 32) Try.underlying95 h hw 1 _ rfl rfl rfl (by kernel_rfl) op93
  exact ⟨⟨x0, x1⟩, GGraph.fol ⟨hl, h0, h1⟩⟩⟩
end Go.Proofs.Ytnfdgjdnlikepaa
