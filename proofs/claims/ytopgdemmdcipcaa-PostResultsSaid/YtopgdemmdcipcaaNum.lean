/- Numbers as six bytes, by the program and by the reference. -/
import Derived.Test.YtopgdemmdcipcaaBook
namespace Go.Proofs.Ytopgdemmdcipcaa
open Go.RowKit

theorem i_byte : (Try.prog.info? 5).map (fun i => (i.zero, i.size, i.bytes)) = some (some (.int .u8 0), 1, 1) := by kernel_rfl

/-- Six bytes of a number, the highest first, by 2^47 more. -/
def sixZ (n : Int) : List Int := [(n + 140737488355328) / 1099511627776 % 256, (n + 140737488355328) / 4294967296 % 256, (n + 140737488355328) / 16777216 % 256, (n + 140737488355328) / 65536 % 256, (n + 140737488355328) / 256 % 256, (n + 140737488355328) % 256]

theorem alloc_le' {B : Nat} {w : World} (h : B ≤ w.heap.size) (o : Obj) : B ≤ (w.alloc o).heap.size := by simp; omega
theorem one_byte (x : Int) : ∀ u ∈ [Value.int .u8 x], u.oneCell' = true := by simp [Value.oneCell']

set_option maxRecDepth 100000 in
set_option maxHeartbeats 1000000 in
theorem number_any (base : Nat) (vb : Value) (n : Nat) (xs : List Value) (z : Int) (w : World) (hb : base ≤ w.heap.size) (hown : w.ownsRow base 5 1 vb n xs) (hn : n ≤ 100000) (h1 : -1099511627776 ≤ z) (h2 : z ≤ 1099511627776) :
    Calls Try.prog 70 #[vb, .int .i64 z] w fun e w' => (∃ v, e = .returned v ∧ w'.ownsRow base 5 1 v (n + 6) (xs ++ (sixZ z).map (Value.int .u8))) ∧ Below base w w' := by
  have Hhown := Go.Lib.hid hown; clear hown
  go_enter Try.func70, Try.ntmps70
  go_wp2_with fail
  go_loopw [0, 5] (fun v0 i wr => ∃ (k : Nat) (t : Int), k ≤ 6 ∧ t = 5 - (k : Int) ∧ i = .int .i64 t ∧ wr.ownsRow base 5 1 v0 (n + k) (xs ++ ((sixZ z).take k).map (Value.int .u8)) ∧ Below base w wr) (fun _ i _ => (intOf i + 1).toNat)
  case atStart => exact ⟨0, 5, by omega, by omega, rfl, by simpa using Hhown.out, Below.refl _ _⟩
  case round =>
    obtain ⟨k, t, hk, ht, rfl, ho, hbw⟩ := hrel
    have hbs := Nat.le_trans hb hbw.size
    have hk6 : k = 0 ∨ k = 1 ∨ k = 2 ∨ k = 3 ∨ k = 4 ∨ k = 5 ∨ k = 6 := by omega
    rcases hk6 with rfl | rfl | rfl | rfl | rfl | rfl | rfl
    · obtain rfl : t = 5 := by omega
      clear ht
      have Hho := Go.Lib.hid ho; clear ho; have Hhbw := Go.Lib.hid hbw; clear hbw
      go_wp2_with (at_builtin; refine wpList_append_R rfl (.tmp 12) (.tmp 19) 98 rfl base 5 (.int .u8 0) 1 1 u_bytes i_byte rfl (by decide) _ _ _ _ _ _ rfl (Hho.out.alloc _) rfl _ (RRow.one _ _ _ _ (by decide)) (one_byte _) (by omega) (by decide) (alloc_le' hbs _) ?_; intro v' w1 hown1 hg1)
      have HB := Go.Lib.hid ((Hhbw.out.alloc hbs _).grown hg1 (alloc_le' hbs _) (fun k hk => (Hho.out.lt k hk).1))
      have HO := Go.Lib.hid hown1
      clear hown1 hg1
      go_wp2_with fail
      have HE9 := Go.Lib.hid (show (z + 140737488355328) / 1099511627776 % 256 = (z + 140737488355328) / 1099511627776 by omega)
      go_roundw
      case rel => exact ⟨1, _, by omega, by omega, rfl, by simpa [sixZ, HE9.out] using HO.out, HB.out⟩
      case measure => simp [intOf]
    · obtain rfl : t = 4 := by omega
      clear ht
      have Hho := Go.Lib.hid ho; clear ho; have Hhbw := Go.Lib.hid hbw; clear hbw
      go_wp2_with (at_builtin; refine wpList_append_R rfl (.tmp 12) (.tmp 19) 98 rfl base 5 (.int .u8 0) 1 1 u_bytes i_byte rfl (by decide) _ _ _ _ _ _ rfl (Hho.out.alloc _) rfl _ (RRow.one _ _ _ _ (by decide)) (one_byte _) (by omega) (by decide) (alloc_le' hbs _) ?_; intro v' w1 hown1 hg1)
      have HB := Go.Lib.hid ((Hhbw.out.alloc hbs _).grown hg1 (alloc_le' hbs _) (fun k hk => (Hho.out.lt k hk).1))
      have HO := Go.Lib.hid hown1
      clear hown1 hg1
      go_wp2_with fail
      go_roundw
      case rel => exact ⟨2, _, by omega, by omega, rfl, by simpa [sixZ, Nat.add_assoc] using HO.out, HB.out⟩
      case measure => simp [intOf]
    · obtain rfl : t = 3 := by omega
      clear ht
      have Hho := Go.Lib.hid ho; clear ho; have Hhbw := Go.Lib.hid hbw; clear hbw
      go_wp2_with (at_builtin; refine wpList_append_R rfl (.tmp 12) (.tmp 19) 98 rfl base 5 (.int .u8 0) 1 1 u_bytes i_byte rfl (by decide) _ _ _ _ _ _ rfl (Hho.out.alloc _) rfl _ (RRow.one _ _ _ _ (by decide)) (one_byte _) (by omega) (by decide) (alloc_le' hbs _) ?_; intro v' w1 hown1 hg1)
      have HB := Go.Lib.hid ((Hhbw.out.alloc hbs _).grown hg1 (alloc_le' hbs _) (fun k hk => (Hho.out.lt k hk).1))
      have HO := Go.Lib.hid hown1
      clear hown1 hg1
      go_wp2_with fail
      go_roundw
      case rel => exact ⟨3, _, by omega, by omega, rfl, by simpa [sixZ, Nat.add_assoc] using HO.out, HB.out⟩
      case measure => simp [intOf]
    · obtain rfl : t = 2 := by omega
      clear ht
      have Hho := Go.Lib.hid ho; clear ho; have Hhbw := Go.Lib.hid hbw; clear hbw
      go_wp2_with (at_builtin; refine wpList_append_R rfl (.tmp 12) (.tmp 19) 98 rfl base 5 (.int .u8 0) 1 1 u_bytes i_byte rfl (by decide) _ _ _ _ _ _ rfl (Hho.out.alloc _) rfl _ (RRow.one _ _ _ _ (by decide)) (one_byte _) (by omega) (by decide) (alloc_le' hbs _) ?_; intro v' w1 hown1 hg1)
      have HB := Go.Lib.hid ((Hhbw.out.alloc hbs _).grown hg1 (alloc_le' hbs _) (fun k hk => (Hho.out.lt k hk).1))
      have HO := Go.Lib.hid hown1
      clear hown1 hg1
      go_wp2_with fail
      go_roundw
      case rel => exact ⟨4, _, by omega, by omega, rfl, by simpa [sixZ, Nat.add_assoc] using HO.out, HB.out⟩
      case measure => simp [intOf]
    · obtain rfl : t = 1 := by omega
      clear ht
      have Hho := Go.Lib.hid ho; clear ho; have Hhbw := Go.Lib.hid hbw; clear hbw
      go_wp2_with (at_builtin; refine wpList_append_R rfl (.tmp 12) (.tmp 19) 98 rfl base 5 (.int .u8 0) 1 1 u_bytes i_byte rfl (by decide) _ _ _ _ _ _ rfl (Hho.out.alloc _) rfl _ (RRow.one _ _ _ _ (by decide)) (one_byte _) (by omega) (by decide) (alloc_le' hbs _) ?_; intro v' w1 hown1 hg1)
      have HB := Go.Lib.hid ((Hhbw.out.alloc hbs _).grown hg1 (alloc_le' hbs _) (fun k hk => (Hho.out.lt k hk).1))
      have HO := Go.Lib.hid hown1
      clear hown1 hg1
      go_wp2_with fail
      go_roundw
      case rel => exact ⟨5, _, by omega, by omega, rfl, by simpa [sixZ, Nat.add_assoc] using HO.out, HB.out⟩
      case measure => simp [intOf]
    · obtain rfl : t = 0 := by omega
      clear ht
      have Hho := Go.Lib.hid ho; clear ho; have Hhbw := Go.Lib.hid hbw; clear hbw
      go_wp2_with (at_builtin; refine wpList_append_R rfl (.tmp 12) (.tmp 19) 98 rfl base 5 (.int .u8 0) 1 1 u_bytes i_byte rfl (by decide) _ _ _ _ _ _ rfl (Hho.out.alloc _) rfl _ (RRow.one _ _ _ _ (by decide)) (one_byte _) (by omega) (by decide) (alloc_le' hbs _) ?_; intro v' w1 hown1 hg1)
      have HB := Go.Lib.hid ((Hhbw.out.alloc hbs _).grown hg1 (alloc_le' hbs _) (fun k hk => (Hho.out.lt k hk).1))
      have HO := Go.Lib.hid hown1
      clear hown1 hg1
      go_wp2_with fail
      go_roundw
      case rel => exact ⟨6, _, by omega, by omega, rfl, by simpa [sixZ, Nat.add_assoc] using HO.out, HB.out⟩
      case measure => simp [intOf]
    · obtain rfl : t = -1 := by omega
      clear ht
      have Hho := Go.Lib.hid ho; clear ho; have Hhbw := Go.Lib.hid hbw; clear hbw
      go_wp2_with fail
      go_ret
      exact ⟨⟨_, rfl, by simpa [sixZ] using Hho.out⟩, Hhbw.out⟩

end Go.Proofs.Ytopgdemmdcipcaa
