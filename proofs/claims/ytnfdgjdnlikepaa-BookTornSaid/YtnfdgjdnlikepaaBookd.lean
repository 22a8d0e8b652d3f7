/- That two lists of texts are alike; that book answers at all. -/
import Derived.Test.YtnfdgjdnlikepaaBookc
import Derived.Test.YtnfdgjdnlikepaaTxnb
namespace Go.Proofs.Ytnfdgjdnlikepaa
open Go.RowKit

theorem RTexts.shape {S : Nat → Prop} {w : World} {v : Value} {l : List ByteArray} (h : RTexts S w v l) : ∃ a cap, v = .slice a l.length cap ∧ l.length ≤ 17592186043904 := by
  obtain ⟨a, cap, he, h1, h2, h3, h4, h5⟩ := h
  exact ⟨a, cap, he, by omega⟩
theorem RTexts.later {S : Nat → Prop} {w w' : World} {v : Value} {l : List ByteArray} (h : RTexts S w v l) (hb : Below w.heap.size w w') : RTexts S w' v l := RRow.later h hb
theorem RTexts.at {S : Nat → Prop} {w : World} {a : Option Addr} {n cap : Nat} {l : List ByteArray} (h : RTexts S w (.slice a n cap) l) {k : Nat} {x : ByteArray} (hx : l[k]? = some x) :
    ∃ b off, a = some ⟨b, off, none⟩ ∧ S b ∧ b < w.heap.size ∧ w.cell? ⟨b, off + k, none⟩ = some (.string x) := by
  obtain ⟨a', cap', he, h1, h2, h3, h4, h5⟩ := h
  cases he
  obtain ⟨b, off, ha, hb, hc⟩ := h5 k (.string x) (by simp [hx])
  exact ⟨b, off, ha, hb, cell_lt hc, hc⟩

theorem sameTexts_any {S S' : Nat → Prop} (v u : Value) (l : List ByteArray) (w : World) (hv : RTexts S w v l) (hu : RTexts S' w u l) :
    Calls Try.prog 18 #[v, u] w fun e w' => e = .returned (.bool true) ∧ ∃ n, w' = w.drewN n := by
  obtain ⟨a, cap, rfl, hm⟩ := hv.shape
  obtain ⟨a2, cap2, rfl, hm2⟩ := hu.shape
  have hb : ((l.length : Int) != (l.length : Int)) = false := by simp
  have Hhv := Go.Lib.hid hv; clear hv; have Hhu := Go.Lib.hid hu; clear hu
  go_enter Try.func18, Try.ntmps18
  go_wp2_with fail
  go_loopw [13] (fun i wr => ∃ k : Nat, k ≤ l.length ∧ i = .int .i64 k ∧ ∃ n, wr = w.drewN n) (fun i _ => l.length - (intOf i).toNat)
  case atStart => exact ⟨0, Nat.zero_le _, rfl, 0, rfl⟩
  case round =>
    obtain ⟨k, hk, rfl, nd, rfl⟩ := hrel
    by_cases hlt : k < l.length
    · obtain ⟨x, hx⟩ := some_at hlt
      obtain ⟨b, off, rfl, hs, hbs, h0⟩ := Hhv.out.at hx
      obtain ⟨b1, off1, rfl, hs1, hbs1, h1⟩ := Hhu.out.at hx
      have Hhx := Go.Lib.hid hx; clear hx
      go_wp2_with fail
      go_quiet (fail)
      go_wp2_with fail
      go_roundw
      case rel => exact ⟨k + 1, by omega, by go_num, (by first | exact ⟨_, rfl⟩ | exact ⟨_, drewN_drewN _ _ _⟩)⟩
      case measure => simp [intOf]; omega
    · go_wp2_with fail
      go_ret
      exact ⟨rfl, _, rfl⟩

theorem books_write : wout ⟨#[]⟩ ⟨#[97, 98]⟩ = ⟨#[0, 2, 97, 98]⟩ ∧ wcode ⟨#[]⟩ ⟨#[97, 98]⟩ = 0 := by decide
theorem books_read : readL (⟨#[0, 2, 97, 98]⟩ : ByteArray).data.toList = ([⟨#[97, 98]⟩], 4) := by
  have h1 : readL [] = ([], 0) := readL_short (by decide)
  show readL [0, 2, 97, 98] = _
  rw [readL_go (by decide)]
  have : List.drop (recN 0 2) [(97 : UInt8), 98] = [] := by decide
  rw [this, h1]
  decide

theorem books_any (w : World) : Calls Try.prog 15 #[] w fun e w' => e = .returned (.bool true) ∧ Below w.heap.size w w' := by
  go_enter Try.func15, Try.ntmps15
  go_wp2_with fail
  refine (write_any _ _ _ (by decide) (by decide)).mono ?_
  rintro e w1 ⟨rfl, hb1⟩
  rw [books_write.1, books_write.2]
  go_wp2_with fail
  refine (read_any _ _ (by decide)).mono ?_
  rw [books_read]
  rintro e w2 ⟨v, rfl, hr, hb2⟩
  obtain ⟨a, cap, rfl, hm⟩ := RTexts.shape hr
  obtain ⟨b, off, rfl, hs, hbs, h0⟩ := RTexts.at hr (k := 0) rfl
  rw [Nat.add_zero] at h0
  have HB := Go.Lib.hid (hb1.trans (hb2.mono hb1.size))
  clear hr hb1 hb2 hs hbs hm
  go_wp2_with fail
  go_ret
  exact ⟨rfl, HB.out⟩

theorem keepBooks_any (w : World) : Calls Try.prog 23 #[] w fun e w' => e = .returned (.bool true) ∧ Below w.heap.size w w' := by
  go_enter Try.func23, Try.ntmps23
  go_wp2_with fail
  refine (write_any _ _ _ (by decide) (by decide)).mono ?_
  rintro e w1 ⟨rfl, hb1⟩
  rw [books_write.1, books_write.2]
  go_wp2_with fail
  refine (read_any _ _ (by decide)).mono ?_
  rw [books_read]
  rintro e w2 ⟨v, rfl, hr, hb2⟩
  obtain ⟨a, cap, rfl, hm⟩ := RTexts.shape hr
  obtain ⟨b, off, rfl, hs, hbs, h0⟩ := RTexts.at hr (k := 0) rfl
  rw [Nat.add_zero] at h0
  have HB := Go.Lib.hid (hb1.trans (hb2.mono hb1.size))
  clear hr hb1 hb2 hs hbs hm
  go_wp2_with fail
  go_ret
  exact ⟨rfl, HB.out⟩

theorem bookReads_walk (w : World) (log : ByteArray) (hl : log.size ≤ 140737488351232) :
    Calls Try.prog 4 #[.string log] w fun e w' => e = .returned (.bool true) ∧ Below w.heap.size w w' := by
  by_cases h1 : 65536 < log.size
  · go_enter Try.func4, Try.ntmps4
    go_wp2_with fail
    refine (books_any _).mono ?_
    rintro e w1 ⟨rfl, hb1⟩
    go_wp2_with fail
    go_ret
    exact ⟨rfl, hb1⟩
  · go_enter Try.func4, Try.ntmps4
    go_wp2_with fail
    refine (read_any _ _ (by omega)).mono ?_
    rintro e w1 ⟨v1, rfl, hr1, hb1⟩
    have HR1 := Go.Lib.hid hr1
    have HB1 := Go.Lib.hid hb1
    clear hr1 hb1
    go_wp2_with fail
    refine (readLog_any _ _ (by omega)).mono ?_
    rintro e w2 ⟨v2, rfl, hr2, hb2⟩
    have HR2 := Go.Lib.hid hr2
    have HR12 := Go.Lib.hid (RTexts.later HR1.out (hb2.mono (Nat.le_refl _)))
    have HB2 := Go.Lib.hid (HB1.out.trans (hb2.mono HB1.out.size))
    clear hr2 hb2
    have hq : (((readL log.data.toList).2 : Int) == ((readL log.data.toList).2 : Int)) = true := by simp
    go_wp2_with fail
    refine (sameTexts_any _ _ _ _ HR12.out HR2.out).mono ?_
    rintro e w3 ⟨rfl, n, rfl⟩
    have HB3 := Go.Lib.hid (Below.drewN HB2.out n)
    go_wp2_with fail
    refine (books_any _).mono ?_
    rintro e w4 ⟨rfl, hb4⟩
    go_wp2_with fail
    go_ret
    exact ⟨rfl, HB3.out.trans (hb4.mono HB3.out.size)⟩

theorem bookWrites_walk (w : World) (log : ByteArray) (hl : log.size ≤ 140737488351232) (s : ByteArray) (hs : s.size ≤ 140737488351232) (n : Int) :
    Calls Try.prog 5 #[.string log, .string s, .int .i64 n] w fun e w' => e = .returned (.bool true) ∧ Below w.heap.size w w' := by
  go_enter Try.func5, Try.ntmps5
  go_wp2_with fail
  refine (write_any _ _ _ hl hs).mono ?_
  rintro e w1 ⟨rfl, hb1⟩
  have HB1 := Go.Lib.hid hb1
  clear hb1
  go_wp2_with fail
  refine (writeLog_any _ _ _ hl hs).mono ?_
  rintro e w2 ⟨rfl, hb2⟩
  have HB2 := Go.Lib.hid (HB1.out.trans (hb2.mono HB1.out.size))
  clear hb2 HB1
  go_wp2_with fail
  refine (tear_any _ _ _ _ hl hs).mono ?_
  rintro e w3 ⟨rfl, hb3⟩
  have HB3 := Go.Lib.hid (HB2.out.trans (hb3.mono HB2.out.size))
  clear hb3 HB2
  go_wp2_with fail
  refine (tearLog_any _ _ _ _ hl hs).mono ?_
  rintro e w4 ⟨rfl, hb4⟩
  have HB4 := Go.Lib.hid (HB3.out.trans (hb4.mono HB3.out.size))
  clear hb4 HB3
  go_wp2_with fail
  refine (books_any _).mono ?_
  rintro e w5 ⟨rfl, hb5⟩
  go_wp2_with fail
  go_ret
  exact ⟨rfl, HB4.out.trans (hb5.mono HB4.out.size)⟩

end Go.Proofs.Ytnfdgjdnlikepaa
