/- The walk of the law BookTorn. -/
import Derived.Test.YtnfdgjdnlikepaaBooke
namespace Go.Proofs.Ytnfdgjdnlikepaa
open Go.RowKit

theorem own_below {w w' : World} {base : Nat} {e : TypeId} {size : Nat} {v : Value} {n : Nat} {xs : List Value} (h : w.ownsRow base e size v n xs) (hb : Below w.heap.size w w') : w'.ownsRow base e size v n xs :=
  h.kept (row := none) ⟨hb.os, hb.tape, hb.output, hb.size, fun k hk _ => hb.block k hk⟩ (by cases v.ownBlock <;> simp)

set_option maxRecDepth 100000 in
set_option maxHeartbeats 2000000 in
theorem bookTorn_walk (w : World) (vl : Value) (l : List ByteArray) (hl : RRow (fun b => b < w.heap.size) w vl 1 16 l.length (l.map Value.string) ∧ ∀ x ∈ l, x.size ≤ 140737488351232) (s : ByteArray) (hs : s.size ≤ 140737488351232) (n : Int) :
    Calls Try.prog 6 #[vl, .string s, .int .i64 n] w fun e w' => e = .returned (.bool true) ∧ Below w.heap.size w w' := by
  obtain ⟨hv, hls⟩ := hl
  obtain ⟨a, cap, rfl, hm⟩ := RTexts.shape hv
  have HV := Go.Lib.hid hv
  have HLS := Go.Lib.hid hls
  clear hv hls
  go_enter Try.func6, Try.ntmps6
  go_wp2_with fail
  go_loopw [7, 8, 9] (fun v7 v8 i wr => ∃ (k : Nat) (log : ByteArray) (want : List ByteArray), k ≤ 60 ∧ k ≤ l.length ∧ i = .int .i64 k ∧ v7 = .string log ∧ log.size ≤ 65536 ∧ Whole log want ∧ want.length ≤ k ∧ wr.ownsRow w.heap.size 9 1 v8 want.length (want.map Value.string) ∧ Below w.heap.size w wr) (fun _ _ i _ => 60 - (intOf i).toNat)
  case atStart => exact ⟨0, _, [], Nat.zero_le _, Nat.zero_le _, rfl, rfl, by decide, whole_nil, Nat.le_refl _, ownsRow_nil _ _ _ _, Below.refl _ _⟩
  case round =>
    obtain ⟨k, log, want, hk, hk2, rfl, rfl, hlog, hwh, hwl, hown, hb⟩ := hrel
    by_cases hlt : k < l.length ∧ k < 60
    · obtain ⟨hlt, hlt2⟩ := hlt
      obtain ⟨x, hx⟩ := some_at hlt
      have hxs := HLS.out x (List.mem_of_getElem? hx)
      obtain ⟨b, off, rfl, hs1, hbs, h0⟩ := RTexts.at (RTexts.later HV.out hb) hx
      have Hhwh := Go.Lib.hid hwh; clear hwh; have Hhown := Go.Lib.hid hown; clear hown; have Hhb := Go.Lib.hid hb; clear hb; have Hhx := Go.Lib.hid hx; clear hx
      go_wp2_with fail
      refine (write_any _ _ _ (by omega) hxs).mono ?_
      rintro e w1 ⟨rfl, hb1⟩
      have HB2 := Go.Lib.hid (Hhb.out.trans (hb1.mono Hhb.out.size))
      rcases wcode_or log x with ⟨hc, h4, h1, h6⟩ | ⟨hc, ho⟩
      · have hcb : (wcode log x == 0) = true := by simp [hc]
        have h0 : w1.cell? ⟨b, off + k, none⟩ = some (.string x) := by rw [hb1.cell (p := ⟨b, off + k, none⟩) hbs]; exact h0
        have HO2 := Go.Lib.hid (own_below Hhown.out hb1)
        have hwn := whole_next Hhwh.out x h1 h4
        have hwz := wtext_size log x
        rw [← wout_yes hc]
        have Hhc := Go.Lib.hid hc; clear hc; have Hhwn := Go.Lib.hid hwn; clear hwn; have Hhwz := Go.Lib.hid hwz; clear hwz; have Hhb1 := Go.Lib.hid hb1; clear hb1
        go_wp2_with (at_builtin; refine wpList_append_R rfl (.tmp 44) (.tmp 49) 23 rfl w.heap.size 9 (.string ⟨#[]⟩) 1 16 u_strs i_str rfl (by decide) _ _ _ _ _ _ rfl (HO2.out.alloc _) rfl _ (RRow.one _ _ _ _ (by decide)) (one_str _) (by omega) (by decide) (alloc_le HB2.out.size _) ?_; intro v' w2 hown1 hg1)
        have HOP := Go.Lib.hid (own_put_str hown1)
        have HB3 := Go.Lib.hid ((HB2.out.alloc HB2.out.size _).grown hg1 (alloc_le HB2.out.size _) (fun k hk => (HO2.out.lt k hk).1))
        clear hown1 hg1
        go_wp2_with fail
        go_roundw
        case rel => exact ⟨k + 1, _, _, by omega, by omega, by go_num, rfl, by rw [Hhwz.out]; omega, Hhwn.out, by simp; omega, HOP.out, HB3.out⟩
        case measure => simp [intOf]; omega
      · have hcb : (wcode log x == 0) = false := by simpa using hc
        have HO2 := Go.Lib.hid (own_below Hhown.out hb1)
        rw [ho]
        have Hhc := Go.Lib.hid hc; clear hc; have Hhb1 := Go.Lib.hid hb1; clear hb1; have Hho := Go.Lib.hid ho; clear ho
        clear h0
        go_wp2_with fail
        go_roundw
        case rel => exact ⟨k + 1, _, _, by omega, by omega, by go_num, rfl, hlog, Hhwh.out, by omega, HO2.out, HB2.out⟩
        case measure => simp [intOf]; omega
    · have hend : ¬ k < l.length ∨ ¬ k < 60 := by omega
      have hr8 : RTexts (fun b => w.heap.size ≤ b) wr u8 want := RRow.of_own (bytes := 16) hown (by omega)
      obtain ⟨a8, cap8, rfl, hm8⟩ := hr8.shape
      have hq1 : ((want.length : Int) != (want.length : Int)) = false := by simp
      have hq2 : ((log.size : Int) != (log.size : Int)) = false := by simp
      have hq3 : ((want.length : Int) == (want.length : Int)) = true := by simp
      have Hhwh := Go.Lib.hid hwh; clear hwh; have Hhb := Go.Lib.hid hb; clear hb; have Hhr8 := Go.Lib.hid hr8; clear hr8
      clear hown
      by_cases c1 : k < l.length
      all_goals
        go_wp2_with fail
        refine (read_any _ _ hlog).mono ?_
        rw [Hhwh.out]
        rintro e w1 ⟨v1, rfl, hr1, hb1⟩
        obtain ⟨a1, cap1, rfl, hm1⟩ := RTexts.shape hr1
        have HB1 := Go.Lib.hid (Hhb.out.trans (hb1.mono Hhb.out.size))
        have HR8 := Go.Lib.hid (RTexts.later Hhr8.out hb1)
        have HR1 := Go.Lib.hid hr1
        clear hr1 hb1 hm1
        go_wp2_with fail
        refine (keepBooks_any _).mono ?_
        rintro e w2 ⟨rfl, hb2⟩
        have HB2 := Go.Lib.hid (HB1.out.trans (hb2.mono HB1.out.size))
        have HR82 := Go.Lib.hid (RTexts.later HR8.out hb2)
        have HR12 := Go.Lib.hid (RTexts.later HR1.out hb2)
        clear hb2 HB1 HR8 HR1
        go_wp2_with fail
        go_loopw [73] (fun i wr => ∃ m : Nat, m ≤ want.length ∧ i = .int .i64 m ∧ ∃ n, wr = w2.drewN n) (fun i _ => want.length - (intOf i).toNat)
        case atStart => exact ⟨0, Nat.zero_le _, rfl, 0, rfl⟩
        case round =>
          obtain ⟨m, hm, rfl, nd, rfl⟩ := hrel
          by_cases hmt : m < want.length
          · obtain ⟨x, hx⟩ := some_at hmt
            obtain ⟨b, off, rfl, hs, hbs, h0⟩ := HR12.out.at hx
            obtain ⟨b1, off1, rfl, hs1, hbs1, h1⟩ := HR82.out.at hx
            have Hhx := Go.Lib.hid hx; clear hx
            go_wp2_with fail
            go_quiet (fail)
            go_wp2_with fail
            go_roundw
            case rel => exact ⟨m + 1, by omega, by go_num, (by first | exact ⟨_, rfl⟩ | exact ⟨_, drewN_drewN _ _ _⟩)⟩
            case measure => simp [intOf]; omega
          · have HBd := Go.Lib.hid (Below.drewN HB2.out nd)
            have HRd := Go.Lib.hid (show RTexts _ (w2.drewN nd) _ want from HR12.out)
            go_wp2_with fail
            refine (write_any _ _ _ (by omega) hs).mono ?_
            rintro e w3 ⟨rfl, hb3⟩
            have HB3 := Go.Lib.hid (HBd.out.trans (hb3.mono HBd.out.size))
            have HR3 := Go.Lib.hid (RTexts.later HRd.out hb3)
            clear hb3 HBd HRd HR12 HR82 HB2
            rcases wcode_or log s with ⟨hc, h4, h1, h6⟩ | ⟨hc, ho⟩
            · have hcb : (wcode log s != 0) = false := by simp [hc]
              obtain ⟨ht1, ht2⟩ := whole_tear Hhwh.out s n h1 h4 hc
              have HT1 := Go.Lib.hid ht1
              have HT2 := Go.Lib.hid ht2
              have ht3 : tornLen s n ≤ s.size + 2 := by unfold tornLen; split <;> (try split) <;> omega
              have ht4 : (tearZ log s n).size ≤ 65536 := by omega
              have HC := Go.Lib.hid hc
              clear ht1 ht2 hc
              go_wp2_with fail
              refine (tear_any _ _ _ _ (by omega) hs).mono ?_
              rintro e w4 ⟨rfl, hb4⟩
              have HB4 := Go.Lib.hid (HB3.out.trans (hb4.mono HB3.out.size))
              have HR4 := Go.Lib.hid (RTexts.later HR3.out hb4)
              clear hb4 HB3 HR3
              go_wp2_with fail
              refine (read_any _ _ ht4).mono ?_
              rw [HT1.out]
              by_cases hn : (s.size : Int) + 2 ≤ n
              · rw [if_pos hn]
                rintro e w5 ⟨v5, rfl, hr5, hb5⟩
                obtain ⟨a5, cap5, rfl, hm5⟩ := RTexts.shape hr5
                have HB5 := Go.Lib.hid (HB4.out.trans (hb5.mono HB4.out.size))
                have HR45 := Go.Lib.hid (RTexts.later HR4.out hb5)
                have HR5 := Go.Lib.hid hr5
                clear hr5 hb5 HB4 HR4 hm5
                have tz : tornLen s n = s.size + 2 := by unfold tornLen; split <;> (try split) <;> omega
                have hz : (tearZ log s n).size = log.size + (s.size + 2) := by rw [HT2.out, tz]
                have g1 : ((log.size : Int) + ((s.size : Int) + 2) != (log.size : Int)) = true := by simp; omega
                have g2 : ((want.length : Int) + 1 == (want.length : Int)) = false := by simp; omega
                have g3 : ((want.length : Int) + 1 == (want.length : Int) + 1) = true := by simp
                have g4 : ((log.size : Int) + ((s.size : Int) + 2) == (log.size : Int) + ((s.size : Int) + 2)) = true := by simp
                have gw : decide ((2 : Int) + (s.size : Int) ≤ n) = true := by simp; omega
                clear tz
                go_wp2_with fail
                go_loopw [134] (fun i wr => ∃ m : Nat, m ≤ want.length ∧ i = .int .i64 m ∧ ∃ n, wr = w5.drewN n) (fun i _ => want.length - (intOf i).toNat)
                case atStart => exact ⟨0, Nat.zero_le _, rfl, 0, rfl⟩
                case round =>
                  obtain ⟨m, hm, rfl, nd, rfl⟩ := hrel
                  by_cases hmt : m < want.length
                  · obtain ⟨x, hx⟩ := some_at hmt
                    obtain ⟨b, off, rfl, hs, hbs, h0⟩ := HR45.out.at hx
                    obtain ⟨b1, off1, rfl, hs1, hbs1, h1⟩ := HR5.out.at (k := m) (x := x) (by rw [List.getElem?_append_left hmt]; exact hx)
                    have Hhx := Go.Lib.hid hx; clear hx
                    go_wp2_with fail
                    go_quiet (fail)
                    go_wp2_with fail
                    go_roundw
                    case rel => exact ⟨m + 1, by omega, by go_num, (by first | exact ⟨_, rfl⟩ | exact ⟨_, drewN_drewN _ _ _⟩)⟩
                    case measure => simp [intOf]; omega
                  · have HBd := Go.Lib.hid (Below.drewN HB5.out nd)
                    obtain ⟨b1, off1, rfl, hs1, hbs1, h1⟩ := HR5.out.at (k := want.length) (x := s) (by simp)
                    go_wp2_with fail
                    go_ret
                    exact ⟨rfl, HBd.out⟩
              · rw [if_neg hn]
                rintro e w5 ⟨v5, rfl, hr5, hb5⟩
                obtain ⟨a5, cap5, rfl, hm5⟩ := RTexts.shape hr5
                have HB5 := Go.Lib.hid (HB4.out.trans (hb5.mono HB4.out.size))
                have HR45 := Go.Lib.hid (RTexts.later HR4.out hb5)
                have HR5 := Go.Lib.hid hr5
                clear hr5 hb5 HB4 HR4 hm5
                go_wp2_with fail
                go_loopw [134] (fun i wr => ∃ m : Nat, m ≤ want.length ∧ i = .int .i64 m ∧ ∃ n, wr = w5.drewN n) (fun i _ => want.length - (intOf i).toNat)
                case atStart => exact ⟨0, Nat.zero_le _, rfl, 0, rfl⟩
                case round =>
                  obtain ⟨m, hm, rfl, nd, rfl⟩ := hrel
                  by_cases hmt : m < want.length
                  · obtain ⟨x, hx⟩ := some_at hmt
                    obtain ⟨b, off, rfl, hs, hbs, h0⟩ := HR45.out.at hx
                    obtain ⟨b1, off1, rfl, hs1, hbs1, h1⟩ := HR5.out.at (k := m) (x := x) (by exact hx)
                    have Hhx := Go.Lib.hid hx; clear hx
                    go_wp2_with fail
                    go_quiet (fail)
                    go_wp2_with fail
                    go_roundw
                    case rel => exact ⟨m + 1, by omega, by go_num, (by first | exact ⟨_, rfl⟩ | exact ⟨_, drewN_drewN _ _ _⟩)⟩
                    case measure => simp [intOf]; omega
                  · have HBd := Go.Lib.hid (Below.drewN HB5.out nd)
                    go_wp2_with fail
                    go_ret
                    exact ⟨rfl, HBd.out⟩
            · have hcb : (wcode log s != 0) = true := by simpa using hc
              have Hhc := Go.Lib.hid hc; clear hc; have Hho := Go.Lib.hid ho; clear ho
              go_wp2_with fail
              go_ret
              exact ⟨rfl, HB3.out⟩

end Go.Proofs.Ytnfdgjdnlikepaa
