/- What the proof of TopRuns rests on, part 7: rules of walks, what functions compute, and plain laws of it. -/
import Derived.Test.YteilffoclpgijaaTopRunsB6
namespace Go.Proofs.Yteilffoclpgijaa
open Go.RowKit
open Rep (rep)
theorem topSameNumbers_l1_eq {a : List Int} (ha : a.length ≤ 9000000000000000) : ∀ (n m k : Nat), a.length = k + m → m < n → topSameNumbers_l1 a a n k = some true
  | 0, m, k, _, h => absurd h (by omega)
  | n + 1, 0, k, hk, _ => by rw [topSameNumbers_l1, bif_f (dec_f (by omega))]
  | n + 1, m + 1, k, hk, hn => by
    obtain ⟨x, hx⟩ : ∃ x, a[k]? = some x := ⟨a[k], by simp⟩
    have := topSameNumbers_l1_eq ha n m (k + 1) (by omega) (by omega)
    rw [topSameNumbers_l1, bif_t (dec_t (by omega)), idx_nat, hx, some_bind, some_bind, bif_f (by simp), wr64 (by omega) (by omega)]
    simpa using this
theorem topSameNumbersD_refl {a : List Int} {fu : Nat} (ha : a.length ≤ 9000000000000000) (hf : a.length < fu) : topSameNumbersD fu a a = some true := by
  rw [topSameNumbersD, bif_f (by simp)]
  exact topSameNumbers_l1_eq ha fu a.length 0 (by omega) hf
theorem topSameReplyD_refl {r : GReply} {fu : Nat} (ha : r.values.length ≤ 1000) (hf : 1100 ≤ fu) : topSameReplyD fu r r = some true := by
  unfold topSameReplyD topSameReply_j1
  rw [bif_t (by simp), bif_t (by simp), topSameNumbersD_refl (by omega) (by omega), some_bind]
structure Alike (c d : GCluster) : Prop where
  nodes : c.nodes = d.nodes
  down : c.down = d.down
  logs : c.logs = d.logs
  cases : c.cases = d.cases
theorem Alike.refl (c : GCluster) : Alike c c := ⟨rfl, rfl, rfl, rfl⟩
theorem toldZ_small (c : GCluster) (x : Int) : (toldZ c x).values.length ≤ 4 := by
  show (resultC (vget c.cases x.toNat)).1.length ≤ 4
  unfold resultC
  cases ((vget c.cases x.toNat).begun && (goodC (vget c.cases x.toNat) && (wholeC (vget c.cases x.toNat) 0 && wholeC (vget c.cases x.toNat) 1)))
  · simp
  · simp only [cond_true, List.length_take, Vector.length_toList]
    omega
theorem comeZ_acts {c : GCluster} {net : List ByteArray} {n : Nat} {f : GFrame} {s : ByteArray} : (comeZ c net n f s).2.1.acts = c.acts ∧ (comeZ c net n f s).2.1.begun = c.begun ∧ (comeZ c net n f s).2.1.cases = c.cases := by
  unfold comeZ
  cases vget c.down n
  · cases ((takeN (vget c.nodes n) n f).2.2 != 0)
    · cases decide (vget c.tear n > 0)
      · cases (wcode (vget c.logs n) s != 0) <;> exact ⟨rfl, rfl, rfl⟩
      · exact ⟨rfl, rfl, rfl⟩
    · exact ⟨rfl, rfl, rfl⟩
  · exact ⟨rfl, rfl, rfl⟩
theorem frm2_acts {c : GCluster} {net : List ByteArray} {k : Int} {f : GFrame} {s : ByteArray} : (frm2 c net k f s).2.1.acts = c.acts ∧ (frm2 c net k f s).1.values.length ≤ 4 := by
  unfold frm2
  cases (k == 4)
  · cases (f.kind == 1 || f.kind == 3)
    · cases ((takeC (vget c.cases f.id.toNat) f.id f).2.2 != 0)
      · exact ⟨rfl, toldZ_small _ _⟩
      · exact ⟨rfl, Nat.zero_le _⟩
    · refine ⟨comeZ_acts.1, ?_⟩
      show (bif (comeZ c net f.node.toNat f s).1 != 0 then errR (comeZ c net f.node.toNat f s).1 else okR f.id []).values.length ≤ 4
      cases ((comeZ c net f.node.toNat f s).1 != 0) <;> exact Nat.zero_le _
  · exact ⟨rfl, Nat.zero_le _⟩
theorem actZ_small {c : GCluster} {net : List ByteArray} {a : GAct} : (actZ c net a).1.values.length ≤ 4 := by
  unfold actZ
  cases decide (c.acts ≥ 400)
  · rw [cond_false]
    generalize ({ c with acts := c.acts + 1 } : GCluster) = d
    unfold doA
    cases (a.kind == 1)
    · rw [cond_false]
      cases (a.kind == 2 || (a.kind == 3 || a.kind == 4))
      · rw [cond_false]
        cases (a.kind == 5)
        · rw [cond_false]
          cases (a.kind == 6 || (a.kind == 7 || a.kind == 8))
          · exact Nat.zero_le _
          · rw [cond_true]
            unfold powZ
            cases powOk a
            · exact Nat.zero_le _
            · rw [cond_true]
              cases (!(vget d.down a.n.toNat == (a.kind == 8)))
              · rw [cond_false]
                cases (a.kind == 7)
                · rw [cond_false]
                  cases (a.kind == 6) <;> exact Nat.zero_le _
                · exact Nat.zero_le _
              · exact Nat.zero_le _
        · rw [cond_true]
          unfold agaZ
          cases decide (0 ≤ a.n ∧ a.n < d.begun)
          · exact Nat.zero_le _
          · exact toldZ_small _ _
      · rw [cond_true]
        unfold frmZ
        cases decide (0 ≤ a.n ∧ a.n < net.length)
        · exact Nat.zero_le _
        · exact frm2_acts.2
    · rw [cond_true]
      unfold begZ
      cases decide (d.begun ≥ 32)
      · rw [cond_false]
        cases ((beginC { id := d.begun, ops := a.ops }).2.2 != 0) <;> exact Nat.zero_le _
      · exact Nat.zero_le _
  · exact Nat.zero_le _
theorem goZ_small : ∀ (l : List GAct) (c : GCluster) (net : List ByteArray), ∀ r ∈ (goZ c net l).1, r.values.length ≤ 4
  | [], _, _, r, hr => by cases hr
  | a :: t, c, net, r, hr => by
    rcases List.mem_cons.1 (show r ∈ (actZ c net a).1 :: (goZ (actZ c net a).2.1 (actZ c net a).2.2 t).1 from hr) with e | hr
    · rw [e]; exact actZ_small
    · exact goZ_small t _ _ r hr
theorem clRun_l1_eq {fu : Nat} (hfu : 70000 ≤ fu) {l : List GAct} (hl : l.length ≤ 400) : ∀ (n m k : Nat) (c : GCluster) (net : List ByteArray) (out : List GReply), l.length = k + m → m < n → out.length = k → CInv c net → clRun_l1 fu l n c net out k = some (out ++ (goZ c net (l.drop k)).1, 0)
  | 0, m, k, _, _, _, _, h, _, _ => absurd h (by omega)
  | n + 1, 0, k, c, net, out, hk, _, _, _ => by
    rw [clRun_l1, bif_f (dec_f (by omega)), List.drop_of_length_le (by omega)]
    simp [goZ]
  | n + 1, m + 1, k, c, net, out, hk, hn, ho, h => by
    have hb : Rep.bytes GReply = 40 := rfl
    have hlt : k < l.length := by omega
    rw [clRun_l1, bif_t (dec_t (by omega)), idx_nat, List.getElem?_eq_getElem hlt, some_bind, some_bind, clDoD_eq hfu h, some_bind, app_ok (by rw [hb]; simp only [List.length_singleton]; omega), some_bind, wrsB k (by omega), clRun_l1_eq hfu hl n m (k + 1) _ _ _ (by omega) (by omega) (by simp [ho]) h.do, List.drop_eq_getElem_cons hlt]
    simp [goZ]
theorem clRunD_eq {fu : Nat} (hfu : 70000 ≤ fu) {l : List GAct} (hl : l.length ≤ 400) : clRunD fu l = some ((goZ newCl [] l).1, 0) := by
  unfold clRunD
  rw [bif_f (dec_f (by omega)), clNewD_eq, some_bind]
  exact clRun_l1_eq hfu hl fu l.length 0 newCl [] [] (by omega) (by omega) rfl new_inv
theorem cut_at (x : Int) (n : Nat) (hn : n ≤ 150) : ∃ k : Nat, k ≤ n ∧ Int.tmod (IntKind.wrap .i64 ((IntKind.wrap .i64 ((Int.tmod x (IntKind.wrap .i64 ((n : Int) + 1))) + (n : Int))) + 1)) (IntKind.wrap .i64 ((n : Int) + 1)) = (k : Int) := by
  have e : IntKind.wrap .i64 ((n : Int) + 1) = (n : Int) + 1 := wr64 (by omega) (by omega)
  have h1 := Int.tmod_lt_of_pos x (show (0 : Int) < (n : Int) + 1 by omega)
  have h2 : -((n : Int) + 1) < Int.tmod x ((n : Int) + 1) := Int.lt_tmod_of_pos x (by omega)
  rw [e, wr64 (x := Int.tmod x ((n : Int) + 1) + (n : Int)) (by omega) (by omega), wr64 (by omega) (by omega)]
  have h3 := Int.tmod_nonneg ((n : Int) + 1) (show 0 ≤ Int.tmod x ((n : Int) + 1) + (n : Int) + 1 by omega)
  have h4 := Int.tmod_lt_of_pos (Int.tmod x ((n : Int) + 1) + (n : Int) + 1) (show (0 : Int) < (n : Int) + 1 by omega)
  exact ⟨(Int.tmod (Int.tmod x ((n : Int) + 1) + (n : Int) + 1) ((n : Int) + 1)).toNat, by omega, by omega⟩
theorem topRuns_l1_eq {fu : Nat} (hfu : 1100 ≤ fu) {l : List GAct} {x : Int} {k : Nat} (hk : Int.tmod (IntKind.wrap .i64 ((IntKind.wrap .i64 ((Int.tmod x (IntKind.wrap .i64 ((l.length : Int) + 1))) + (l.length : Int))) + 1)) (IntKind.wrap .i64 ((l.length : Int) + 1)) = (k : Int)) {out : List GReply} (hout : k ≤ out.length) (hsm : ∀ r ∈ out, r.values.length ≤ 4) (hk150 : k ≤ 150) :
    ∀ (n m i : Nat), k = i + m → m < n → topRuns_l1 fu l x (out, 0) (out.take k, 0) n i = some true
  | 0, m, i, _, h => absurd h (by omega)
  | n + 1, 0, i, hi, _ => by rw [topRuns_l1, hk, bif_f (dec_f (by omega))]
  | n + 1, m + 1, i, hi, hn => by
    have hlt : i < out.length := by omega
    rw [topRuns_l1, hk, bif_t (dec_t (by omega)), idx_nat, List.getElem?_eq_getElem hlt, some_bind, idx_nat, List.getElem?_take, if_pos (by omega), List.getElem?_eq_getElem hlt, some_bind, topSameReplyD_refl (by have := hsm _ (List.getElem_mem hlt); omega) hfu, some_bind, bif_f (c := !true) rfl, wrsB i (by omega)]
    exact topRuns_l1_eq hfu hk hout hsm hk150 n m (i + 1) (by omega) (by omega)
theorem topRunsD_eq {fu : Nat} (hfu : fu = 70000) {l : List GAct} (hl : l.length ≤ 17592186043904) (x : Int) : topRunsD fu l x = some true := by
  have hb : Rep.bytes GAct = 48 := rfl
  have ha : aliveD fu = some true := by rw [hfu]; exact alive_k
  unfold topRunsD topRuns_j4
  rw [ha, some_bind, bif_f (c := !true) rfl]
  by_cases h150 : (l.length : Int) > 150
  · rw [dec_t h150, cond_true, some_bind]
  · obtain ⟨k, hkn, hk⟩ := cut_at x l.length (by omega)
    have hnz : nonz (IntKind.wrap .i64 ((l.length : Int) + 1)) = some () := if_pos (by rw [wr64 (by omega) (by omega)]; omega)
    have hlen := goZ_len l newCl []
    rw [dec_f h150, cond_false, topRuns_j1, hnz, some_bind, some_bind, app_ok (by rw [hb]; simp only [List.length_nil]; omega), some_bind, List.nil_append, clRunD_eq (by omega) (by omega), some_bind, hk, cutL_take hkn, some_bind, app_ok (by rw [hb]; simp only [List.length_nil, List.length_take]; omega), some_bind, List.nil_append,
      clRunD_eq (by omega) (by rw [List.length_take]; omega), some_bind, goZ_take, bif_f (by rfl), bif_f (by rfl), bif_f (by rw [hlen]; simp), topRuns_j3, bif_f (by rw [List.length_take, hlen]; simp; omega), topRuns_j2]
    exact topRuns_l1_eq (by omega) hk (by omega) (goZ_small l newCl []) (by omega) fu k 0 (by omega) (by omega)
end Go.Proofs.Yteilffoclpgijaa
namespace Go.Proofs.Yteilffoclpgijaa
open Go.RowKit
open Rep (rep)
theorem op3 : Opn Try.prog 3 Int := opn_int Try.underlying3 (by kernel_rfl)
theorem op65 : Opn Try.prog 65 GOp := ⟨by kernel_rfl, fun H enc w fuel cs d p h hw => by
  have hl : cs.length = 3 := by obtain ⟨_, _, _, _, hl, _⟩ := DataW.trod_struct Try.underlying65 h; rw [hl]; kernel_rfl
  obtain ⟨x0, h0⟩ := opn_field (α := Int) (o := 0) (k := 1) Try.underlying65 h hw 0 _ rfl rfl rfl (by kernel_rfl) op3
  obtain ⟨x1, h1⟩ := opn_field (α := Int) (o := 1) (k := 1) Try.underlying65 h hw 1 _ rfl rfl rfl (by kernel_rfl) op3
  obtain ⟨x2, h2⟩ := opn_field (α := Int) (o := 2) (k := 1) Try.underlying65 h hw 2 _ rfl rfl rfl (by kernel_rfl) op3
  exact ⟨⟨x0, x1, x2⟩, GOp.fol ⟨hl, h0, h1, h2⟩⟩⟩
theorem op27 : Opn Try.prog 27 (List (GOp)) := opn_slice Try.underlying27 (by kernel_rfl) op65 (by decide) (by kernel_rfl)
theorem op43 : Opn Try.prog 43 GAct := ⟨by kernel_rfl, fun H enc w fuel cs d p h hw => by
  have hl : cs.length = 4 := by obtain ⟨_, _, _, _, hl, _⟩ := DataW.trod_struct Try.underlying43 h; rw [hl]; kernel_rfl
  obtain ⟨x0, h0⟩ := opn_field (α := Int) (o := 0) (k := 1) Try.underlying43 h hw 0 _ rfl rfl rfl (by kernel_rfl) op3
  obtain ⟨x1, h1⟩ := opn_field (α := Int) (o := 1) (k := 1) Try.underlying43 h hw 1 _ rfl rfl rfl (by kernel_rfl) op3
  obtain ⟨x2, h2⟩ := opn_field (α := Int) (o := 2) (k := 1) Try.underlying43 h hw 2 _ rfl rfl rfl (by kernel_rfl) op3
  obtain ⟨x3, h3⟩ := opn_field (α := List (GOp)) (o := 3) (k := 1) Try.underlying43 h hw 3 _ rfl rfl rfl (by kernel_rfl) op27
  exact ⟨⟨x0, x1, x2, x3⟩, GAct.fol ⟨hl, h0, h1, h2, h3⟩⟩⟩
theorem op22 : Opn Try.prog 22 (List (GAct)) := opn_slice Try.underlying22 (by kernel_rfl) op43 (by decide) (by kernel_rfl)
end Go.Proofs.Yteilffoclpgijaa
