/- Functions as values; rows of one's own in fields of structs; rows that may turn (stacks). Nothing of the program is named here. -/
import Derived.Test.YtopgdemmdcipcaaDl
import Derived.Test.YtopgdemmdcipcaaDm
namespace Go.Proofs.Ytopgdemmdcipcaa
open Go.RowKit
open Rep (rep)

section
variable {P : Program} {n : Nat} {Q : Exit → Tm → World → Prop} {T : Tm} {w w0 : World} {X : Nat → Prop} {M : Mm} {H : List Ent} {K : Tm → World → Prop} {dst : Option Tmp} {ty : TypeId} {pos : String} {af : Array Edge} {g : Option (Nat × Bool)}

/-- A call of what a slot holds. -/
theorem OW_fn {f : FuncId} {x : Operand} {args : Array Operand} {ats : Array TypeId} {Kt : Prop} (hx : evT T x = evT T (.func f)) (h : Kt → OW P n Q ⟨dst, .call ⟨.value (.func f), args, ats⟩, ty, pos, af, g⟩ T w K) (k : Kt) :
    OW P n Q ⟨dst, .call ⟨.value x, args, ats⟩, ty, pos, af, g⟩ T w K := by
  intro hok a ha
  have h1 := h k hok a ha
  unfold Oper.wp at h1 ⊢
  have e : execOp a.eval ⟨dst, .call ⟨.value x, args, ats⟩, ty, pos, af, g⟩ = execOp a.eval ⟨dst, .call ⟨.value (.func f), args, ats⟩, ty, pos, af, g⟩ := by
    rw [ha.eval]
    simp only [execOp, resolve, hx]
  rw [e]
  exact h1

def nonz (b : Int) : Option Unit := if b ≠ 0 then some () else none
theorem nonz_some {b : Int} {u : Unit} (h : nonz b = some u) : b ≠ 0 := by
  unfold nonz at h
  split at h
  · assumption
  · cases h

/-! Pieces of a row that an operation leaves as they are. -/
def apartB (pl : List (Nat × Nat)) (is : List Nat) (off n : Nat) : Bool := is.all fun i => match pl[i]? with | some (o, s) => Nat.ble (off + n) o || Nat.ble (o + s) off | none => true
theorem fillZ_apart {pl : List (Nat × Nat)} {off n : Nat} : ∀ {parts : List (Nat × Value)} {cs ds : List Value}, fillZ (pl[·]?) cs parts = some ds → apartB pl (parts.map Prod.fst) off n = true → sl ds off n = sl cs off n := by
  intro parts
  induction parts with
  | nil => intro cs ds h _; simp only [fillZ, Option.some.injEq] at h; rw [h]
  | cons p rest ih =>
    intro cs ds h ha
    obtain ⟨i, v⟩ := p
    simp only [fillZ] at h
    simp only [apartB, List.map_cons, List.all_cons, Bool.and_eq_true] at ha
    cases hp : pl[i]? with
    | none => rw [hp] at h; cases h
    | some q =>
      obtain ⟨o, s⟩ := q
      rw [hp] at h ha
      simp only [Bool.or_eq_true, Nat.ble_eq] at ha
      simp only at h
      split at h
      · rename_i hk
        have hl : v.cells.toList.length = s := by rw [← hk.1]; simp
        rw [ih h ha.2, sl_pt_apart (by omega) (by omega)]
      · cases h
theorem sl_pt_sub {cs ws : List Value} {o k m : Nat} (h : o + ws.length ≤ cs.length) (hk : k + m ≤ ws.length) : sl (pt cs o ws) (o + k) m = sl ws k m := by
  refine ext_get fun j => ?_
  by_cases hj : j < m
  · rw [sl_get _ _ _ _ hj, sl_get _ _ _ _ hj, pt_get h, if_pos (by omega)]
    congr 1
    omega
  · rw [sl_get_none _ _ _ _ (by omega), sl_get_none _ _ _ _ (by omega)]
theorem sl_sub {cs : List Value} {o m k p : Nat} (h : k + p ≤ m) : sl (sl cs o m) k p = sl cs (o + k) p := sl_sl cs h
theorem sl_one_eq {cs : List Value} {o : Nat} {v u : Value} (h : sl cs o 1 = [v]) (h' : sl cs o 1 = [u]) : v = u := List.singleton_inj.1 (h.symm.trans h')

/-! Entries in another order, some of them alone. -/
theorem St.sel {H' : List Ent} (js : List Nat) (h : St w0 X M H w) (hn : js.Nodup) (hs : js.map (H[·]?) = H'.map some) : St w0 X M H' w := by
  have hget : ∀ (i : Nat) (e : Ent), H'[i]? = some e → ∃ j, js[i]? = some j ∧ H[j]? = some e := by
    intro i e he
    have h1 := congrArg (fun l : List (Option Ent) => l[i]?) hs
    simp only [List.getElem?_map, he, Option.map_some] at h1
    cases hj : js[i]? with
    | none => rw [hj] at h1; cases h1
    | some j => rw [hj] at h1; simp only [Option.map_some, Option.some.injEq] at h1; exact ⟨j, rfl, h1⟩
  have hmem : ∀ e ∈ H', e ∈ H := fun e he => by
    obtain ⟨i, hi⟩ := List.getElem?_of_mem he
    obtain ⟨j, _, hj⟩ := hget i e hi
    exact List.mem_of_getElem? hj
  refine ⟨h.os, h.tape, h.output, h.size, h.frame, h.agree, fun e he => h.ents e (hmem e he), fun e he => h.mine e (hmem e he), ?_⟩
  refine List.pairwise_iff_getElem.2 fun i j hi hj hij => ?_
  obtain ⟨a, ha, hHa⟩ := hget i H'[i] (by simp)
  obtain ⟨b, hb, hHb⟩ := hget j H'[j] (by simp)
  have hne : a ≠ b := by
    intro e
    subst e
    obtain ⟨h1, h1'⟩ := List.getElem?_eq_some_iff.1 ha
    obtain ⟨h2, h2'⟩ := List.getElem?_eq_some_iff.1 hb
    have := (List.nodup_iff_pairwise_ne.1 hn)
    have := List.pairwise_iff_getElem.1 this i j h1 h2 hij
    exact this (h1'.trans h2'.symm)
  obtain ⟨ha1, ha2⟩ := List.getElem?_eq_some_iff.1 hHa
  obtain ⟨hb1, hb2⟩ := List.getElem?_eq_some_iff.1 hHb
  intro c hc hc'
  rcases Nat.lt_or_gt_of_ne hne with hlt | hlt
  · have := List.pairwise_iff_getElem.1 h.apart a b ha1 hb1 hlt c (by rw [ha2]; exact hc)
    rw [hb2] at this
    exact this hc'
  · have := List.pairwise_iff_getElem.1 h.apart b a hb1 ha1 hlt c (by rw [hb2]; exact hc')
    rw [ha2] at this
    exact this hc

/-- A call to which entries are lent. -/
theorem O_lend {f : FuncId} {args : List Operand} {ats : Array TypeId} {vs : List Value} {L R : List Ent} {rv : Mm → Value → List Ent → Prop} (hcb : CB P f)
    (ha : args.map (evT T) = vs) (hSt : St w0 X M H w) (hp : St w0 X M (L ++ R) w) (hc : St w (lentX L) M L w → Calls P f vs.toArray w (GivesL M w L rv)) (hk : ∀ v M' w' L', Mm.ext w0.heap.size X M M' → rv M' v L' → (∀ L2, L' = L2 → St w0 X M' (L2 ++ R) w') → K (updO T dst v) w') : OW P n Q ⟨dst, .call ⟨.value (.func f), args.toArray, ats⟩, ty, pos, af, g⟩ T w K := by
  obtain ⟨fn, c, hf, hname, hb⟩ := hcb
  have _ := hSt
  exact O_call hf hname hb ha (hc hp.lent) fun en w' ⟨v, M', L', he, hx, hs, hr⟩ => by
    obtain ⟨h1, h2⟩ := hp.lend hs hx
    exact ⟨v, he, hk v M' w' L' h2 hr fun L2 heq => by subst heq; exact h1⟩

/-! Rows that may turn. -/
variable {α : Type} [Rep α]
def skr (M : Mm) (v : Value) (xs : List Value) (l : List α) : Prop :=
  (∃ a cap, v = .slice a l.length cap ∧ l.length ≤ cap) ∧ l.length * Rep.bytes α ≤ 140737488351232 ∧ xs.length = l.length * Rep.k α ∧ ∀ i x, l[i]? = some x → rep M (sl xs (i * Rep.k α) (Rep.k α)) x
theorem skr.mono {M' : Mm} {v : Value} {xs : List Value} {l : List α} (hm : M.le M') (h : skr M v xs l) : skr M' v xs l := ⟨h.1, h.2.1, h.2.2.1, fun i x hx => Rep.mono hm (h.2.2.2 i x hx)⟩
theorem hole_rep {v : Value} {xs : List Value} {l : List α} (h : skr M v xs l) : rep M [v] Hole.mk := by
  obtain ⟨⟨a, cap, rfl, _⟩, _⟩ := h
  exact ⟨_, rfl, by simp [Value.oneCell']⟩
theorem skr_cells {v : Value} {xs : List Value} {l : List α} (h : skr M v xs l) : v.cells.toList = [v] := by
  obtain ⟨⟨a, cap, rfl, _⟩, _⟩ := h
  rfl
theorem skr_nil : skr M (.slice none 0 0) [] ([] : List α) := ⟨⟨none, 0, rfl, Nat.le_refl _⟩, by simp, by simp, fun i x h => by simp at h⟩
/-- What a slice of it reads as. -/
def skv (M : Mm) (v0 u : Value) (xs : List Value) (r : List α) : Prop :=
  ∃ a cap, u = .slice a r.length cap ∧ r.length ≤ cap ∧ ∀ i x, r[i]? = some x → ∃ b off, a = some ⟨b, off, none⟩ ∧ v0.ownBlock = some b ∧ off + i * Rep.k α + Rep.k α ≤ xs.length ∧ rep M (sl xs (off + i * Rep.k α) (Rep.k α)) x
theorem skv.mono {M' : Mm} {v0 u : Value} {xs : List Value} {l : List α} (hm : M.le M') (h : skv M v0 u xs l) : skv M' v0 u xs l := by
  obtain ⟨a, cap, e, hc, h⟩ := h
  refine ⟨a, cap, e, hc, fun i x hx => ?_⟩
  obtain ⟨b, off, h1, h2, h3, h4⟩ := h i x hx
  exact ⟨b, off, h1, h2, h3, Rep.mono hm h4⟩

theorem St.nilStk (hSt : St w0 X M H w) (e : TypeId) (k : Nat) : St w0 X M (.stk (.slice none 0 0) e k [] :: H) w := by
  refine ⟨hSt.os, hSt.tape, hSt.output, hSt.size, hSt.frame, hSt.agree, fun f hf => ?_, fun f hf b hb => ?_, .cons (fun f _ b hb => by cases hb) hSt.apart⟩
  · rcases List.mem_cons.1 hf with rfl | hf
    · exact ⟨⟨0, by simp, .inl ⟨rfl, rfl⟩⟩, fun g hg => by cases hg⟩
    · exact hSt.ents f hf
  · rcases List.mem_cons.1 hf with rfl | hf
    · cases hb
    · exact hSt.mine f hf b hb

theorem own_shape' {b0 : Nat} {e : TypeId} {k : Nat} {v : Value} {m : Nat} {xs : List Value} (h : w.ownsRow b0 e k v m xs) : ∃ a cap, v = .slice a m cap ∧ m ≤ cap ∧ xs.length = m * k ∧ ∀ i, i < m → ∃ b, a = some ⟨b, 0, none⟩ ∧ v.ownBlock = some b := by
  obtain ⟨h1, ⟨rfl, rfl⟩ | ⟨b, cap, cur, rfl, _, _, hc, _⟩⟩ := h
  · exact ⟨none, 0, rfl, Nat.le_refl _, h1, fun i hi => absurd hi (Nat.not_lt_zero _)⟩
  · exact ⟨_, cap, rfl, hc, h1, fun i _ => ⟨b, rfl, rfl⟩⟩

theorem St.skv {j : Nat} {v : Value} {e : TypeId} {xs : List Value} {l : List α} (hSt : St w0 X M H w) (hj : H[j]? = some (.stk v e (Rep.k α) xs)) (h : skr M v xs l) : skv M v v xs l := by
  obtain ⟨⟨m, hown⟩, _⟩ := hSt.ents _ (List.mem_of_getElem? hj)
  obtain ⟨⟨a, cap, hv, hc⟩, hb, hl, hr⟩ := h
  obtain ⟨a', cap', hv', _, hxl, hi⟩ := own_shape' hown
  rw [hv] at hv'
  simp only [Value.slice.injEq] at hv'
  obtain ⟨rfl, rfl, rfl⟩ := hv'
  refine ⟨a, cap, hv, hc, fun i x hx => ?_⟩
  have hil := (List.getElem?_eq_some_iff.1 hx).1
  obtain ⟨b, rfl, hob⟩ := hi i hil
  have := Nat.mul_le_mul_right (Rep.k α) (show i + 1 ≤ l.length from hil)
  rw [Nat.add_mul, Nat.one_mul] at this
  refine ⟨b, 0, rfl, hob, by omega, ?_⟩
  rw [Nat.zero_add]
  exact hr i x hx

theorem skv_at {v0 u : Value} {xs : List Value} {r : List α} (h : skv M v0 u xs r) {j : Int} {x : α} (hj : idx r j = some x) :
    ∃ b off cap, u = .slice (some ⟨b, off, none⟩) r.length cap ∧ 0 ≤ j ∧ j < (r.length : Int) ∧ v0.ownBlock = some b ∧ rep M (sl xs (off + j.toNat * Rep.k α) (Rep.k α)) x := by
  obtain ⟨a, cap, rfl, hc, h⟩ := h
  unfold idx at hj
  split at hj
  · rename_i h0
    obtain ⟨b, off, rfl, hb, _, hr⟩ := h j.toNat x hj
    have hl := (List.getElem?_eq_some_iff.1 hj).1
    exact ⟨b, off, cap, rfl, h0, by omega, hb, hr⟩
  · cases hj
theorem skv_shape {v0 u : Value} {xs : List Value} {r : List α} (h : skv M v0 u xs r) : ∃ a cap, u = .slice a r.length cap ∧ r.length ≤ cap := by
  obtain ⟨a, cap, e, hc, _⟩ := h
  exact ⟨a, cap, e, hc⟩
theorem skr_shape {v : Value} {xs : List Value} {r : List α} (h : skr M v xs r) : ∃ a cap, v = .slice a r.length cap ∧ r.length ≤ cap := h.1

theorem skv_cut {v0 u : Value} {xs : List Value} {r : List α} (h : skv M v0 u xs r) {lo hi : Option Int} {p q : Nat} (hc : cutOk r.length lo hi = some (p, q)) : skv M v0 (cutV u (Rep.k α) p q) xs ((r.take q).drop p) := by
  obtain ⟨a, cap, rfl, hcap, h⟩ := h
  unfold cutOk at hc
  simp only at hc
  split at hc
  · rename_i hk
    simp only [Option.some.injEq, Prod.mk.injEq] at hc
    obtain ⟨rfl, rfl⟩ := hc
    generalize lo.getD 0 = lo at *
    generalize hi.getD (r.length : Int) = hi at *
    have hlen : ((r.take hi.toNat).drop lo.toNat).length = hi.toNat - lo.toNat := by simp; omega
    refine ⟨if cap = lo.toNat then a else a.map (·.add (lo.toNat * Rep.k α)), cap - lo.toNat, ?_, ?_, ?_⟩
    · simp only [cutV, hlen]
    · rw [hlen]; omega
    · intro i x hx
      rw [List.getElem?_drop, List.getElem?_take] at hx
      split at hx
      · rename_i hlt
        obtain ⟨b, off, rfl, hb, hle, hrep⟩ := h _ x hx
        have hne : ¬ cap = lo.toNat := by omega
        refine ⟨b, off + lo.toNat * Rep.k α, by rw [if_neg hne]; simp [Addr.add_mid], hb, ?_, ?_⟩
        · rw [Nat.add_mul] at hle; omega
        · rw [Nat.add_mul, ← Nat.add_assoc] at hrep; exact hrep
      · cases hx
  · cases hc

theorem cutOk_some {n : Nat} {lo hi : Option Int} {p q : Nat} (hc : cutOk n lo hi = some (p, q)) : p ≤ q ∧ q ≤ n ∧ p = (lo.getD 0).toNat := by
  unfold cutOk at hc
  simp only at hc
  split at hc
  · rename_i hk
    simp only [Option.some.injEq, Prod.mk.injEq] at hc
    obtain ⟨rfl, rfl⟩ := hc
    exact ⟨by omega, by omega, rfl⟩
  · cases hc

/-- The front part of such a row is one. -/
theorem St.pop {j : Nat} {v : Value} {e : TypeId} {xs : List Value} {l : List α} {hi : Option Int} {p q : Nat} (hSt : St w0 X M H w) (hj : H[j]? = some (.stk v e (Rep.k α) xs)) (h : skr M v xs l) (hc : cutOk l.length none hi = some (p, q)) :
    skr M (cutV v (Rep.k α) p q) (xs.take (q * Rep.k α)) ((l.take q).drop p) ∧ St w0 X M (H.set j (.stk (cutV v (Rep.k α) p q) e (Rep.k α) (xs.take (q * Rep.k α)))) w := by
  obtain ⟨_, hq, hp⟩ := cutOk_some hc
  have hp : p = 0 := hp
  subst hp
  have hF := hSt.perm (perm_front hj)
  obtain ⟨⟨m, hown⟩, hM⟩ := hF.ents _ List.mem_cons_self
  obtain ⟨⟨a, cap, hv, hcap⟩, hb, hl, hr⟩ := h
  have hlen : ((l.take q).drop 0).length = q := by simp; omega
  have hqk := Nat.mul_le_mul_right (Rep.k α) hq
  refine ⟨⟨⟨if cap = 0 then a else a.map (·.add (0 * Rep.k α)), cap, ?_, by omega⟩, ?_, ?_, fun i x hx => ?_⟩, ?_⟩
  · rw [hlen, hv]; simp [cutV]
  · rw [hlen]; exact Nat.le_trans (Nat.mul_le_mul_right _ hq) hb
  · rw [hlen, List.length_take, hl]; omega
  · have hiq : i < q := by rw [← hlen]; exact (List.getElem?_eq_some_iff.1 hx).1
    have hx' : l[i]? = some x := by
      rw [List.drop_zero, List.getElem?_take, if_pos hiq] at hx
      exact hx
    have := hr i x hx'
    have hik := Nat.mul_le_mul_right (Rep.k α) (show i + 1 ≤ q from hiq)
    rw [Nat.add_mul, Nat.one_mul] at hik
    rw [sl_prefix (List.take_prefix (q * Rep.k α) xs) (by rw [List.length_take]; omega)] at this
    exact this
  · have hown' : w.ownsRow 0 e (Rep.k α) (cutV v (Rep.k α) 0 q) q (xs.take (q * Rep.k α)) ∧ (cutV v (Rep.k α) 0 q).ownBlock = v.ownBlock := by
      obtain ⟨h1, ⟨rfl, rfl⟩ | ⟨b, cap2, cur, rfl, hb2, hh, hc2, hm, hs, htk⟩⟩ := hown
      · simp only [Value.slice.injEq] at hv
        have : q = 0 := by omega
        subst this
        exact ⟨⟨by simp, .inl ⟨by simp [cutV], rfl⟩⟩, rfl⟩
      · simp only [Value.slice.injEq] at hv
        obtain ⟨_, rfl, _⟩ := hv
        have e1 : cutV (.slice (some ⟨b, 0, none⟩) l.length cap2) (Rep.k α) 0 q = .slice (some ⟨b, 0, none⟩) q cap2 := by
          simp only [cutV, Nat.zero_mul, Nat.sub_zero, Option.map_some]
          split
          · rfl
          · simp [Addr.add_mid]
        rw [e1]
        exact ⟨⟨by rw [List.length_take, hl]; omega, .inr ⟨b, cap2, cur, rfl, hb2, hh, by omega, hm, hs, by rw [← htk, List.take_take]; congr 1; omega⟩⟩, rfl⟩
    have hS2 : St w0 X M (.stk (cutV v (Rep.k α) 0 q) e (Rep.k α) (xs.take (q * Rep.k α)) :: H.eraseIdx j) w := by
      refine ⟨hF.os, hF.tape, hF.output, hF.size, hF.frame, hF.agree, fun f hf => ?_, fun f hf b hb => ?_, ?_⟩
      · rcases List.mem_cons.1 hf with rfl | hf
        · exact ⟨⟨q, hown'.1⟩, fun g hg => hM g (by rw [← hown'.2]; exact hg)⟩
        · exact hF.ents f (List.mem_cons_of_mem _ hf)
      · rcases List.mem_cons.1 hf with rfl | hf
        · exact hF.mine _ List.mem_cons_self b (by show v.ownBlock = some b; rw [← hown'.2]; exact hb)
        · exact hF.mine f (List.mem_cons_of_mem _ hf) b hb
      · obtain ⟨h1, h2⟩ := List.pairwise_cons.1 hF.apart
        exact .cons (fun f hf b hb => h1 f hf b (by show v.ownBlock = some b; rw [← hown'.2]; exact hb)) h2
    exact hS2.perm (perm_set _ hj)

theorem sl_flatten {k : Nat} : ∀ (us : List (List Value)), (∀ ws ∈ us, ws.length = k) → ∀ (i : Nat) ws, us[i]? = some ws → sl us.flatten (i * k) k = ws := by
  intro us
  induction us with
  | nil => intro _ i ws h; simp at h
  | cons u us ih =>
    intro hu i ws h
    have hul := hu u List.mem_cons_self
    cases i with
    | zero => cases h; simp only [Nat.zero_mul, List.flatten_cons, sl, List.drop_zero]; rw [← hul]; simp
    | succ i =>
      have := ih (fun w hw => hu w (List.mem_cons_of_mem _ hw)) i ws h
      rw [sl] at this
      simp only [List.flatten_cons, sl]
      rw [Nat.add_mul, Nat.one_mul, Nat.add_comm, ← List.drop_drop, ← hul, List.drop_left, hul]
      exact this
theorem length_flatten {k : Nat} : ∀ (us : List (List Value)), (∀ ws ∈ us, ws.length = k) → us.flatten.length = us.length * k := by
  intro us
  induction us with
  | nil => simp
  | cons u us ih => intro hu; simp only [List.flatten_cons, List.length_append, List.length_cons, Nat.add_mul, Nat.one_mul]; rw [ih (fun w hw => hu w (List.mem_cons_of_mem _ hw)), hu u List.mem_cons_self, Nat.add_comm]

theorem St.boxStk {b m k : Nat} {cs : List Value} {e : TypeId} (h : St w0 X M (.box b cs e :: H) w) (hl : cs.length = m * k) (hm : m ≤ maxLen) : St w0 X M (.stk (.slice (some ⟨b, 0, none⟩) m m) e k cs :: H) w := by
  obtain ⟨h1, h2⟩ := List.pairwise_cons.1 h.apart
  obtain ⟨hh, hM⟩ := h.ents _ List.mem_cons_self
  refine ⟨h.os, h.tape, h.output, h.size, h.frame, h.agree, fun f hf => ?_, fun f hf c hc => ?_, .cons (fun f hf c hc => h1 f hf c hc) h2⟩
  · rcases List.mem_cons.1 hf with rfl | hf
    · exact ⟨⟨m, hl, .inr ⟨b, m, cs.toArray, rfl, Nat.zero_le _, hh, Nat.le_refl _, hm, by simpa using hl, by rw [← hl]; simp⟩⟩, fun g hg => by cases hg; exact hM⟩
    · exact h.ents f (List.mem_cons_of_mem _ hf)
  · rcases List.mem_cons.1 hf with rfl | hf
    · exact h.mine _ List.mem_cons_self c hc
    · exact h.mine f (List.mem_cons_of_mem _ hf) c hc

/-- Append to such a row. -/
theorem O_appS {j : Nat} {t e : TypeId} {x y : Operand} {v v2 : Value} {xs : List Value} {l1 l2 : List α} (ht : TP P t e (Rep.k α) (Rep.bytes α)) (hSt : St w0 X M H w) (hj : H[j]? = some (.stk v e (Rep.k α) xs))
    (hx : evT T x = v) (hy : evT T y = v2) (h1 : skr M v xs l1) (h2 : repL M v2 l2) (hb : (l1.length + l2.length) * Rep.bytes α ≤ 140737488351232)
    (k : ∀ v' xs' w', skr M v' xs' (l1 ++ l2) → St w0 X M (H.set j (.stk v' e (Rep.k α) xs')) w' → K (updO T dst v') w') : OW P n Q ⟨dst, .call ⟨.builtin .append, #[x, y], #[t, t]⟩, ty, pos, af, g⟩ T w K := by
  obtain ⟨hu, i, z, hi, hz, hsize, hby, hzs, hk, hbp⟩ := ht
  have hF := hSt.perm (perm_front hj)
  obtain ⟨⟨m, hown⟩, hM⟩ := hF.ents _ List.mem_cons_self
  obtain ⟨⟨a1, cap1, hv1, hcap1⟩, hb1, hl1, hr1⟩ := h1
  have hn : m = l1.length := by
    obtain ⟨_, h | ⟨g, cap, cur, h, _⟩⟩ := hown
    · rw [hv1] at h; obtain ⟨h, h0⟩ := h; simp only [Value.slice.injEq] at h; omega
    · rw [hv1] at h; simp only [Value.slice.injEq] at h; exact h.2.1.symm
  subst hn
  obtain ⟨a2, cap2, hv2, hc2, hnil, hb2, css, hcl, hcs, hne⟩ := cells_of_repL h2
  have hcsl : ∀ ws ∈ css, ws.length = Rep.k α := by
    intro ws hws
    obtain ⟨q, hq⟩ := List.getElem?_of_mem hws
    have hql : q < l2.length := by rw [← hcl]; exact (List.getElem?_eq_some_iff.1 hq).1
    exact Rep.len (hcs q ws l2[q] hq (by simp))
  cases a2 with
  | none =>
    have : cap2 = 0 := hnil rfl
    subst this
    have e0 : l2 = [] := List.length_eq_zero_iff.1 (by omega)
    subst e0
    subst hv2
    have hr := run_append_owned_none (P := P) (w := w) 0 t ty e i (Rep.k α) hu hi v _ xs hown
    refine OW.of_run (v := v) (w' := w) ?_ (k v xs w (by rw [List.append_nil]; exact ⟨⟨a1, cap1, hv1, hcap1⟩, hb1, hl1, hr1⟩) (hF.perm (perm_set (.stk v e (Rep.k α) xs) hj)))
    simp [execOp, resolve, invoke, builtin, hx, hy, hr]
  | some ad =>
    subst hv2
    have hlen : css.flatten.length = l2.length * Rep.k α := by
      by_cases hl : l2 = []
      · subst hl; simp at hcl; subst hcl; simp
      · obtain ⟨b, off, p, _, _, hle, hfl⟩ := hne hl
        rw [hfl, sl_length hle]
    have hnews : ∀ (j : Nat) u, css.flatten[j]? = some u → w.cell? (ad.add j) = some u := by
      intro q u hq
      have hl : l2 ≠ [] := by rintro rfl; simp at hcl; subst hcl; simp at hq
      obtain ⟨b, off, p, he, hMb, hle, hfl⟩ := hne hl
      cases he
      rw [hfl] at hq
      rw [Addr.add_mid]
      have hql : q < l2.length * Rep.k α := by
        rw [← hlen, hfl]; exact (List.getElem?_eq_some_iff.1 hq).1
      rw [sl_get _ _ _ _ hql] at hq
      exact cell_of_M hSt.agree hMb hq
    have hone : ∀ u ∈ css.flatten, u.oneCell' = true := by
      intro u hu
      obtain ⟨ws, hws, huw⟩ := List.mem_flatten.1 hu
      obtain ⟨q, hq⟩ := List.getElem?_of_mem hws
      have hql : q < l2.length := by rw [← hcl]; exact (List.getElem?_eq_some_iff.1 hq).1
      exact Rep.one (hcs q ws l2[q] hq (by simp)) u huw
    have hle1 : l1.length + l2.length ≤ (l1.length + l2.length) * Rep.bytes α := Nat.le_mul_of_pos_right _ hbp
    obtain ⟨v', w', hr, ho, hg, hat⟩ := append_at' (P := P) (ty := ty) hu hi hz hsize hby hzs hk hown (c := cap2) hlen hnews hone (by unfold maxLen; omega) (by omega) (Nat.zero_le _)
    have hrun : (execOp (evT T) ⟨dst, .call ⟨.builtin .append, #[x, y], #[t, t]⟩, ty, pos, af, g⟩).run P w = .ok (.value v') w' := by
      simp [execOp, resolve, invoke, builtin, hx, hy, hr]
    refine OW.of_run (v := v') (w' := w') hrun (k v' (xs ++ css.flatten) w' ⟨?_, by rw [List.length_append]; exact hb, ?_, fun i x hx => ?_⟩ ?_)
    · obtain ⟨a', cap', h, hc', _⟩ := own_shape' ho
      exact ⟨a', cap', by rw [List.length_append]; exact h, by rw [List.length_append]; exact hc'⟩
    · rw [List.length_append, List.length_append, hl1, hlen, Nat.add_mul]
    · have hfl := sl_flatten (k := Rep.k α)
      by_cases hil : i < l1.length
      · rw [List.getElem?_append_left hil] at hx
        have hik := Nat.mul_le_mul_right (Rep.k α) (show i + 1 ≤ l1.length from hil)
        rw [Nat.add_mul, Nat.one_mul] at hik
        rw [sl_prefix (List.prefix_append xs _) (by omega)]
        exact hr1 i x hx
      · rw [List.getElem?_append_right (by omega)] at hx
        have hjl := (List.getElem?_eq_some_iff.1 hx).1
        have hws : css[i - l1.length]? = some (css[i - l1.length]'(by omega)) := by simp
        have h1 := hfl css hcsl _ _ hws
        have h2 := hcs _ _ x hws hx
        have e1 : sl (xs ++ css.flatten) (i * Rep.k α) (Rep.k α) = sl css.flatten ((i - l1.length) * Rep.k α) (Rep.k α) := by
          unfold sl
          have : i * Rep.k α = xs.length + (i - l1.length) * Rep.k α := by rw [hl1, ← Nat.add_mul]; congr 1; omega
          rw [this, ← List.drop_drop, List.drop_left]
        rw [e1, h1]
        exact h2
    · have hapart := List.pairwise_cons.1 hF.apart
      have hHlt : ∀ f ∈ H.eraseIdx j, ∀ b, f.blk = some b → b < w.heap.size ∧ v.ownBlock ≠ some b := fun f hf b hb => ⟨Ent.lt (hF.ents f (List.mem_cons_of_mem _ hf)) hb, fun hc => hapart.1 f hf b hc hb⟩
      have hMv : ∀ b p, M b = some p → some b ≠ v.ownBlock := fun b p hb h => by have := hM b h.symm; rw [this] at hb; cases hb
      have hmine : ∀ b, v'.ownBlock = some b → X b ∨ w0.heap.size ≤ b := fun b hb => by
        rcases hat with h | h
        · exact hF.mine _ List.mem_cons_self b (by rw [← hb, h]; rfl)
        · rw [hb] at h; cases h.1; exact .inr hSt.size
      have hnew : St w0 X M (.stk v' e (Rep.k α) (xs ++ css.flatten) :: H.eraseIdx j) w' := by
        refine ⟨hg.os.trans hSt.os, hg.tape.trans hSt.tape, hg.output.trans hSt.output, Nat.le_trans hSt.size hg.size, fun c hlt hno => ?_, fun b p hb => ?_, fun f hf => ?_, fun f hf b hb => ?_, ?_⟩
        · have hlt' := Nat.lt_of_lt_of_le hlt hSt.size
          rw [hg.block c hlt' fun h => ?_]
          · exact hSt.frame c hlt hno
          · rcases hF.mine _ List.mem_cons_self c h.symm with hx | hx
            · exact hno hx
            · omega
        · obtain ⟨cs, t, fr, e1, e2⟩ := hSt.agree b p hb
          exact ⟨cs, t, fr, (hg.block b (hSt.agree.lt hb) (hMv b p hb)).trans e1, e2⟩
        · rcases List.mem_cons.1 hf with rfl | hf
          · refine ⟨⟨_, ho⟩, fun b hb => ?_⟩
            rcases hat with h | h
            · exact hM b (by rw [← h]; exact hb)
            · rw [hb] at h; cases h.1; exact hSt.none_at (Nat.le_refl _)
          · exact Ent.kept (hF.ents f (List.mem_cons_of_mem _ hf)) fun b hb => ⟨hg.block b (hHlt f hf b hb).1 (fun h => (hHlt f hf b hb).2 h.symm), rfl⟩
        · rcases List.mem_cons.1 hf with rfl | hf
          · exact hmine b hb
          · exact hF.mine f (List.mem_cons_of_mem _ hf) b hb
        · refine .cons (fun f hf b hb hb' => ?_) hapart.2
          have hb : v'.ownBlock = some b := hb
          have hf' := hHlt f hf b hb'
          rcases hat with h | h
          · exact hf'.2 (by rw [← h]; exact hb)
          · rw [hb] at h; cases h.1; omega
      exact hnew.perm (perm_set _ hj)

/-- A slice of given elements, that may turn. -/
theorem O_bsliceS {t e m b : Nat} {parts : List (Nat × Operand)} {l : List α} (vs : List Value) (htp : TP P t e (Rep.k α) b) (hp : parts.map (fun p => (p.1, evT T p.2)) = vs.zipIdx.map (fun p => (p.2, p.1))) (hm : vs.length = m) (hl : l.length = m) (hm0 : 0 < m) (hs : m * Rep.k α ≤ 1000) (hby : m * Rep.bytes α ≤ 140737488351232)
    (hSt : St w0 X M H w) (hr : ∀ (i : Nat) v x, vs[i]? = some v → l[i]? = some x → rep M v.cells.toList x) (k : ∀ v xs w', skr M v xs l → St w0 X M (.stk v e (Rep.k α) xs :: H) w' → K (updO T dst v) w') : OW P n Q ⟨dst, .buildSlice t m parts.toArray, ty, pos, af, g⟩ T w K := by
  obtain ⟨hu, i, z, hi, hz, h2, h3, h1, hk, hb⟩ := htp
  have hcells : ∀ v ∈ vs, v.cells.size = Rep.k α := by
    intro v hv
    obtain ⟨j, hj⟩ := List.getElem?_of_mem hv
    have hjl : j < l.length := by rw [hl, ← hm]; exact (List.getElem?_eq_some_iff.1 hj).1
    have := Rep.len (hr j v l[j] hj (by simp))
    simpa using this
  have hrun := run_buildSlice_e (P := P) hu hi hz h1 h2 hk hm hcells hs hm0 w
  have hfl : (vs.flatMap fun v => v.cells.toList) = (vs.map fun v => v.cells.toList).flatten := by rw [List.flatMap_def]
  have hus : ∀ ws ∈ (vs.map fun v => v.cells.toList), ws.length = Rep.k α := by
    intro ws hws
    obtain ⟨v, hv, rfl⟩ := List.mem_map.1 hws
    simpa using hcells v hv
  have hlen : (vs.flatMap fun v => v.cells.toList).length = m * Rep.k α := by
    rw [hfl, length_flatten _ hus, List.length_map, hm]
  have hm1 : m ≤ maxLen := by
    have : m ≤ m * Rep.k α := Nat.le_mul_of_pos_right _ hk
    unfold maxLen; omega
  refine OW.of_run (v := .slice (some ⟨w.heap.size, 0, none⟩) m m) (w' := w.alloc (.cells (vs.flatMap (fun v => v.cells.toList)).toArray e)) ?_ (k _ (vs.flatMap fun v => v.cells.toList) _ ⟨⟨some ⟨w.heap.size, 0, none⟩, m, by rw [hl], by omega⟩, by rw [hl]; exact hby, by rw [hlen, hl], fun i x hx => ?_⟩ ((hSt.alloc _ e).boxStk hlen hm1))
  · have hpa : (parts.toArray.map fun (p : Nat × Operand) => (p.1, evT T p.2)) = (vs.zipIdx.map fun p => (p.2, p.1)).toArray := by rw [← hp]; simp
    simp only [execOp, Sem.run_bind]
    rw [show (Array.map (fun x => match x with | (i, x) => (i, evT T x)) parts.toArray) = (vs.zipIdx.map fun p => (p.2, p.1)).toArray from hpa, hrun]
    rfl
  · have hil : i < vs.length := by rw [hm, ← hl]; exact (List.getElem?_eq_some_iff.1 hx).1
    have h4 := hr i vs[i] x (by simp) hx
    rw [hfl, sl_flatten _ hus i (vs[i].cells.toList) (by simp [hil])]
    exact h4

/-- The block of such a row. -/
theorem St.bvK {j : Nat} {v : Value} {e : TypeId} {k : Nat} {xs : List Value} {b : Nat} (hSt : St w0 X M H w) (hj : H[j]? = some (.stk v e k xs)) (hb : v.ownBlock = some b) : BV (· = w) b xs := fun w' hw => by
  subst hw
  obtain ⟨⟨m, hown⟩, _⟩ := hSt.ents _ (List.mem_of_getElem? hj)
  obtain ⟨h1, ⟨rfl, rfl⟩ | ⟨b', cap, cur, rfl, _, hh, hc, _, _, htk⟩⟩ := hown
  · cases hb
  · cases hb
    exact ⟨cur, e, (0, 0), hh, by rw [← htk]; exact List.take_prefix _ _⟩


section
variable {l : List Oper} {S : World → Prop} {B : Nat → Bool} {L : List Bool} {fu : Nat}
theorem WB_three {i j k : Nat} {d d' d2 : Option Nat} {op op' op2 : Op} {ty ty' ty2 : TypeId} {pos pos' pos2 : String} {af af' af2 : Array Edge} (hr : Region.ready .any l.toArray L.toArray = [i, j, k]) (hi : l[i]? = some ⟨d, op, ty, pos, af, none⟩) (hj : l[j]? = some ⟨d', op', ty', pos', af', none⟩) (hk : l[k]? = some ⟨d2, op2, ty2, pos2, af2, none⟩)
    (h1 : OW P n Q ⟨d, op, ty, pos, af, none⟩ T w (fun T' w' => (noBb B (L.set i true) = true → S w') ∧ WB P n l Q S B fu (L.set i true) T' w'))
    (h2 : OW P n Q ⟨d', op', ty', pos', af', none⟩ T w (fun T' w' => (noBb B (L.set j true) = true → S w') ∧ WB P n l Q S B fu (L.set j true) T' w'))
    (h3 : OW P n Q ⟨d2, op2, ty2, pos2, af2, none⟩ T w (fun T' w' => (noBb B (L.set k true) = true → S w') ∧ WB P n l Q S B fu (L.set k true) T' w')) : WB P n l Q S B (fu + 1) L T w :=
  WB_all hr (by simp) fun q hq => by
    simp only [List.mem_cons, List.not_mem_nil, or_false] at hq
    rcases hq with rfl | rfl | rfl
    · exact ⟨_, hi, fun _ _ => rfl, h1⟩
    · exact ⟨_, hj, fun _ _ => rfl, h2⟩
    · exact ⟨_, hk, fun _ _ => rfl, h3⟩
end
end
end Go.Proofs.Ytopgdemmdcipcaa
