/- Paths, rings (those that reach one another), and the search for rings by marks and a stack: plain mathematics, no program is named here. -/
import Derived.Test.YtnfdgjdnlikepabDa
namespace Go.Proofs.Ytnfdgjdnlikepab

inductive Path (E : Nat → Nat → Prop) : Nat → Nat → Prop where
  | refl (a : Nat) : Path E a a
  | tail {a b c : Nat} : Path E a b → E b c → Path E a c

section
variable {E : Nat → Nat → Prop}
theorem Path.trans {a b c : Nat} (h : Path E a b) (k : Path E b c) : Path E a c := by
  induction k with
  | refl => exact h
  | tail _ e ih => exact .tail ih e
theorem Path.one {a b : Nat} (h : E a b) : Path E a b := .tail (.refl a) h
theorem Path.head {a b c : Nat} (h : E a b) (k : Path E b c) : Path E a c := (Path.one h).trans k
theorem Path.closed {S : Nat → Prop} (hS : ∀ a b, S a → E a b → S b) {a b : Nat} (h : Path E a b) (ha : S a) : S b := by
  induction h with
  | refl => exact ha
  | tail _ e ih => exact hS _ _ ih e

/-! The search. -/
structure Srch where
  mark : Nat → Nat
  low : Nat → Nat
  ring : Nat → Nat
  stack : List Nat
  next : Nat

def updN {α : Type} (f : Nat → α) (i : Nat) (x : α) : Nat → α := fun k => if k = i then x else f k
theorem updN_same {α : Type} (f : Nat → α) (i : Nat) (x : α) : updN f i x i = x := by simp [updN]
theorem updN_other {α : Type} (f : Nat → α) {i k : Nat} (x : α) (h : k ≠ i) : updN f i x k = f k := by simp [updN, h]

/-- The least of those that v reaches and that reach v. -/
def Least (E : Nat → Nat → Prop) (v r : Nat) : Prop := Path E v r ∧ Path E r v ∧ ∀ w, Path E v w → Path E w v → r ≤ w

def wh (f : Nat → Nat) : Nat := (List.range 32).countP (fun i => f i == 0)

theorem countP_turn {p q : Nat → Bool} {n : Nat} (hp : p n = true) (hq : q n = false) (ho : ∀ k, k ≠ n → p k = q k) : ∀ (l : List Nat), l.Nodup → n ∈ l → l.countP p = l.countP q + 1 := by
  have hsame : ∀ (l : List Nat), n ∉ l → l.countP p = l.countP q := by
    intro l
    induction l with
    | nil => intro _; rfl
    | cons a t ih =>
      intro hn
      simp only [List.mem_cons, not_or] at hn
      rw [List.countP_cons, List.countP_cons, ih hn.2, ho a (fun e => hn.1 e.symm)]
  intro l
  induction l with
  | nil => intro _ h; cases h
  | cons a t ih =>
    intro hnd hm
    rw [List.nodup_cons] at hnd
    rw [List.countP_cons, List.countP_cons]
    by_cases e : a = n
    · subst e
      rw [hsame t hnd.1, hp, hq]
      simp
    · have hmt : n ∈ t := by
        rcases List.mem_cons.1 hm with h | h
        · exact absurd h.symm e
        · exact h
      rw [ih hnd.2 hmt, ho a e]
      omega
theorem countP_le {p q : Nat → Bool} (h : ∀ k, p k = true → q k = true) (l : List Nat) : l.countP p ≤ l.countP q := by
  induction l with
  | nil => exact Nat.le_refl _
  | cons a t ih =>
    rw [List.countP_cons, List.countP_cons]
    cases hp : p a with
    | false => simp; omega
    | true => rw [h a hp]; simp; omega
theorem wh_updN {f : Nat → Nat} {n x : Nat} (hn : n < 32) (h0 : f n = 0) (hx : 0 < x) : wh f = wh (updN f n x) + 1 := by
  unfold wh
  refine countP_turn (n := n) (by simp [h0]) ?_ (fun k hk => by rw [updN_other _ _ hk]) _ List.nodup_range (List.mem_range.2 hn)
  rw [updN_same]
  simp
  omega
theorem wh_mono {f f' : Nat → Nat} (h : ∀ v, 0 < f v → 0 < f' v) : wh f' ≤ wh f := by
  unfold wh
  refine countP_le (fun k hk => ?_) _
  have hk' : f' k = 0 := by simpa using hk
  have : f k = 0 := by
    rcases Nat.eq_zero_or_pos (f k) with h0 | h0
    · exact h0
    · have := h k h0; omega
  simp [this]

structure Inv (E : Nat → Nat → Prop) (s : Srch) (G : List Nat) : Prop where
  lt : ∀ v, 0 < s.mark v → v < 32
  le : ∀ v, s.mark v ≤ s.next
  inj : ∀ u v, s.mark u = s.mark v → 0 < s.mark u → u = v
  cnt : s.next + wh s.mark ≤ 32
  sorted : s.stack.Pairwise (fun a b => s.mark a < s.mark b)
  pos : ∀ v ∈ s.stack, 0 < s.mark v
  gray : ∀ g ∈ G, g ∈ s.stack
  black : ∀ v w, 0 < s.mark v → v ∉ G → E v w → 0 < s.mark w
  done : ∀ v w, 0 < s.mark v → v ∉ s.stack → E v w → w ∉ s.stack
  ring : ∀ v, 0 < s.mark v → v ∉ s.stack → Least E v (s.ring v)
  reach : ∀ x ∈ G, ∀ y ∈ s.stack, s.mark x ≤ s.mark y → Path E x y
  back : ∀ y ∈ s.stack, ∃ x ∈ G, s.mark x ≤ s.mark y ∧ Path E y x

structure Ext (E : Nat → Nat → Prop) (s s' : Srch) (n : Nat) : Prop where
  mark_old : ∀ v, 0 < s.mark v → s'.mark v = s.mark v
  low_old : ∀ v, 0 < s.mark v → s'.low v = s.low v
  fresh : ∀ v, s.mark v = 0 → 0 < s'.mark v → s.next < s'.mark v ∧ Path E n v
  next : s.next ≤ s'.next

structure Post (E : Nat → Nat → Prop) (s s' : Srch) (n : Nat) (G : List Nat) : Prop where
  inv : Inv E s' G
  ext : Ext E s s' n
  mine : 0 < s'.mark n
  low_le : s'.low n ≤ s'.mark n
  low_or : s'.low n = s'.mark n ∨ ∃ z ∈ s.stack, s'.mark z = s'.low n ∧ Path E n z
  stack : ∃ new, s'.stack = s.stack ++ new ∧ ∀ y ∈ new, ∀ z ∈ s.stack, E y z → s'.low n ≤ s'.mark z

/-- Where the loop of a visit stands: these were looked at. -/
structure LI (E : Nat → Nat → Prop) (s : Srch) (G : List Nat) (n : Nat) (t : Srch) (ds : Nat → Prop) : Prop where
  was : Inv E s G
  white : s.mark n = 0
  inv : Inv E t (n :: G)
  ext : Ext E s t n
  nmark : t.mark n = s.next + 1
  low_le : t.low n ≤ t.mark n
  low_or : t.low n = t.mark n ∨ ∃ z ∈ s.stack, t.mark z = t.low n ∧ Path E n z
  stack : ∃ new, t.stack = s.stack ++ n :: new ∧ ∀ y ∈ new, ∀ z ∈ s.stack, E y z → t.low n ≤ t.mark z
  proc : ∀ d, ds d → 0 < t.mark d ∧ (d ∈ s.stack → t.low n ≤ t.mark d)

def startT (s : Srch) (n : Nat) : Srch := { mark := updN s.mark n (s.next + 1), low := updN s.low n (s.next + 1), ring := s.ring, stack := s.stack ++ [n], next := s.next + 1 }

theorem LI.start {s : Srch} {G : List Nat} {n : Nat} (h : Inv E s G) (hn : n < 32) (h0 : s.mark n = 0) (hG : ∀ g ∈ G, Path E g n) : LI E s G n (startT s n) (fun _ => False) := by
  have hns : n ∉ s.stack := fun hm => by have := h.pos n hm; omega
  have hmk : ∀ v, v ≠ n → (startT s n).mark v = s.mark v := fun v hv => updN_other _ _ hv
  have hmn : (startT s n).mark n = s.next + 1 := updN_same _ _ _
  have hne : ∀ v, 0 < s.mark v → v ≠ n := fun v hv e => by subst e; omega
  have hst : (startT s n).stack = s.stack ++ [n] := rfl
  refine ⟨h, h0, ⟨fun v hv => ?_, fun v => ?_, fun u v huv hu => ?_, ?_, ?_, fun v hv => ?_, fun g hg => ?_, fun v w hv hg he => ?_, fun v w hv hs he => ?_, fun v hv hs => ?_, fun x hx y hy hxy => ?_, fun y hy => ?_⟩, ⟨fun v hv => hmk v (hne v hv), fun v hv => updN_other _ _ (hne v hv), fun v hv hv' => ?_, Nat.le_succ _⟩, hmn, ?_, .inl ?_, ⟨[], rfl, by simp⟩, fun d hd => hd.elim⟩
  · by_cases e : v = n
    · subst e; exact hn
    · rw [hmk v e] at hv; exact h.lt v hv
  · show _ ≤ s.next + 1
    by_cases e : v = n
    · subst e; rw [hmn]; exact Nat.le_refl _
    · rw [hmk v e]; have := h.le v; omega
  · by_cases e1 : u = n
    · by_cases e2 : v = n
      · rw [e1, e2]
      · subst e1; rw [hmn, hmk v e2] at huv; have := h.le v; omega
    · by_cases e2 : v = n
      · subst e2; rw [hmn, hmk u e1] at huv; have := h.le u; omega
      · rw [hmk u e1, hmk v e2] at huv; rw [hmk u e1] at hu; exact h.inj u v huv hu
  · have := wh_updN (x := s.next + 1) hn h0 (by omega)
    have hc := h.cnt
    show s.next + 1 + wh (updN s.mark n (s.next + 1)) ≤ 32
    omega
  · rw [hst, List.pairwise_append]
    refine ⟨?_, List.pairwise_singleton _ _, fun a ha b hb => ?_⟩
    · refine List.Pairwise.imp_of_mem (fun {a b} ha hb hab => ?_) h.sorted
      rw [hmk a (fun e => hns (e ▸ ha)), hmk b (fun e => hns (e ▸ hb))]
      exact hab
    · rw [List.mem_singleton] at hb
      subst hb
      rw [hmn, hmk a (fun e => hns (e ▸ ha))]
      have := h.le a; omega
  · rw [hst, List.mem_append, List.mem_singleton] at hv
    rcases hv with hv | rfl
    · have := h.pos v hv
      rw [hmk v (hne v this)]; exact this
    · rw [hmn]; omega
  · rw [hst, List.mem_append, List.mem_singleton]
    rcases List.mem_cons.1 hg with rfl | hg
    · exact .inr rfl
    · exact .inl (h.gray g hg)
  · simp only [List.mem_cons, not_or] at hg
    rw [hmk v hg.1] at hv
    have := h.black v w hv hg.2 he
    rw [hmk w (hne w this)]; exact this
  · rw [hst, List.mem_append, List.mem_singleton, not_or] at hs
    rw [hmk v hs.2] at hv
    rw [hst, List.mem_append, List.mem_singleton, not_or]
    refine ⟨h.done v w hv hs.1 he, fun e => ?_⟩
    subst e
    have hvG : v ∉ G := fun hg => hs.1 (h.gray v hg)
    have := h.black v w hv hvG he
    omega
  · rw [hst, List.mem_append, List.mem_singleton, not_or] at hs
    rw [hmk v hs.2] at hv
    exact h.ring v hv hs.1
  · rw [hst, List.mem_append, List.mem_singleton] at hy
    rcases List.mem_cons.1 hx with rfl | hx2
    · rcases hy with hy | rfl
      · have hp := h.pos y hy
        rw [hmn, hmk y (hne y hp)] at hxy
        have := h.le y; omega
      · exact .refl _
    · rcases hy with hy | rfl
      · have hp := h.pos y hy
        have hpx := h.pos x (h.gray x hx2)
        rw [hmk x (hne x hpx), hmk y (hne y hp)] at hxy
        exact h.reach x hx2 y hy hxy
      · exact hG x hx2
  · rw [hst, List.mem_append, List.mem_singleton] at hy
    rcases hy with hy | rfl
    · obtain ⟨x, hx, hxy, hp⟩ := h.back y hy
      have hpx := h.pos x (h.gray x hx)
      refine ⟨x, List.mem_cons_of_mem _ hx, ?_, hp⟩
      rw [hmk x (hne x hpx), hmk y (hne y (h.pos y hy))]
      exact hxy
    · exact ⟨y, List.mem_cons_self, Nat.le_refl _, .refl _⟩
  · by_cases e : v = n
    · subst e; rw [hmn]; exact ⟨by omega, .refl _⟩
    · rw [hmk v e] at hv'; omega
  · rw [hmn]; show updN s.low n (s.next + 1) n ≤ _; rw [updN_same]; exact Nat.le_refl _
  · rw [hmn]; exact updN_same _ _ _

/-- Only the low number of n is set anew. -/
theorem Inv.low {s : Srch} {G : List Nat} (h : Inv E s G) (l : Nat → Nat) : Inv E { s with low := l } G :=
  ⟨h.lt, h.le, h.inj, h.cnt, h.sorted, h.pos, h.gray, h.black, h.done, h.ring, h.reach, h.back⟩

section
variable {s t : Srch} {G : List Nat} {n : Nat} {ds : Nat → Prop}
theorem LI.old (h : LI E s G n t ds) {z : Nat} (hz : z ∈ s.stack) : 0 < s.mark z ∧ t.mark z = s.mark z ∧ t.mark z < t.mark n := by
  have h1 := h.was.pos z hz
  have h2 := h.ext.mark_old z h1
  have h3 := h.was.le z
  refine ⟨h1, h2, ?_⟩
  rw [h2, h.nmark]
  omega
theorem LI.new (h : LI E s G n t ds) {new : List Nat} (hst : t.stack = s.stack ++ n :: new) {y : Nat} (hy : y ∈ n :: new) : t.mark n ≤ t.mark y := by
  have h1 := h.inv.sorted
  rw [hst, List.pairwise_append] at h1
  rcases List.mem_cons.1 hy with rfl | hy
  · exact Nat.le_refl _
  · exact Nat.le_of_lt ((List.pairwise_cons.1 h1.2.1).1 y hy)

theorem LI.visit {t' : Srch} {d : Nat} (h : LI E s G n t ds) (hd0 : t.mark d = 0) (he : E n d) (hp : Post E t t' d (n :: G)) :
    LI E s G n { t' with low := updN t'.low n (min (t'.low n) (t'.low d)) } (fun x => ds x ∨ x = d) := by
  have hn0 : 0 < t.mark n := by rw [h.nmark]; omega
  have hmn : t'.mark n = t.mark n := hp.ext.mark_old n hn0
  have hln : t'.low n = t.low n := hp.ext.low_old n hn0
  have hmd := hp.ext.fresh d hd0 hp.mine
  have hnn : t.mark n ≤ t.next := h.inv.le n
  obtain ⟨new, hst, hnew⟩ := h.stack
  obtain ⟨newd, hst', hnew'⟩ := hp.stack
  have hlow2 : (updN t'.low n (min (t'.low n) (t'.low d))) n = min (t.low n) (t'.low d) := by rw [updN_same, hln]
  refine ⟨h.was, h.white, hp.inv.low _, ⟨fun v hv => ?_, fun v hv => ?_, fun v hv hv' => ?_, Nat.le_trans h.ext.next hp.ext.next⟩, by rw [← h.nmark]; exact hmn, ?_, ?_, ⟨new ++ newd, ?_, fun y hy z hz hyz => ?_⟩, fun x hx => ?_⟩
  · have h1 := h.ext.mark_old v hv
    rw [hp.ext.mark_old v (by omega)]; exact h1
  · have h1 := h.ext.mark_old v hv
    have hvn : v ≠ n := fun e => by subst e; rw [h.white] at hv; omega
    show updN t'.low n _ v = _
    rw [updN_other _ _ hvn, hp.ext.low_old v (by omega)]
    exact h.ext.low_old v hv
  · rcases Nat.eq_zero_or_pos (t.mark v) with h0 | h0
    · have h1 := hp.ext.fresh v h0 hv'
      have h2 := h.ext.next
      exact ⟨by show s.next < t'.mark v; omega, Path.head he h1.2⟩
    · have h1 := hp.ext.mark_old v h0
      have h2 := h.ext.fresh v hv h0
      exact ⟨by show s.next < t'.mark v; rw [h1]; exact h2.1, h2.2⟩
  · show updN t'.low n _ n ≤ t'.mark n
    rw [hlow2, hmn]
    exact Nat.le_trans (Nat.min_le_left _ _) h.low_le
  · show updN t'.low n _ n = t'.mark n ∨ ∃ z ∈ s.stack, t'.mark z = updN t'.low n _ n ∧ Path E n z
    rw [hlow2, hmn]
    by_cases hle : t.low n ≤ t'.low d
    · rw [Nat.min_eq_left hle]
      rcases h.low_or with h1 | ⟨z, hz, h1, h2⟩
      · exact .inl h1
      · have h3 := h.old hz
        exact .inr ⟨z, hz, by rw [hp.ext.mark_old z (by omega)]; exact h1, h2⟩
    · rw [Nat.min_eq_right (by omega)]
      have hll := h.low_le
      rcases hp.low_or with h1 | ⟨z, hz, h1, h2⟩
      · omega
      · refine .inr ⟨z, ?_, h1, Path.head he h2⟩
        have hz' := hz
        rw [hst] at hz'
        rcases List.mem_append.1 hz' with h3 | h3
        · exact h3
        · have h4 := h.new hst h3
          have h5 := hp.ext.mark_old z (h.inv.pos z hz)
          omega
  · show t'.stack = _
    rw [hst', hst]
    simp
  · show updN t'.low n _ n ≤ t'.mark z
    rw [hlow2]
    have h3 := h.old hz
    have h4 := hp.ext.mark_old z (by omega)
    rcases List.mem_append.1 hy with hy | hy
    · have := hnew y hy z hz hyz
      rw [h4]
      exact Nat.le_trans (Nat.min_le_left _ _) this
    · have := hnew' y hy z (by rw [hst]; exact List.mem_append_left _ hz) hyz
      exact Nat.le_trans (Nat.min_le_right _ _) this
  · show 0 < t'.mark x ∧ (x ∈ s.stack → updN t'.low n _ n ≤ t'.mark x)
    rw [hlow2]
    rcases hx with hx | rfl
    · have h1 := h.proc x hx
      have h2 := hp.ext.mark_old x h1.1
      rw [h2]
      exact ⟨h1.1, fun hs => Nat.le_trans (Nat.min_le_left _ _) (h1.2 hs)⟩
    · exact ⟨hp.mine, fun hs => by have := h.old hs; omega⟩

theorem LI.on {d : Nat} (h : LI E s G n t ds) (hd : d ∈ t.stack) (he : E n d) :
    LI E s G n { t with low := updN t.low n (min (t.low n) (t.mark d)) } (fun x => ds x ∨ x = d) := by
  obtain ⟨new, hst, hnew⟩ := h.stack
  have hlow2 : (updN t.low n (min (t.low n) (t.mark d))) n = min (t.low n) (t.mark d) := updN_same _ _ _
  refine ⟨h.was, h.white, h.inv.low _, ⟨h.ext.mark_old, fun v hv => ?_, h.ext.fresh, h.ext.next⟩, h.nmark, ?_, ?_, ⟨new, hst, fun y hy z hz hyz => ?_⟩, fun x hx => ?_⟩
  · have hvn : v ≠ n := fun e => by subst e; rw [h.white] at hv; omega
    show updN t.low n _ v = _
    rw [updN_other _ _ hvn]
    exact h.ext.low_old v hv
  · show updN t.low n _ n ≤ t.mark n
    rw [hlow2]
    exact Nat.le_trans (Nat.min_le_left _ _) h.low_le
  · show updN t.low n _ n = t.mark n ∨ ∃ z ∈ s.stack, t.mark z = updN t.low n _ n ∧ Path E n z
    rw [hlow2]
    by_cases hle : t.low n ≤ t.mark d
    · rw [Nat.min_eq_left hle]; exact h.low_or
    · rw [Nat.min_eq_right (by omega)]
      have hll := h.low_le
      refine .inr ⟨d, ?_, rfl, Path.one he⟩
      have hd' := hd
      rw [hst] at hd'
      rcases List.mem_append.1 hd' with h3 | h3
      · exact h3
      · have h4 := h.new hst h3
        omega
  · show updN t.low n _ n ≤ t.mark z
    rw [hlow2]
    exact Nat.le_trans (Nat.min_le_left _ _) (hnew y hy z hz hyz)
  · show 0 < t.mark x ∧ (x ∈ s.stack → updN t.low n _ n ≤ t.mark x)
    rw [hlow2]
    rcases hx with hx | rfl
    · have h1 := h.proc x hx
      exact ⟨h1.1, fun hs => Nat.le_trans (Nat.min_le_left _ _) (h1.2 hs)⟩
    · exact ⟨h.inv.pos x hd, fun _ => Nat.min_le_right _ _⟩

theorem LI.skip {d : Nat} (h : LI E s G n t ds) (hm : 0 < t.mark d) (hd : d ∉ t.stack) : LI E s G n t (fun x => ds x ∨ x = d) := by
  obtain ⟨new, hst, hnew⟩ := h.stack
  refine ⟨h.was, h.white, h.inv, h.ext, h.nmark, h.low_le, h.low_or, h.stack, fun x hx => ?_⟩
  rcases hx with hx | rfl
  · exact h.proc x hx
  · exact ⟨hm, fun hs => absurd (by rw [hst]; exact List.mem_append_left _ hs) hd⟩

theorem LI.keep (h : LI E s G n t ds) (hall : ∀ d, E n d → ds d) (hlow : t.low n ≠ t.mark n) : Post E s t n G := by
  obtain ⟨new, hst, hnew⟩ := h.stack
  have hlt : t.low n < t.mark n := Nat.lt_of_le_of_ne h.low_le hlow
  obtain ⟨z, hz, hm, hp⟩ : ∃ z ∈ s.stack, t.mark z = t.low n ∧ Path E n z := by
    rcases h.low_or with h1 | h1
    · exact absurd h1 hlow
    · exact h1
  refine ⟨⟨h.inv.lt, h.inv.le, h.inv.inj, h.inv.cnt, h.inv.sorted, h.inv.pos, fun g hg => h.inv.gray g (List.mem_cons_of_mem _ hg), fun v w hv hg hvw => ?_, h.inv.done, h.inv.ring, fun x hx => h.inv.reach x (List.mem_cons_of_mem _ hx), fun y hy => ?_⟩, h.ext, by rw [h.nmark]; omega, h.low_le, h.low_or, ⟨n :: new, hst, fun y hy z hz hyz => ?_⟩⟩
  · by_cases e : v = n
    · subst e; exact (h.proc w (hall w hvw)).1
    · exact h.inv.black v w hv (by simp only [List.mem_cons, not_or]; exact ⟨e, hg⟩) hvw
  · obtain ⟨x, hx, hxy, p⟩ := h.inv.back y hy
    rcases List.mem_cons.1 hx with rfl | hx
    · obtain ⟨x', hx', hxz, p'⟩ := h.was.back z hz
      have h1 := h.old hz
      have h2 := h.old (h.was.gray x' hx')
      exact ⟨x', hx', by omega, (p.trans hp).trans p'⟩
    · exact ⟨x, hx, hxy, p⟩
  · rcases List.mem_cons.1 hy with rfl | hy
    · exact (h.proc z (hall z hyz)).2 hz
    · exact hnew y hy z hz hyz

theorem LI.pop (h : LI E s G n t ds) (hall : ∀ d, E n d → ds d) (hlow : t.low n = t.mark n) {new : List Nat} (hst : t.stack = s.stack ++ n :: new) {r : Nat} {ring' : Nat → Nat} (hr1 : ∀ v ∈ n :: new, ring' v = r)
    (hr2 : ∀ v, v ∉ n :: new → ring' v = t.ring v) (hmem : r ∈ n :: new) (hmin : ∀ v ∈ n :: new, r ≤ v) : Post E s { t with ring := ring', stack := s.stack } n G := by
  obtain ⟨new2, hst2, hnew⟩ := h.stack
  have e2 : new2 = new := by
    rw [hst] at hst2
    have := List.append_cancel_left hst2
    simp only [List.cons.injEq, true_and] at this
    exact this.symm
  subst e2
  have hC : ∀ y ∈ n :: new2, y ∈ t.stack := fun y hy => by rw [hst]; exact List.mem_append_right _ hy
  have hCn : ∀ y ∈ n :: new2, t.mark n ≤ t.mark y := fun y hy => h.new hst hy
  have hS : ∀ y ∈ s.stack, y ∈ t.stack := fun y hy => by rw [hst]; exact List.mem_append_left _ hy
  have hdis : ∀ y ∈ n :: new2, y ∉ s.stack := fun y hy hs => by have := hCn y hy; have := h.old hs; omega
  have hfrom : ∀ y ∈ n :: new2, Path E n y := fun y hy => h.inv.reach n List.mem_cons_self y (hC y hy) (hCn y hy)
  have hto : ∀ y ∈ n :: new2, Path E y n := fun y hy => by
    obtain ⟨x, hx, hxy, p⟩ := h.inv.back y (hC y hy)
    refine p.trans (h.inv.reach x hx n (hC n List.mem_cons_self) ?_)
    rcases List.mem_cons.1 hx with rfl | hx
    · exact Nat.le_refl _
    · have := h.old (h.was.gray x hx); omega
  have hout : ∀ y ∈ n :: new2, ∀ w, E y w → 0 < t.mark w ∧ (w ∈ n :: new2 ∨ w ∉ t.stack) := by
    intro y hy w hyw
    have hw0 : 0 < t.mark w := by
      rcases List.mem_cons.1 hy with rfl | hy'
      · exact (h.proc w (hall w hyw)).1
      · refine h.inv.black y w (h.inv.pos y (hC y hy)) ?_ hyw
        simp only [List.mem_cons, not_or]
        refine ⟨fun e => ?_, fun hg => hdis y hy (h.was.gray y hg)⟩
        subst e
        have h1 := h.inv.sorted
        rw [hst, List.pairwise_append] at h1
        exact absurd ((List.pairwise_cons.1 h1.2.1).1 y hy') (Nat.lt_irrefl _)
    refine ⟨hw0, ?_⟩
    by_cases hws : w ∈ t.stack
    · left
      have hws' := hws
      rw [hst] at hws'
      rcases List.mem_append.1 hws' with h3 | h3
      · have h4 := h.old h3
        have h5 : t.low n ≤ t.mark w := by
          rcases List.mem_cons.1 hy with rfl | hy'
          · exact (h.proc w (hall w hyw)).2 h3
          · exact hnew y hy' w h3 hyw
        omega
      · exact h3
    · exact .inr hws
  have hdone : ∀ a b, (0 < t.mark a ∧ a ∉ t.stack) → E a b → (0 < t.mark b ∧ b ∉ t.stack) := fun a b ⟨h1, h2⟩ hab =>
    ⟨h.inv.black a b h1 (fun hg => h2 (h.inv.gray a hg)) hab, h.inv.done a b h1 h2 hab⟩
  have hclosed : ∀ a b, (0 < t.mark a ∧ (a ∈ n :: new2 ∨ a ∉ t.stack)) → E a b → (0 < t.mark b ∧ (b ∈ n :: new2 ∨ b ∉ t.stack)) := by
    rintro a b ⟨h1, h2 | h2⟩ hab
    · exact hout a h2 b hab
    · have := hdone a b ⟨h1, h2⟩ hab
      exact ⟨this.1, .inr this.2⟩
  have hnot : ∀ v, v ∉ s.stack → v ∉ n :: new2 → v ∉ t.stack := fun v h1 h2 h3 => by
    rw [hst] at h3
    rcases List.mem_append.1 h3 with h3 | h3
    · exact h1 h3
    · exact h2 h3
  have hsorted : s.stack.Pairwise (fun a b => t.mark a < t.mark b) := by
    have h1 := h.inv.sorted
    rw [hst, List.pairwise_append] at h1
    exact h1.1
  refine ⟨⟨h.inv.lt, h.inv.le, h.inv.inj, h.inv.cnt, hsorted, fun v hv => h.inv.pos v (hS v hv), h.was.gray, fun v w hv hg hvw => ?_, fun v w hv hs hvw => ?_, fun v hv hs => ?_, fun x hx y hy => h.inv.reach x (List.mem_cons_of_mem _ hx) y (hS y hy), fun y hy => ?_⟩,
    ⟨h.ext.mark_old, h.ext.low_old, h.ext.fresh, h.ext.next⟩, by show 0 < t.mark n; rw [h.nmark]; omega, h.low_le, .inl hlow, ⟨[], by simp, by simp⟩⟩
  · by_cases e : v = n
    · subst e; exact (h.proc w (hall w hvw)).1
    · exact h.inv.black v w hv (by simp only [List.mem_cons, not_or]; exact ⟨e, hg⟩) hvw
  · by_cases hvC : v ∈ n :: new2
    · rcases (hout v hvC w hvw).2 with h1 | h1
      · exact hdis w h1
      · exact fun h2 => h1 (hS w h2)
    · have := h.inv.done v w hv (hnot v hs hvC) hvw
      exact fun h2 => this (hS w h2)
  · by_cases hvC : v ∈ n :: new2
    · show Least E v (ring' v)
      rw [hr1 v hvC]
      refine ⟨(hto v hvC).trans (hfrom r hmem), (hto r hmem).trans (hfrom v hvC), fun w hvw hwv => hmin w ?_⟩
      have h1 := Path.closed (S := fun a => 0 < t.mark a ∧ (a ∈ n :: new2 ∨ a ∉ t.stack)) hclosed hvw ⟨hv, .inl hvC⟩
      rcases h1.2 with h2 | h2
      · exact h2
      · have h3 := Path.closed (S := fun a => 0 < t.mark a ∧ a ∉ t.stack) hdone hwv ⟨h1.1, h2⟩
        exact absurd (hC v hvC) h3.2
    · show Least E v (ring' v)
      rw [hr2 v hvC]
      exact h.inv.ring v hv (hnot v hs hvC)
  · obtain ⟨x, hx, hxy, p⟩ := h.was.back y hy
    have h1 := h.old hy
    have h2 := h.old (h.was.gray x hx)
    exact ⟨x, hx, by show t.mark x ≤ t.mark y; omega, p⟩

end

theorem Inv.empty {s : Srch} (h1 : ∀ v, s.mark v = 0) (h2 : s.stack = []) (h3 : s.next = 0) : Inv E s [] := by
  refine ⟨fun v hv => ?_, fun v => ?_, fun u v _ hu => ?_, ?_, (by rw [h2]; exact .nil), fun v hv => ?_, fun g hg => (by cases hg), fun v w hv => ?_, fun v w hv => ?_, fun v hv => ?_, fun x hx => (by cases hx), fun y hy => ?_⟩
  · rw [h1] at hv; omega
  · rw [h1]; omega
  · rw [h1] at hu; omega
  · rw [h3]
    have : wh s.mark ≤ 32 := by
      have := List.countP_le_length (p := fun i => s.mark i == 0) (l := List.range 32)
      rw [List.length_range] at this
      exact this
    omega
  · rw [h2] at hv; cases hv
  · rw [h1] at hv; omega
  · rw [h1] at hv; omega
  · rw [h1] at hv; omega
  · rw [h2] at hy; cases hy

theorem Post.final {s s' : Srch} {n : Nat} (h : Post E s s' n []) (h1 : ∀ v, s.mark v = 0) : (∀ v, 0 < s'.mark v ↔ Path E n v) ∧ ∀ v, Path E n v → Least E v (s'.ring v) := by
  have hst : ∀ y, y ∉ s'.stack := fun y hy => by obtain ⟨x, hx, _⟩ := h.inv.back y hy; cases hx
  have hp : ∀ v, Path E n v → 0 < s'.mark v := fun v hv => Path.closed (S := fun a => 0 < s'.mark a) (fun a b ha hab => h.inv.black a b ha (by simp) hab) hv h.mine
  exact ⟨fun v => ⟨fun hv => (h.ext.fresh v (h1 v) hv).2, hp v⟩, fun v hv => h.inv.ring v (hp v hv) (hst v)⟩

end
end Go.Proofs.Ytnfdgjdnlikepab
