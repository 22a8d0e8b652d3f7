/- What lies in memory: pieces of rows of cells, data that cells stand for, and the state of a walk. Nothing of the program is named here. -/
import Derived.Test.YtopgdemmdcipcaaDb
import Derived.Deep.MidRow
import Derived.Maps.AppendAt
import Derived.BigQuiet
namespace Go.Proofs.Ytopgdemmdcipcaa
open Go.RowKit

/-! Pieces of a row. -/

def sl (cs : List Value) (o n : Nat) : List Value := (cs.drop o).take n
def pt (cs : List Value) (o : Nat) (ws : List Value) : List Value := cs.take o ++ ws ++ cs.drop (o + ws.length)

theorem sl_length {cs : List Value} {o n : Nat} (h : o + n ≤ cs.length) : (sl cs o n).length = n := by simp [sl]; omega
theorem sl_le {cs : List Value} {o n : Nat} (h : (sl cs o n).length = n) (hn : 0 < n) : o + n ≤ cs.length := by simp [sl] at h; omega
theorem sl_get (cs : List Value) (o n j : Nat) (h : j < n) : (sl cs o n)[j]? = cs[o + j]? := by simp [sl, h]
theorem sl_get_none (cs : List Value) (o n j : Nat) (h : n ≤ j) : (sl cs o n)[j]? = none := by simp [sl, List.getElem?_take]; omega
theorem ext_get {a b : List Value} (h : ∀ j : Nat, a[j]? = b[j]?) : a = b := List.ext_getElem? h
theorem sl_sl (cs : List Value) {o1 n1 o2 n2 : Nat} (h : o2 + n2 ≤ n1) : sl (sl cs o1 n1) o2 n2 = sl cs (o1 + o2) n2 := by
  refine ext_get fun j => ?_
  by_cases hj : j < n2
  · rw [sl_get _ _ _ _ hj, sl_get _ _ _ _ (by omega), sl_get _ _ _ _ hj, Nat.add_assoc]
  · rw [sl_get_none _ _ _ _ (by omega), sl_get_none _ _ _ _ (by omega)]
theorem sl_all (cs : List Value) : sl cs 0 cs.length = cs := by simp [sl]
theorem sl_prefix {p p' : List Value} (h : p <+: p') {o n : Nat} (hn : o + n ≤ p.length) : sl p' o n = sl p o n := by
  obtain ⟨t, rfl⟩ := h
  refine ext_get fun j => ?_
  by_cases hj : j < n
  · rw [sl_get _ _ _ _ hj, sl_get _ _ _ _ hj, List.getElem?_append_left (by omega)]
  · rw [sl_get_none _ _ _ _ (by omega), sl_get_none _ _ _ _ (by omega)]
theorem pt_length {cs : List Value} {o : Nat} {ws : List Value} (h : o + ws.length ≤ cs.length) : (pt cs o ws).length = cs.length := by simp [pt]; omega
theorem pt_get {cs : List Value} {o : Nat} {ws : List Value} (h : o + ws.length ≤ cs.length) (j : Nat) : (pt cs o ws)[j]? = if o ≤ j ∧ j < o + ws.length then ws[j - o]? else cs[j]? := by
  unfold pt
  by_cases h1 : j < o
  · rw [List.append_assoc, List.getElem?_append_left (by simp; omega), if_neg (by omega), List.getElem?_take, if_pos h1]
  · by_cases h2 : j < o + ws.length
    · rw [if_pos (by omega), List.getElem?_append_left (by simp; omega), List.getElem?_append_right (by simp; omega)]
      congr 1
      simp
      omega
    · rw [if_neg (by omega), List.getElem?_append_right (by simp; omega), List.getElem?_drop]
      congr 1
      simp
      omega
theorem sl_pt_same {cs : List Value} {o : Nat} {ws : List Value} (h : o + ws.length ≤ cs.length) {n : Nat} (hn : ws.length = n) : sl (pt cs o ws) o n = ws := by
  subst hn
  refine ext_get fun j => ?_
  by_cases hj : j < ws.length
  · rw [sl_get _ _ _ _ hj, pt_get h, if_pos (by omega)]; congr 1; omega
  · rw [sl_get_none _ _ _ _ (by omega), List.getElem?_eq_none (by omega)]
theorem sl_pt_apart {cs : List Value} {o : Nat} {ws : List Value} (h : o + ws.length ≤ cs.length) {o' n' : Nat} (ha : o' + n' ≤ o ∨ o + ws.length ≤ o') : sl (pt cs o ws) o' n' = sl cs o' n' := by
  refine ext_get fun j => ?_
  by_cases hj : j < n'
  · rw [sl_get _ _ _ _ hj, pt_get h, if_neg (by omega), sl_get _ _ _ _ hj]
  · rw [sl_get_none _ _ _ _ (by omega), sl_get_none _ _ _ _ (by omega)]
theorem sl_pt_in {cs : List Value} {o : Nat} {ws : List Value} {o' n' : Nat} (h1 : o' ≤ o) (h2 : o + ws.length ≤ o' + n') (h3 : o' + n' ≤ cs.length) : sl (pt cs o ws) o' n' = pt (sl cs o' n') (o - o') ws := by
  have hl := sl_length (cs := cs) h3
  refine ext_get fun j => ?_
  rw [pt_get (by omega)]
  by_cases hj : j < n'
  · rw [sl_get _ _ _ _ hj, pt_get (by omega), sl_get _ _ _ _ hj]
    by_cases hc : o ≤ o' + j ∧ o' + j < o + ws.length
    · rw [if_pos hc, if_pos (by omega)]; congr 1; omega
    · rw [if_neg hc, if_neg (by omega)]
  · rw [sl_get_none _ _ _ _ (by omega), sl_get_none _ _ _ _ (by omega), if_neg (by omega)]
theorem sl_cat (cs : List Value) (o n m : Nat) : sl cs o n ++ sl cs (o + n) m = sl cs o (n + m) := by
  simp only [sl]
  rw [List.take_add, List.drop_drop]

/-! Blocks that are as they are for good, as far as these cells go. -/

abbrev Mm := Nat → Option (List Value)
def Mm.le (M M' : Mm) : Prop := ∀ b p, M b = some p → ∃ p', M' b = some p' ∧ p <+: p'
theorem Mm.le.refl (M : Mm) : M.le M := fun _ p h => ⟨p, h, List.prefix_refl _⟩
theorem Mm.le.trans {A B C : Mm} (h : A.le B) (k : B.le C) : A.le C := fun b p hp =>
  let ⟨p1, h1, e1⟩ := h b p hp
  let ⟨p2, h2, e2⟩ := k b p1 h1
  ⟨p2, h2, e1.trans e2⟩
def Agree (M : Mm) (w : World) : Prop := ∀ b p, M b = some p → ∃ cs t fr, w.heap[b]? = some (.cells cs t fr) ∧ p <+: cs.toList
theorem Agree.lt {M : Mm} {w : World} (h : Agree M w) {b : Nat} {p : List Value} (hb : M b = some p) : b < w.heap.size := by
  obtain ⟨cs, t, fr, hh, _⟩ := h b p hb
  exact (Array.getElem?_eq_some_iff.1 hh).1

/-! What cells stand for. -/

class Rep (α : Type) where
  k : Nat
  bytes : Nat
  rep : Mm → List Value → α → Prop
  len : ∀ {M cs d}, rep M cs d → cs.length = k
  mono : ∀ {M M' : Mm} {cs d}, M.le M' → rep M cs d → rep M' cs d
  one : ∀ {M cs d}, rep M cs d → ∀ u ∈ cs, u.oneCell' = true
open Rep (rep)

instance : Rep Int where
  k := 1
  bytes := 8
  rep _ cs x := cs = [.int .i64 x]
  len h := by rw [h]; rfl
  mono _ h := h
  one h := by rw [h]; simp [Value.oneCell']
instance : Rep Bool where
  k := 1
  bytes := 1
  rep _ cs x := cs = [.bool x]
  len h := by rw [h]; rfl
  mono _ h := h
  one h := by rw [h]; simp [Value.oneCell']
instance : Rep ByteArray where
  k := 1
  bytes := 16
  rep _ cs x := cs = [.string x] ∧ x.size ≤ 140737488351232
  len h := by rw [h.1]; rfl
  mono _ h := h
  one h := by rw [h.1]; simp [Value.oneCell']

/-- A byte, as a number. -/
structure Byt where
  val : Int
deriving DecidableEq, Inhabited
instance : Rep Byt where
  k := 1
  bytes := 1
  rep _ cs x := cs = [.int .u8 x.val]
  len h := by rw [h]; rfl
  mono _ h := h
  one h := by rw [h]; simp [Value.oneCell']

def repL {α : Type} [Rep α] (M : Mm) (v : Value) (l : List α) : Prop :=
  ∃ a cap, v = .slice a l.length cap ∧ l.length ≤ cap ∧ (a = none → cap = 0) ∧ l.length * Rep.bytes α ≤ 140737488351232 ∧
    ∀ i x, l[i]? = some x → ∃ b off p, a = some ⟨b, off, none⟩ ∧ M b = some p ∧ off + i * Rep.k α + Rep.k α ≤ p.length ∧ rep M (sl p (off + i * Rep.k α) (Rep.k α)) x

theorem repL.mono {α : Type} [Rep α] {M M' : Mm} {v : Value} {l : List α} (hm : M.le M') (h : repL M v l) : repL M' v l := by
  obtain ⟨a, cap, rfl, h1, h2, h3, h4⟩ := h
  refine ⟨a, cap, rfl, h1, h2, h3, fun i x hx => ?_⟩
  obtain ⟨b, off, p, ha, hb, hl, hr⟩ := h4 i x hx
  obtain ⟨p', hb', hp⟩ := hm b p hb
  exact ⟨b, off, p', ha, hb', Nat.le_trans hl hp.length_le, by rw [sl_prefix hp hl]; exact Rep.mono hm hr⟩

instance {α : Type} [Rep α] : Rep (List α) where
  k := 1
  bytes := 24
  rep M cs l := ∃ v, cs = [v] ∧ repL M v l
  len h := by obtain ⟨v, rfl, _⟩ := h; rfl
  mono hm h := by obtain ⟨v, rfl, h⟩ := h; exact ⟨v, rfl, h.mono hm⟩
  one h := by
    obtain ⟨v, rfl, a, cap, rfl, _⟩ := h
    simp [Value.oneCell']

theorem repL_nil {α : Type} [Rep α] (M : Mm) : repL M (.slice none 0 0) ([] : List α) := ⟨none, 0, rfl, Nat.le_refl _, fun _ => rfl, by simp, fun i x h => by simp at h⟩

theorem mem_sl_of {cs : List Value} {k n : Nat} (hl : cs.length = n * k) (hk : 0 < k) {u : Value} (hu : u ∈ cs) : ∃ i, i < n ∧ u ∈ sl cs (i * k) k := by
  obtain ⟨j, hj⟩ := List.getElem?_of_mem hu
  have hlt : j < cs.length := (List.getElem?_eq_some_iff.1 hj).1
  refine ⟨j / k, Nat.div_lt_of_lt_mul (by rw [Nat.mul_comm]; omega), ?_⟩
  refine List.mem_of_getElem? (i := j % k) ?_
  rw [sl_get _ _ _ _ (Nat.mod_lt _ hk), ← hj]
  congr 1
  rw [Nat.mul_comm]
  exact Nat.div_add_mod j k

/-- An array. -/
instance {α : Type} [Rep α] {n : Nat} : Rep (Vector α n) where
  k := n * Rep.k α
  bytes := n * Rep.bytes α
  rep M cs v := cs.length = n * Rep.k α ∧ (0 < Rep.k α ∨ n = 0) ∧ ∀ i (h : i < n), rep M (sl cs (i * Rep.k α) (Rep.k α)) v[i]
  len h := h.1
  mono hm h := ⟨h.1, h.2.1, fun i hi => Rep.mono hm (h.2.2 i hi)⟩
  one h := fun u hu => by
    obtain ⟨h1, h2 | rfl, h3⟩ := h
    · obtain ⟨i, hi, hm⟩ := mem_sl_of h1 h2 hu
      exact Rep.one (h3 i hi) u hm
    · simp at h1; subst h1; simp at hu

/-! The state of a walk. -/

inductive Ent where
  | box (b : Nat) (cs : List Value) (t : TypeId)
  | row (v : Value) (e : TypeId) (k : Nat)
  | stk (v : Value) (e : TypeId) (k : Nat) (xs : List Value)

def Ent.blk : Ent → Option Nat
  | .box b _ _ => some b
  | .row v _ _ => v.ownBlock
  | .stk v _ _ _ => v.ownBlock

def rowIn (M : Mm) (w : World) (v : Value) (e : TypeId) (k : Nat) : Prop := ∃ n xs, w.ownsRow 0 e k v n xs ∧ ∀ g, v.ownBlock = some g → M g = some xs

/-- A row of one's own that may turn: nothing is known of it for good. -/
def stkIn (M : Mm) (w : World) (v : Value) (e : TypeId) (k : Nat) (xs : List Value) : Prop := (∃ n, w.ownsRow 0 e k v n xs) ∧ ∀ g, v.ownBlock = some g → M g = none

def Ent.holds (M : Mm) (w : World) : Ent → Prop
  | .box b cs t => w.heap[b]? = some (.cells cs.toArray t (0, 0)) ∧ M b = none
  | .row v e k => rowIn M w v e k
  | .stk v e k xs => stkIn M w v e k xs

theorem Ent.lt {M : Mm} {w : World} {e : Ent} (h : e.holds M w) {b : Nat} (hb : e.blk = some b) : b < w.heap.size := by
  cases e with
  | box b' cs t =>
    cases hb
    exact (Array.getElem?_eq_some_iff.1 h.1).1
  | row v e k =>
    obtain ⟨n, xs, ⟨_, h | ⟨g, cap, cur, rfl, _, hh, _⟩⟩, _⟩ := h
    · obtain ⟨rfl, _⟩ := h; cases hb
    · cases hb; exact (Array.getElem?_eq_some_iff.1 hh).1
  | stk v e k ys =>
    obtain ⟨⟨n, _, h | ⟨g, cap, cur, rfl, _, hh, _⟩⟩, _⟩ := h
    · obtain ⟨rfl, _⟩ := h; cases hb
    · cases hb; exact (Array.getElem?_eq_some_iff.1 hh).1

/-- No block is let. -/
def noX : Nat → Prop := fun _ => False

/-- The state of a walk that began in w0 and may turn, of the blocks that were there, those of X alone. -/
structure St (w0 : World) (X : Nat → Prop) (M : Mm) (H : List Ent) (w : World) : Prop where
  os : w.os = w0.os
  tape : w.tape = w0.tape
  output : w.output = w0.output
  size : w0.heap.size ≤ w.heap.size
  frame : ∀ k, k < w0.heap.size → ¬ X k → w.heap[k]? = w0.heap[k]?
  agree : Agree M w
  ents : ∀ e ∈ H, e.holds M w
  mine : ∀ e ∈ H, ∀ b, e.blk = some b → X b ∨ w0.heap.size ≤ b
  apart : H.Pairwise (fun e f => ∀ b, e.blk = some b → f.blk ≠ some b)

theorem St.start {w : World} {X : Nat → Prop} {M : Mm} (h : Agree M w) : St w X M [] w := ⟨rfl, rfl, rfl, Nat.le_refl _, fun _ _ _ => rfl, h, by simp, by simp, .nil⟩

theorem St.drew {w0 w : World} {X : Nat → Prop} {M : Mm} {H : List Ent} (h : St w0 X M H w) : St w0 X M H w.drew := ⟨h.os, h.tape, h.output, h.size, h.frame, h.agree, h.ents, h.mine, h.apart⟩

/-- Only these blocks were there, and none of them has turned. -/
structure Kept (w w' : World) : Prop where
  os : w'.os = w.os
  tape : w'.tape = w.tape
  output : w'.output = w.output
  size : w.heap.size ≤ w'.heap.size
  block : ∀ k, k < w.heap.size → w'.heap[k]? = w.heap[k]?

theorem Kept.of_below {w w' : World} (h : Below w.heap.size w w') : Kept w w' := ⟨h.os, h.tape, h.output, h.size, h.block⟩
theorem Kept.below {w w' : World} (h : Kept w w') : Below w.heap.size w w' := ⟨h.os, h.tape, h.output, h.size, h.block⟩
theorem Kept.refl (w : World) : Kept w w := ⟨rfl, rfl, rfl, Nat.le_refl _, fun _ _ => rfl⟩
theorem Kept.trans {a b c : World} (h : Kept a b) (k : Kept b c) : Kept a c :=
  ⟨k.os.trans h.os, k.tape.trans h.tape, k.output.trans h.output, Nat.le_trans h.size k.size, fun i hi => (k.block i (Nat.lt_of_lt_of_le hi h.size)).trans (h.block i hi)⟩

theorem St.kept {w0 w : World} {M : Mm} {H : List Ent} (h : St w0 noX M H w) : Kept w0 w := ⟨h.os, h.tape, h.output, h.size, fun k hk => h.frame k hk (fun hx => hx.elim)⟩

/-- M' holds what M held, and of the blocks that there are nothing else. -/
def Mm.new (M M' : Mm) (n : Nat) : Prop := ∀ b, b < n → M' b = M b

/-- More is known; of the blocks that were there when the call began, but for those of X, nothing else. -/
def Mm.ext (n : Nat) (X : Nat → Prop) (M M' : Mm) : Prop := M.le M' ∧ ∀ b, b < n → ¬ X b → M' b = M b
theorem Mm.ext.refl (n : Nat) (X : Nat → Prop) (M : Mm) : Mm.ext n X M M := ⟨Mm.le.refl M, fun _ _ _ => rfl⟩
theorem Mm.ext.trans {n : Nat} {X : Nat → Prop} {A B C : Mm} (h : Mm.ext n X A B) (k : Mm.ext n X B C) : Mm.ext n X A C := ⟨h.1.trans k.1, fun b hb hx => (k.2 b hb hx).trans (h.2 b hb hx)⟩
theorem Mm.ext.new {n : Nat} {M M' : Mm} (h : Mm.ext n noX M M') : M.new M' n := fun b hb => h.2 b hb (fun hx => hx.elim)

theorem ownsRow_of_block {w w' : World} {base : Nat} {e : TypeId} {k : Nat} {v : Value} {n : Nat} {xs : List Value} (h : w.ownsRow base e k v n xs) (hb : ∀ g, v.ownBlock = some g → w'.heap[g]? = w.heap[g]?) : w'.ownsRow base e k v n xs := by
  obtain ⟨h1, h2 | ⟨g, cap, cur, rfl, hg, hh, r⟩⟩ := h
  · exact ⟨h1, .inl h2⟩
  · exact ⟨h1, .inr ⟨g, cap, cur, rfl, hg, by rw [hb g rfl]; exact hh, r⟩⟩

theorem Ent.kept {M M' : Mm} {w w' : World} {e : Ent} (h : e.holds M w) (hw : ∀ b, e.blk = some b → w'.heap[b]? = w.heap[b]? ∧ M' b = M b) : e.holds M' w' := by
  cases e with
  | box b cs t => exact ⟨(hw b rfl).1.trans h.1, (hw b rfl).2.trans h.2⟩
  | row v e k =>
    obtain ⟨n, xs, h1, h2⟩ := h
    exact ⟨n, xs, ownsRow_of_block h1 fun g hg => (hw g hg).1, fun g hg => (hw g hg).2.trans (h2 g hg)⟩
  | stk v e k ys =>
    obtain ⟨⟨n, h1⟩, h2⟩ := h
    exact ⟨⟨n, ownsRow_of_block h1 fun g hg => (hw g hg).1⟩, fun g hg => (hw g hg).2.trans (h2 g hg)⟩

section
variable {w0 w w' : World} {X : Nat → Prop} {M M' : Mm} {H : List Ent}

/-- Behind a call. -/
theorem St.call (h : St w0 X M H w) (hk : Kept w w') (hn : M.new M' w.heap.size) (ha : Agree M' w') : St w0 X M' H w' := by
  refine ⟨hk.os.trans h.os, hk.tape.trans h.tape, hk.output.trans h.output, Nat.le_trans h.size hk.size, fun k hlt hno => (hk.block k (Nat.lt_of_lt_of_le hlt h.size)).trans (h.frame k hlt hno), ha, fun e he => ?_, h.mine, h.apart⟩
  exact Ent.kept (h.ents e he) fun b hb => have := Ent.lt (h.ents e he) hb; ⟨hk.block b this, hn b this⟩
theorem Agree.kept (h : Agree M w) (hk : Kept w w') : Agree M w' := fun b p hb => by
  obtain ⟨cs, t, fr, h1, h2⟩ := h b p hb
  exact ⟨cs, t, fr, (hk.block b (h.lt hb)).trans h1, h2⟩
theorem St.call0 (h : St w0 X M H w) (hk : Kept w w') : St w0 X M H w' := h.call hk (fun _ _ => rfl) (h.agree.kept hk)
theorem Mm.new.le (h : M.new M' w.heap.size) (ha : Agree M w) : M.le M' := fun b p hb => ⟨p, by rw [h b (ha.lt hb)]; exact hb, List.prefix_refl _⟩

/-- A new block that may be written. -/
theorem St.alloc (h : St w0 X M H w) (cs : List Value) (t : TypeId) : St w0 X M (.box w.heap.size cs t :: H) (w.alloc (.cells cs.toArray t)) := by
  have hsz : (w.alloc (.cells cs.toArray t)).heap.size = w.heap.size + 1 := by simp
  have hold : ∀ k, k < w.heap.size → (w.alloc (.cells cs.toArray t)).heap[k]? = w.heap[k]? := fun k hk => Below.heap_alloc _ _ _ hk
  refine ⟨h.os, h.tape, h.output, by have := h.size; omega, fun k hk hno => (hold k (Nat.lt_of_lt_of_le hk h.size)).trans (h.frame k hk hno), fun b p hb => ?_, fun e he => ?_, fun e he b hb => ?_, ?_⟩
  · obtain ⟨c, t', fr, h1, h2⟩ := h.agree b p hb
    exact ⟨c, t', fr, (hold b (h.agree.lt hb)).trans h1, h2⟩
  · rcases List.mem_cons.1 he with rfl | he
    · refine ⟨?_, ?_⟩
      · show (w.heap.push _)[w.heap.size]? = _
        simp
      · cases hm : M w.heap.size with
        | none => rfl
        | some p => have := h.agree.lt hm; omega
    · exact Ent.kept (h.ents e he) fun b hb => ⟨hold b (Ent.lt (h.ents e he) hb), rfl⟩
  · rcases List.mem_cons.1 he with rfl | he
    · cases hb; exact .inr h.size
    · exact h.mine e he b hb
  · refine .cons (fun e he b hb hb' => ?_) h.apart
    cases hb
    have := Ent.lt (h.ents e he) hb'
    omega

/-- A new block of data. -/
def Mm.put (M : Mm) (b : Nat) (p : List Value) : Mm := fun k => if k = b then some p else M k
theorem Mm.put_same (M : Mm) (b : Nat) (p : List Value) : M.put b p b = some p := by simp [Mm.put]
theorem Mm.put_other (M : Mm) {b k : Nat} (p : List Value) (h : k ≠ b) : M.put b p k = M k := by simp [Mm.put, h]
theorem St.none_at (h : St w0 X M H w) {b : Nat} (hb : w.heap.size ≤ b) : M b = none := by
  cases hm : M b with
  | none => rfl
  | some p => have := h.agree.lt hm; omega
theorem Mm.put_le {b : Nat} (p : List Value) (h : M b = none) : M.le (M.put b p) := fun k q hk => by
  refine ⟨q, ?_, List.prefix_refl _⟩
  rw [Mm.put_other]
  · exact hk
  · intro e; subst e; rw [h] at hk; cases hk
theorem St.extM (h : St w0 X M H w) (p : List Value) : Mm.ext w0.heap.size X M (M.put w.heap.size p) :=
  ⟨Mm.put_le p (h.none_at (Nat.le_refl _)), fun b hb _ => Mm.put_other _ _ (by have := h.size; omega)⟩
theorem St.ext (h : St w0 X M H w) (hn : M.new M' w.heap.size) : Mm.ext w0.heap.size X M M' := ⟨hn.le h.agree, fun b hb _ => hn b (Nat.lt_of_lt_of_le hb h.size)⟩
theorem St.allocM (h : St w0 X M H w) (cs : List Value) (t : TypeId) : St w0 X (M.put w.heap.size cs) H (w.alloc (.cells cs.toArray t)) := by
  have hsz : (w.alloc (.cells cs.toArray t)).heap.size = w.heap.size + 1 := by simp
  have hold : ∀ k, k < w.heap.size → (w.alloc (.cells cs.toArray t)).heap[k]? = w.heap[k]? := fun k hk => Below.heap_alloc _ _ _ hk
  refine ⟨h.os, h.tape, h.output, by have := h.size; omega, fun k hk hno => (hold k (Nat.lt_of_lt_of_le hk h.size)).trans (h.frame k hk hno), fun b p hb => ?_, fun e he => ?_, h.mine, h.apart⟩
  · by_cases e : b = w.heap.size
    · subst e
      rw [Mm.put_same] at hb
      cases hb
      refine ⟨cs.toArray, t, (0, 0), ?_, by simp⟩
      show (w.heap.push _)[w.heap.size]? = _
      simp
    · rw [Mm.put_other _ _ e] at hb
      obtain ⟨c, t', fr, h1, h2⟩ := h.agree b p hb
      exact ⟨c, t', fr, (hold b (h.agree.lt hb)).trans h1, h2⟩
  · exact Ent.kept (h.ents e he) fun b hb => by
      have := Ent.lt (h.ents e he) hb
      exact ⟨hold b this, Mm.put_other _ _ (by omega)⟩

/-- The last entry is done with. -/
theorem St.drop {e : Ent} (h : St w0 X M (e :: H) w) : St w0 X M H w :=
  ⟨h.os, h.tape, h.output, h.size, h.frame, h.agree, fun f hf => h.ents f (List.mem_cons_of_mem _ hf), fun f hf => h.mine f (List.mem_cons_of_mem _ hf), (List.pairwise_cons.1 h.apart).2⟩
/-- An entry may be set to another place. -/
theorem St.perm {H' : List Ent} (h : St w0 X M H w) (hp : H.Perm H') : St w0 X M H' w := by
  refine ⟨h.os, h.tape, h.output, h.size, h.frame, h.agree, fun f hf => h.ents f (hp.mem_iff.2 hf), fun f hf => h.mine f (hp.mem_iff.2 hf), ?_⟩
  exact hp.pairwise h.apart (fun {a b} hab c hc hc' => hab c hc' hc)

/-- A block that is written: the entry in front. -/
theorem St.write {b : Nat} {cs cs' : List Value} {t : TypeId} (h : St w0 X M (.box b cs t :: H) w) (hos : w'.os = w.os) (htp : w'.tape = w.tape) (hout : w'.output = w.output)
    (hb : w'.heap[b]? = some (.cells cs'.toArray t (0, 0))) (ho : ∀ k, k ≠ b → w'.heap[k]? = w.heap[k]?) (hsz : w'.heap.size = w.heap.size) : St w0 X M (.box b cs' t :: H) w' := by
  have hM : M b = none := (h.ents _ List.mem_cons_self).2
  have hmine := h.mine _ List.mem_cons_self b rfl
  refine ⟨hos.trans h.os, htp.trans h.tape, hout.trans h.output, by rw [hsz]; exact h.size, fun k hk hno => ?_, fun k p hk => ?_, fun e he => ?_, fun e he c hc => ?_, ?_⟩
  · rw [ho k (fun e => by subst e; rcases hmine with hx | hx; exact hno hx; omega)]
    exact h.frame k hk hno
  · have hkb : k ≠ b := fun e => by subst e; rw [hM] at hk; cases hk
    rw [ho k hkb]
    exact h.agree k p hk
  · rcases List.mem_cons.1 he with rfl | he'
    · exact ⟨hb, hM⟩
    · refine Ent.kept (h.ents e (List.mem_cons_of_mem _ he')) fun c hc => ⟨ho c fun heq => ?_, rfl⟩
      subst heq
      exact (List.pairwise_cons.1 h.apart).1 e he' c rfl hc
  · rcases List.mem_cons.1 he with rfl | he'
    · cases hc; exact hmine
    · exact h.mine e (List.mem_cons_of_mem _ he') c hc
  · refine .cons (fun e he c hc => ?_) (List.pairwise_cons.1 h.apart).2
    cases hc
    exact (List.pairwise_cons.1 h.apart).1 e he b rfl
end

end Go.Proofs.Ytopgdemmdcipcaa
