/- Plain: what the written functions of the wire compute: numbers in six bytes, frames as bytes. -/
import Derived.Test.YtopgdemmdcipcaaPa
import Derived.Test.YtopgdemmdcipcaaEa
import Derived.Test.YtopgdemmdcipcaaBits
namespace Go.Proofs.Ytopgdemmdcipcaa
open Go.RowKit
open Rep (rep)

theorem number_step (z : Int) (n : Nat) (l : List Byt) (j : Nat) (hj : j < 6) (hl : l.length ≤ 1000000) (h1 : -1099511627776 ≤ z) (h2 : z ≤ 1099511627776) :
    number_l1 z (n + 1) l (j : Int) = number_l1 z n (l ++ [⟨(z + 140737488355328) / ((256 ^ j : Nat) : Int) % 256⟩]) ((j : Int) - 1) := by
  rw [number_l1]
  have hw : IntKind.wrap .i64 (z + 140737488355328) = z + 140737488355328 := wr64 (by omega) (by omega)
  have h8 : IntKind.wrap .u64 (8 * IntKind.wrap .u64 (j : Int)) = 8 * (j : Int) := by rw [wrU64 (x := (j : Int)) (by omega) (by omega), wrU64 (by omega) (by omega)]
  have hs : IntKind.wrap .i64 ((j : Int) - 1) = (j : Int) - 1 := wr64 (by omega) (by omega)
  have hb : IntKind.bits .i64 = 64 := rfl
  rw [bif_t (dec_t (by omega)), hw, h8, hs, hb, nonneg_ok (by omega), some_bind, wr8, app_ok (by simp [Rep.bytes]; omega), some_bind]
  have ht : Int.toNat (8 * (j : Int)) = 8 * j := by omega
  have hm : min (8 * j) 64 = 8 * j := by omega
  have hp : ((2 : Int) ^ (8 * j)) = ((256 ^ j : Nat) : Int) := by rw [Int.pow_mul]; norm_cast
  rw [ht, hm, hp, Int.fdiv_eq_ediv_of_nonneg _ (Int.natCast_nonneg _)]

theorem numberD_eq {fu : Nat} {z : Int} {l : List Byt} (hf : 7 ≤ fu) (hl : l.length ≤ 100000) (h1 : -1099511627776 ≤ z) (h2 : z ≤ 1099511627776) : numberD fu l z = some (l ++ (sixZ z).map Byt.mk) := by
  obtain ⟨n, rfl⟩ : ∃ n, fu = n + 7 := ⟨fu - 7, by omega⟩
  unfold numberD
  have e5 := number_step z (n + 6) l 5 (by omega) (by omega) h1 h2
  have e4 := fun m => number_step z (n + 5) m 4 (by omega)
  have e3 := fun m => number_step z (n + 4) m 3 (by omega)
  have e2 := fun m => number_step z (n + 3) m 2 (by omega)
  have e1 := fun m => number_step z (n + 2) m 1 (by omega)
  have e0 := fun m => number_step z (n + 1) m 0 (by omega)
  have q5 : ((5 : Nat) : Int) = 5 := rfl
  have q4 : ((4 : Nat) : Int) = 4 := rfl
  have q3 : ((3 : Nat) : Int) = 3 := rfl
  have q2 : ((2 : Nat) : Int) = 2 := rfl
  have q1 : ((1 : Nat) : Int) = 1 := rfl
  have q0 : ((0 : Nat) : Int) = 0 := rfl
  rw [q5] at e5
  simp only [q4, q3, q2, q1, q0] at e4 e3 e2 e1 e0
  rw [e5, show (5 : Int) - 1 = 4 from rfl, e4 _ (by simp; omega) h1 h2, show (4 : Int) - 1 = 3 from rfl, e3 _ (by simp; omega) h1 h2, show (3 : Int) - 1 = 2 from rfl, e2 _ (by simp; omega) h1 h2, show (2 : Int) - 1 = 1 from rfl, e1 _ (by simp; omega) h1 h2, show (1 : Int) - 1 = 0 from rfl, e0 _ (by simp; omega) h1 h2]
  rw [number_l1, bif_f (dec_f (by omega))]
  simp only [List.append_assoc, List.cons_append, List.nil_append, sixZ, List.map_cons, List.map_nil]
  rw [show ((256 ^ 5 : Nat) : Int) = 1099511627776 from rfl, show ((256 ^ 4 : Nat) : Int) = 4294967296 from rfl, show ((256 ^ 3 : Nat) : Int) = 16777216 from rfl, show ((256 ^ 2 : Nat) : Int) = 65536 from rfl, show ((256 ^ 1 : Nat) : Int) = 256 from rfl, Int.ediv_one]

theorem strOf_append (a b : List Int) : strOfNums a ++ strOfNums b = strOfNums (a ++ b) := by
  apply str_ext
  rw [data_append, strOfNums_data, strOfNums_data, strOfNums_data, List.map_append]
theorem strOf_size (a : List Int) : (strOfNums a).size = a.length := by
  have := congrArg List.length (strOfNums_data a)
  simpa using this
theorem cat_str {a b : List Int} (h : a.length + b.length ≤ 140737488351232) : cat (strOfNums a) (strOfNums b) = some (strOfNums (a ++ b)) := by
  rw [cat_ok (by rw [strOf_size, strOf_size]; exact h), strOf_append]


/-- What a good frame's parts are within. -/
structure FOk (f : GFrame) : Prop where
  ops : f.ops.length ≤ 4
  op : ∀ o ∈ f.ops, 0 ≤ o.kind ∧ o.kind < 256 ∧ 0 ≤ o.key ∧ o.key < 256 ∧ -1099511627776 ≤ o.n ∧ o.n ≤ 1099511627776
  deps : f.deps.length ≤ 32
  dep : ∀ n ∈ f.deps, 0 ≤ n ∧ n < 32
  at_ : f.at_.length ≤ 4
  ats : ∀ n ∈ f.at_, 0 ≤ n ∧ n < 4
  vals : f.vals.length = f.at_.length
  val : ∀ v ∈ f.vals, -1099511627776 ≤ v ∧ v ≤ 1099511627776
  head : 0 ≤ f.kind ∧ f.kind < 256 ∧ 0 ≤ f.node ∧ f.node < 256 ∧ 0 ≤ f.id ∧ f.id < 256

def opBytes (o : GOp) : List Int := o.kind :: o.key :: sixZ o.n
def valBytes (p : Int × Int) : List Int := p.1 :: sixZ p.2
def encZ (f : GFrame) : List Int :=
  [f.kind, f.node, f.id, f.ops.length] ++ (f.ops.flatMap opBytes ++ ([(f.deps.length : Int)] ++ (f.deps ++ ([(f.at_.length : Int)] ++ (f.at_.zip f.vals).flatMap valBytes))))

theorem sixZ_len (z : Int) : (sixZ z).length = 6 := rfl
theorem byts (l : List Int) : (l.map Byt.mk).map Byt.val = l := by induction l with | nil => rfl | cons x t ih => rw [List.map_cons, List.map_cons, ih]

/-- The program's loops. -/
theorem enc_l3 (f : GFrame) (hf : FOk f) (fu : Nat) (hfu : 7 ≤ fu) : ∀ (ra rv : List Int) (k n : Nat) (l : List Byt), f.at_.drop k = ra → f.vals.drop k = rv → ra.length < n → l.length + 7 * ra.length ≤ 90000 → k ≤ f.at_.length →
    encode_l3 fu f n l (k : Int) = some (strOfNums (l.map Byt.val ++ (ra.zip rv).flatMap valBytes), 0) := by
  intro ra
  induction ra with
  | nil =>
    intro rv k n l ha hv hn hl hk
    obtain ⟨n, rfl⟩ : ∃ m, n = m + 1 := ⟨n - 1, by simp at hn; omega⟩
    have : f.at_.length ≤ k := by have := congrArg List.length ha; simp at this; omega
    rw [encode_l3, bif_f (dec_f (by omega))]
    simp
  | cons a t ih =>
    intro rv k n l ha hv hn hl hk
    obtain ⟨n, rfl⟩ : ∃ m, n = m + 1 := ⟨n - 1, by simp at hn; omega⟩
    have hk2 : k < f.at_.length := by have := congrArg List.length ha; simp at this; omega
    have hga : f.at_[k]? = some a := by have := congrArg (fun x : List Int => x[0]?) ha; simpa using this
    cases rv with
    | nil => have := congrArg List.length hv; simp at this; have := hf.vals; omega
    | cons v u =>
      have hgv : f.vals[k]? = some v := by have := congrArg (fun x : List Int => x[0]?) hv; simpa using this
      have ha2 : f.at_.drop (k + 1) = t := by rw [← List.tail_drop, ha]; rfl
      have hv2 : f.vals.drop (k + 1) = u := by rw [← List.tail_drop, hv]; rfl
      have hv3 := hf.val v (List.mem_of_getElem? hgv)
      have ha3 := hf.ats a (List.mem_of_getElem? hga)
      have h4 := hf.at_
      simp only [List.length_cons] at hl hn
      rw [encode_l3, bif_t (dec_t (by omega)), idx_nat, hga, some_bind, idx_nat, hgv, some_bind, app_ok (by simp [Rep.bytes]; omega), some_bind, numberD_eq hfu (by simp; omega) hv3.1 hv3.2, some_bind,
        wr64 (by omega) (by omega), show (k : Int) + 1 = ((k + 1 : Nat) : Int) from rfl, ih u (k + 1) n _ ha2 hv2 (by omega) (by simp [sixZ_len]; omega) (by omega)]
      congr 3
      simp only [List.map_append, byts, wr8, List.zip_cons_cons, List.flatMap_cons, valBytes, List.map_cons, List.map_nil, List.append_assoc, List.cons_append, List.nil_append]
      rw [Int.emod_eq_of_lt ha3.1 (by omega)]

theorem enc_l2 (f : GFrame) (hf : FOk f) (fu : Nat) (hfu : 40 ≤ fu) : ∀ (ra : List Int) (k n : Nat) (l : List Byt), f.deps.drop k = ra → ra.length < n → l.length + ra.length ≤ 80000 → k ≤ f.deps.length →
    encode_l2 fu f n l (k : Int) = some (strOfNums (l.map Byt.val ++ (ra ++ ([(f.at_.length : Int)] ++ (f.at_.zip f.vals).flatMap valBytes))), 0) := by
  intro ra
  induction ra with
  | nil =>
    intro k n l ha hn hl hk
    obtain ⟨n, rfl⟩ : ∃ m, n = m + 1 := ⟨n - 1, by simp at hn; omega⟩
    have : f.deps.length ≤ k := by have := congrArg List.length ha; simp at this; omega
    have h4 := hf.at_
    simp only [List.length_nil] at hl
    rw [encode_l2, bif_f (dec_f (by omega)), app_ok (by simp [Rep.bytes]; omega), some_bind, show (0 : Int) = ((0 : Nat) : Int) from rfl, enc_l3 f hf fu (by omega) f.at_ f.vals 0 fu _ rfl rfl (by omega) (by simp; omega) (by omega)]
    congr 3
    simp only [List.map_append, wr8, List.map_cons, List.map_nil, List.append_assoc, List.nil_append]
    rw [Int.emod_eq_of_lt (by omega) (by omega)]
  | cons a t ih =>
    intro k n l ha hn hl hk
    obtain ⟨n, rfl⟩ : ∃ m, n = m + 1 := ⟨n - 1, by simp at hn; omega⟩
    have hk2 : k < f.deps.length := by have := congrArg List.length ha; simp at this; omega
    have hga : f.deps[k]? = some a := by have := congrArg (fun x : List Int => x[0]?) ha; simpa using this
    have ha2 : f.deps.drop (k + 1) = t := by rw [← List.tail_drop, ha]; rfl
    have ha3 := hf.dep a (List.mem_of_getElem? hga)
    have h32 := hf.deps
    simp only [List.length_cons] at hl hn
    rw [encode_l2, bif_t (dec_t (by omega)), idx_nat, hga, some_bind, app_ok (by simp [Rep.bytes]; omega), some_bind, wr64 (by omega) (by omega), show (k : Int) + 1 = ((k + 1 : Nat) : Int) from rfl, ih (k + 1) n _ ha2 (by omega) (by simp; omega) (by omega)]
    congr 3
    simp only [List.map_append, wr8, List.map_cons, List.map_nil, List.append_assoc, List.cons_append, List.nil_append]
    rw [Int.emod_eq_of_lt ha3.1 (by omega)]

theorem enc_l1 (f : GFrame) (hf : FOk f) (fu : Nat) (hfu : 40 ≤ fu) : ∀ (ra : List GOp) (k n : Nat) (l : List Byt), f.ops.drop k = ra → ra.length < n → l.length + 8 * ra.length ≤ 70000 → k ≤ f.ops.length →
    encode_l1 fu f n l (k : Int) = some (strOfNums (l.map Byt.val ++ (ra.flatMap opBytes ++ ([(f.deps.length : Int)] ++ (f.deps ++ ([(f.at_.length : Int)] ++ (f.at_.zip f.vals).flatMap valBytes))))), 0) := by
  intro ra
  induction ra with
  | nil =>
    intro k n l ha hn hl hk
    obtain ⟨n, rfl⟩ : ∃ m, n = m + 1 := ⟨n - 1, by simp at hn; omega⟩
    have : f.ops.length ≤ k := by have := congrArg List.length ha; simp at this; omega
    have h4 := hf.deps
    simp only [List.length_nil] at hl
    rw [encode_l1, bif_f (dec_f (by omega)), app_ok (by simp [Rep.bytes]; omega), some_bind, show (0 : Int) = ((0 : Nat) : Int) from rfl, enc_l2 f hf fu hfu f.deps 0 fu _ rfl (by omega) (by simp; omega) (by omega)]
    congr 3
    simp only [List.map_append, wr8, List.map_cons, List.map_nil, List.append_assoc, List.nil_append, List.flatMap_nil]
    rw [Int.emod_eq_of_lt (by omega) (by omega)]
  | cons a t ih =>
    intro k n l ha hn hl hk
    obtain ⟨n, rfl⟩ : ∃ m, n = m + 1 := ⟨n - 1, by simp at hn; omega⟩
    have hk2 : k < f.ops.length := by have := congrArg List.length ha; simp at this; omega
    have hga : f.ops[k]? = some a := by have := congrArg (fun x : List GOp => x[0]?) ha; simpa using this
    have ha2 : f.ops.drop (k + 1) = t := by rw [← List.tail_drop, ha]; rfl
    obtain ⟨b1, b2, b3, b4, b5, b6⟩ := hf.op a (List.mem_of_getElem? hga)
    have h4 := hf.ops
    simp only [List.length_cons] at hl hn
    rw [encode_l1, bif_t (dec_t (by omega)), idx_nat, hga, some_bind, some_bind, app_ok (by simp [Rep.bytes]; omega), some_bind, numberD_eq (by omega) (by simp; omega) b5 b6, some_bind,
      wr64 (by omega) (by omega), show (k : Int) + 1 = ((k + 1 : Nat) : Int) from rfl, ih (k + 1) n _ ha2 (by omega) (by simp [sixZ_len]; omega) (by omega)]
    congr 3
    simp only [List.map_append, byts, wr8, List.flatMap_cons, opBytes, List.map_cons, List.map_nil, List.append_assoc, List.cons_append, List.nil_append]
    rw [Int.emod_eq_of_lt b1 b2, Int.emod_eq_of_lt b3 b4]

theorem encodeD_ok {f : GFrame} (hf : FOk f) (h0 : frameZ f = 0) {fu : Nat} (hfu : 40 ≤ fu) : encodeD fu f = some (strOfNums (encZ f), 0) := by
  unfold encodeD
  have h4 := hf.ops
  obtain ⟨b1, b2, b3, b4, b5, b6⟩ := hf.head
  rw [some_bind, h0, bif_f (by decide), show (0 : Int) = ((0 : Nat) : Int) from rfl, enc_l1 f hf fu hfu f.ops 0 fu _ rfl (by omega) (by simp; omega) (by omega)]
  congr 3
  simp only [encZ, wr8, List.map_cons, List.map_nil]
  rw [Int.emod_eq_of_lt b1 b2, Int.emod_eq_of_lt b3 b4, Int.emod_eq_of_lt b5 b6, Int.emod_eq_of_lt (by omega) (by omega)]
theorem encodeD_no {f : GFrame} (h0 : frameZ f ≠ 0) {fu : Nat} : encodeD fu f = some (strOfNums [], frameZ f) := by
  unfold encodeD
  rw [some_bind, bif_t (by simpa using h0)]
  rfl


theorem split_at {k : Nat} {α : Type} {l : List α} {a : α} {t : List α} (h : l.drop k = a :: t) : k < l.length ∧ l[k]? = some a ∧ l.drop (k + 1) = t := by
  have h1 := congrArg List.length h
  simp only [List.length_drop, List.length_cons] at h1
  refine ⟨by omega, ?_, ?_⟩
  · have := congrArg (fun x : List α => x[0]?) h
    simpa using this
  · rw [← List.tail_drop, h]; rfl
theorem split_nil {k : Nat} {α : Type} {l : List α} (h : l.drop k = []) : l.length ≤ k := by
  have h1 := congrArg List.length h
  simp only [List.length_drop, List.length_nil] at h1
  omega
theorem sz_str (a : List Int) : (strOfNums a).size = a.length := strOf_size a

end Go.Proofs.Ytopgdemmdcipcaa
