/- The order in which all is done that one hangs on, over any relation that is reflexive and transitive: plain mathematics, no program is named here. -/
import Derived.Test.YtnfdgjdnlikepabGm
namespace Go.Proofs.Ytnfdgjdnlikepab
set_option linter.unusedVariables false

theorem nodup_len : ∀ (n : Nat) (l : List Nat), l.Nodup → (∀ x ∈ l, x < n) → l.length ≤ n
  | 0, l, _, h => by
    cases l with
    | nil => simp
    | cons a t => exact absurd (h a List.mem_cons_self) (Nat.not_lt_zero _)
  | n + 1, l, hn, h => by
    have h1 := nodup_len n (l.filter (· != n)) (hn.filter _) (fun x hx => by
      rw [List.mem_filter] at hx
      have := h x hx.1
      have h2 : x ≠ n := by simpa using hx.2
      omega)
    have h2 : l.length ≤ (l.filter (· != n)).length + 1 := by
      clear h1 h
      induction l with
      | nil => simp
      | cons a t ih =>
        rw [List.nodup_cons] at hn
        have ih := ih hn.2
        by_cases e : a = n
        · subst e
          have : t.filter (· != a) = t := List.filter_eq_self.2 fun x hx => by simp; rintro rfl; exact hn.1 hx
          simp [this]
        · rw [List.filter_cons_of_pos (by simpa using e)]
          simp only [List.length_cons]
          omega
    omega

theorem countP_lt {p q : Nat → Bool} (h : ∀ k, q k = true → p k = true) {x : Nat} (hp : p x = true) (hq : q x = false) : ∀ (l : List Nat), x ∈ l → l.countP q < l.countP p := by
  intro l
  induction l with
  | nil => intro h; cases h
  | cons a t ih =>
    intro hm
    rw [List.countP_cons, List.countP_cons]
    have hle := countP_le h t
    rcases List.mem_cons.1 hm with rfl | hm
    · rw [hp, hq]; simp; omega
    · have := ih hm
      cases hqa : q a with
      | false => simp; omega
      | true => rw [h a hqa]; simp; omega

def candO (P : Nat → Nat → Bool) (n : Nat) (out : List Nat) (m : Nat) : Bool := P n m && (!out.contains m && (List.range 32).all fun d => !P m d || (P d m || out.contains d))
def nextO (P : Nat → Nat → Bool) (n : Nat) (out : List Nat) : Option Nat := (List.range 32).find? (candO P n out)
def ringO (P : Nat → Nat → Bool) (c : Nat) : List Nat := (List.range 32).filter fun m => P c m && P m c
def orderF (P : Nat → Nat → Bool) (n : Nat) : Nat → List Nat → List Nat
  | 0, out => out
  | k + 1, out => match nextO P n out with
    | none => out
    | some c => orderF P n k (out ++ ringO P c)
def orderS (P : Nat → Nat → Bool) (n : Nat) : List Nat := orderF P n 32 []

/-- A relation on the numbers below 32. -/
structure Pre (P : Nat → Nat → Bool) : Prop where
  refl : ∀ a, a < 32 → P a a = true
  trans : ∀ a b c, P a b = true → P b c = true → P a c = true
  lt : ∀ a b, a < 32 → P a b = true → b < 32

structure OKO (P : Nat → Nat → Bool) (n : Nat) (out : List Nat) : Prop where
  nodup : out.Nodup
  lt : ∀ m ∈ out, m < 32
  sub : ∀ m ∈ out, P n m = true
  dc : ∀ m ∈ out, ∀ d, P m d = true → d ∈ out

section
variable {P : Nat → Nat → Bool} {n : Nat} {out : List Nat}
theorem candO_iff {m : Nat} : candO P n out m = true ↔ P n m = true ∧ m ∉ out ∧ ∀ d, d < 32 → P m d = true → P d m = true ∨ d ∈ out := by
  simp only [candO, Bool.and_eq_true, Bool.not_eq_true', List.all_eq_true, List.mem_range, Bool.or_eq_true, List.contains_eq_mem, decide_eq_true_eq, decide_eq_false_iff_not]
  constructor
  · rintro ⟨h1, h2, h3⟩
    refine ⟨h1, h2, fun d hd hm => ?_⟩
    rcases h3 d hd with h | h
    · rw [hm] at h; cases h
    · exact h
  · rintro ⟨h1, h2, h3⟩
    refine ⟨h1, h2, fun d hd => ?_⟩
    cases hm : P m d with
    | false => exact .inl rfl
    | true => exact .inr (h3 d hd hm)
theorem nextO_some {c : Nat} (h : nextO P n out = some c) : c < 32 ∧ candO P n out c = true ∧ ∀ m, m < c → candO P n out m = false := by
  unfold nextO at h
  have h1 := List.find?_some h
  have h2 := List.mem_of_find?_eq_some h
  refine ⟨List.mem_range.1 h2, h1, fun m hm => ?_⟩
  rw [List.find?_range_eq_some] at h
  have := h.2.2 m hm
  simpa using this
theorem nextO_of {c : Nat} (hc : c < 32) (h1 : candO P n out c = true) (h2 : ∀ m, m < c → candO P n out m = false) : nextO P n out = some c := by
  unfold nextO
  rw [List.find?_range_eq_some]
  exact ⟨h1, List.mem_range.2 hc, fun m hm => by simp [h2 m hm]⟩
theorem nextO_none : nextO P n out = none ↔ ∀ m, m < 32 → candO P n out m = false := by
  unfold nextO
  rw [List.find?_eq_none]
  simp
theorem mem_ringO {c m : Nat} : m ∈ ringO P c ↔ m < 32 ∧ P c m = true ∧ P m c = true := by
  simp [ringO, List.mem_filter, List.mem_range]

theorem OKO.nil : OKO P n [] := ⟨List.nodup_nil, by simp, by simp, by simp⟩
theorem OKO.step (hP : Pre P) (hn : n < 32) (h : OKO P n out) {c : Nat} (hc : nextO P n out = some c) : OKO P n (out ++ ringO P c) := by
  obtain ⟨hc32, hcand, _⟩ := nextO_some hc
  rw [candO_iff] at hcand
  obtain ⟨h1, h2, h3⟩ := hcand
  refine ⟨?_, fun m hm => ?_, fun m hm => ?_, fun m hm d hd => ?_⟩
  · rw [List.nodup_append]
    refine ⟨h.nodup, List.nodup_range.filter _, fun a ha b hb => ?_⟩
    rintro rfl
    exact h2 (h.dc a ha c (mem_ringO.1 hb).2.2)
  · rcases List.mem_append.1 hm with hm | hm
    · exact h.lt m hm
    · exact (mem_ringO.1 hm).1
  · rcases List.mem_append.1 hm with hm | hm
    · exact h.sub m hm
    · exact hP.trans _ _ _ h1 (mem_ringO.1 hm).2.1
  · rcases List.mem_append.1 hm with hm | hm
    · exact List.mem_append_left _ (h.dc m hm d hd)
    · obtain ⟨hm32, hcm, hmc⟩ := mem_ringO.1 hm
      have hcd := hP.trans _ _ _ hcm hd
      have hd32 := hP.lt m d hm32 hd
      rcases h3 d hd32 hcd with h4 | h4
      · exact List.mem_append_right _ (mem_ringO.2 ⟨hd32, hcd, h4⟩)
      · exact List.mem_append_left _ h4
theorem ringO_self (hP : Pre P) {c : Nat} (hc : c < 32) : c ∈ ringO P c := mem_ringO.2 ⟨hc, hP.refl c hc, hP.refl c hc⟩
theorem OKO.len (h : OKO P n out) : out.length ≤ 32 := nodup_len 32 out h.nodup h.lt
theorem OKO.full (h : OKO P n out) (hl : 32 ≤ out.length) : nextO P n out = none := by
  rw [nextO_none]
  intro m hm
  cases hc : candO P n out m with
  | false => rfl
  | true =>
    rw [candO_iff] at hc
    have := nodup_len 32 (m :: out) (List.nodup_cons.2 ⟨hc.2.1, h.nodup⟩) (fun x hx => by
      rcases List.mem_cons.1 hx with rfl | hx
      · exact hm
      · exact h.lt x hx)
    simp only [List.length_cons] at this
    omega

/-- As long as something is not placed, there is one to be placed. -/
theorem OKO.more (hP : Pre P) (hn : n < 32) (h : OKO P n out) : ∀ (k m : Nat), (List.range 32).countP (P m) ≤ k → P n m = true → m ∉ out → nextO P n out ≠ none
  | k, m, hk, hm, hmo => by
    intro h0
    have hm32 := hP.lt n m hn hm
    have hno := nextO_none.1 h0 m hm32
    by_cases hall : ∀ d, d < 32 → P m d = true → P d m = true ∨ d ∈ out
    · rw [candO_iff.2 ⟨hm, hmo, hall⟩] at hno
      cases hno
    · have hex : ∃ d, d < 32 ∧ P m d = true ∧ P d m = false ∧ d ∉ out := by
        refine Classical.byContradiction fun hne => hall fun d hd hmd => ?_
        by_cases h1 : d ∈ out
        · exact .inr h1
        · cases h2 : P d m with
          | true => exact .inl rfl
          | false => exact absurd ⟨d, hd, hmd, h2, h1⟩ hne
      obtain ⟨d, hd, hmd, hdm, hdo⟩ := hex
      have hlt : (List.range 32).countP (P d) < (List.range 32).countP (P m) :=
        countP_lt (p := P m) (q := P d) (fun x hx => hP.trans _ _ x hmd hx) (hP.refl m hm32) hdm _ (List.mem_range.2 hm32)
      cases k with
      | zero => omega
      | succ k => exact OKO.more hP hn h k d (by omega) (hP.trans _ _ _ hm hmd) hdo h0

/-- Where the order ends. -/
theorem orderF_end (hP : Pre P) (hn : n < 32) : ∀ (k : Nat) (out : List Nat), OKO P n out → 32 ≤ k + out.length → OKO P n (orderF P n k out) ∧ nextO P n (orderF P n k out) = none
  | 0, out, h, hk => ⟨h, h.full (by omega)⟩
  | k + 1, out, h, hk => by
    unfold orderF
    cases hc : nextO P n out with
    | none => exact ⟨h, hc⟩
    | some c =>
      refine orderF_end hP hn k _ (h.step hP hn hc) ?_
      have := List.length_pos_of_mem (ringO_self hP (nextO_some hc).1)
      rw [List.length_append]
      omega
theorem orderS_mem (hP : Pre P) (hn : n < 32) (m : Nat) : m ∈ orderS P n ↔ P n m = true := by
  obtain ⟨h1, h2⟩ := orderF_end hP hn 32 [] OKO.nil (by simp)
  refine ⟨h1.sub m, fun hm => ?_⟩
  refine Classical.byContradiction fun hno => ?_
  exact h1.more hP hn _ m (Nat.le_refl _) hm hno h2
theorem orderS_ok (hP : Pre P) (hn : n < 32) : OKO P n (orderS P n) := (orderF_end hP hn 32 [] OKO.nil (by simp)).1

/-- Each stands behind all that it hangs on, but for those that hang on it. -/
theorem orderF_behind (hP : Pre P) (hn : n < 32) : ∀ (k : Nat) (out : List Nat), OKO P n out → (∀ (i m : Nat), out[i]? = some m → ∀ d, d < 32 → P m d = true → P d m = true ∨ d ∈ out.take i) →
    ∀ (i m : Nat), (orderF P n k out)[i]? = some m → ∀ d, d < 32 → P m d = true → P d m = true ∨ d ∈ (orderF P n k out).take i
  | 0, out, _, hb => hb
  | k + 1, out, h, hb => by
    unfold orderF
    cases hc : nextO P n out with
    | none => exact hb
    | some c =>
      refine orderF_behind hP hn k _ (h.step hP hn hc) ?_
      obtain ⟨hc32, hcand, _⟩ := nextO_some hc
      rw [candO_iff] at hcand
      intro i m him d hd hmd
      by_cases hi : i < out.length
      · rw [List.getElem?_append_left hi] at him
        rw [List.take_append_of_le_length (by omega)]
        exact hb i m him d hd hmd
      · rw [List.getElem?_append_right (by omega)] at him
        obtain ⟨_, hcm, hmc⟩ := mem_ringO.1 (List.mem_of_getElem? him)
        rcases hcand.2.2 d hd (hP.trans _ _ _ hcm hmd) with h4 | h4
        · exact .inl (hP.trans _ _ _ h4 hcm)
        · refine .inr ?_
          rw [List.take_append, List.mem_append]
          left
          rw [List.take_of_length_le (by omega)]
          exact h4
theorem orderS_behind (hP : Pre P) (hn : n < 32) {i m : Nat} (h : (orderS P n)[i]? = some m) {d : Nat} (hd : d < 32) (hmd : P m d = true) : P d m = true ∨ d ∈ (orderS P n).take i :=
  orderF_behind hP hn 32 [] OKO.nil (fun i m h => by simp at h) i m h d hd hmd

/-- The order of one that stands in an order: what of that it hangs on. -/
theorem orderF_part (hP : Pre P) (hn : n < 32) {x : Nat} (hx : x < 32) (hnx : P n x = true) : ∀ (k : Nat) (out : List Nat), OKO P n out → 32 ≤ k + out.length → ∀ k', 32 ≤ k' + (out.filter (P x)).length → OKO P x (out.filter (P x)) →
    (orderF P n k out).filter (P x) = orderF P x k' (out.filter (P x))
  | 0, out, h, hk, k', hk', hok => by
    unfold orderF
    have hfull := h.full (by omega)
    have hno : nextO P x (out.filter (P x)) = none := by
      rw [nextO_none]
      intro m hm
      cases hc : candO P x (out.filter (P x)) m with
      | false => rfl
      | true =>
        rw [candO_iff] at hc
        have hnm := hP.trans _ _ _ hnx hc.1
        have hmo : m ∉ out := fun hmo => hc.2.1 (List.mem_filter.2 ⟨hmo, hc.1⟩)
        exact absurd hfull (h.more hP hn _ m (Nat.le_refl _) hnm hmo)
    cases k' with
    | zero => rfl
    | succ k' => simp [hno]
  | k + 1, out, h, hk, k', hk', hok => by
    -- candidates here and there
    have hsame : ∀ m, P x m = true → candO P x (out.filter (P x)) m = candO P n out m := by
      intro m hxm
      rw [Bool.eq_iff_iff, candO_iff, candO_iff]
      have hm32 := hP.lt x m hx hxm
      constructor
      · rintro ⟨_, h2, h3⟩
        refine ⟨hP.trans _ _ _ hnx hxm, fun hmo => h2 (List.mem_filter.2 ⟨hmo, hxm⟩), fun d hd hmd => ?_⟩
        rcases h3 d hd hmd with h4 | h4
        · exact .inl h4
        · exact .inr (List.mem_filter.1 h4).1
      · rintro ⟨_, h2, h3⟩
        refine ⟨hxm, fun hmo => h2 (List.mem_filter.1 hmo).1, fun d hd hmd => ?_⟩
        rcases h3 d hd hmd with h4 | h4
        · exact .inl h4
        · exact .inr (List.mem_filter.2 ⟨h4, hP.trans _ _ _ hxm hmd⟩)
    rw [orderF]
    cases hc : nextO P n out with
    | none =>
      have hno : nextO P x (out.filter (P x)) = none := by
        rw [nextO_none] at hc ⊢
        intro m hm
        cases hxm : P x m with
        | false => simp [candO, hxm]
        | true => rw [hsame m hxm]; exact hc m hm
      cases k' with
      | zero => rfl
      | succ k' => simp [orderF, hno]
    | some c =>
      obtain ⟨hc32, hcand, hleast⟩ := nextO_some hc
      have hstep := h.step hP hn hc
      have hlen := List.length_pos_of_mem (ringO_self hP hc32)
      show (orderF P n k (out ++ ringO P c)).filter (P x) = _
      cases hxc : P x c with
      | true =>
        have hnx' : nextO P x (out.filter (P x)) = some c := by
          refine nextO_of hc32 (by rw [hsame c hxc]; exact hcand) fun m hm => ?_
          cases hxm : P x m with
          | false => simp [candO, hxm]
          | true => rw [hsame m hxm]; exact hleast m hm
        have hring : (ringO P c).filter (P x) = ringO P c := by
          refine List.filter_eq_self.2 fun m hm => ?_
          exact hP.trans _ _ _ hxc (mem_ringO.1 hm).2.1
        have hok2 := hok.step hP hx hnx'
        cases k' with
        | zero => rw [hok.full (by omega)] at hnx'; cases hnx'
        | succ k' =>
          have ih := orderF_part hP hn hx hnx k (out ++ ringO P c) hstep (by rw [List.length_append]; omega) k' (by rw [List.filter_append, hring, List.length_append]; omega) (by rw [List.filter_append, hring]; exact hok2)
          rw [ih, List.filter_append, hring, orderF, hnx']
      | false =>
        have hring : (ringO P c).filter (P x) = [] := by
          refine List.filter_eq_nil_iff.2 fun m hm => ?_
          intro hxm
          rw [hP.trans _ _ _ hxm (mem_ringO.1 hm).2.2] at hxc
          cases hxc
        have ih := orderF_part hP hn hx hnx k (out ++ ringO P c) hstep (by rw [List.length_append]; omega) k' (by rw [List.filter_append, hring, List.append_nil]; exact hk') (by rw [List.filter_append, hring, List.append_nil]; exact hok)
        rw [ih, List.filter_append, hring, List.append_nil]
theorem orderS_part (hP : Pre P) (hn : n < 32) {x : Nat} (hx : x < 32) (hnx : P n x = true) : (orderS P n).filter (P x) = orderS P x :=
  orderF_part hP hn hx hnx 32 [] OKO.nil (by simp) 32 (by simp) OKO.nil

/-- An order hangs only on what is reached. -/
theorem orderF_congr {P' : Nat → Nat → Bool} (hP : Pre P) (hn : n < 32) (h1 : ∀ d, P' n d = P n d) (h2 : ∀ m, P n m = true → ∀ d, P' m d = P m d) : ∀ (k : Nat) (out : List Nat), orderF P' n k out = orderF P n k out
  | 0, _ => rfl
  | k + 1, out => by
    have hc : candO P' n out = candO P n out := by
      funext m
      unfold candO
      rw [h1]
      cases hm : P n m with
      | false => rfl
      | true =>
        congr 2
        refine List.all_congr rfl fun d => ?_
        rw [h2 m hm]
        cases hmd : P m d with
        | false => rfl
        | true => rw [h2 d (hP.trans _ _ _ hm hmd)]
    unfold orderF nextO
    rw [hc]
    cases hf : (List.range 32).find? (candO P n out) with
    | none => rfl
    | some c =>
      have hcn : P n c = true := (candO_iff.1 (List.find?_some hf)).1
      have hr : ringO P' c = ringO P c := by
        unfold ringO
        refine List.filter_congr fun m _ => ?_
        rw [h2 c hcn]
        cases hcm : P c m with
        | false => rfl
        | true => rw [h2 m (hP.trans _ _ _ hcn hcm)]
      show orderF P' n k (out ++ ringO P' c) = _
      rw [hr]
      exact orderF_congr hP hn h1 h2 k _
end
end Go.Proofs.Ytnfdgjdnlikepab
