/- Words on texts and rows of bytes. Nothing of the program is named here. -/
import Derived.Test.YtopgdemmdcipcaaBase
import Derived.Laws.BytesArg
import Derived.Lib.Strings
namespace Go.Proofs.Ytopgdemmdcipcaa
open Go.RowKit

theorem RRow.lit (w : World) (cs : List Value) (t : TypeId) (size bytes n : Nat) (hl : cs.length = n * size) (hb : n * bytes ≤ 140737488351232) :
    RRow (fun b => w.heap.size ≤ b) (w.alloc (.cells cs.toArray t)) (.slice (some ⟨w.heap.size, 0, none⟩) n n) size bytes n cs := by
  refine ⟨_, _, rfl, Nat.le_refl _, fun h => by simp at h, hl, hb, fun i x hx => ⟨w.heap.size, 0, rfl, Nat.le_refl _, ?_⟩⟩
  rw [World.cell?_alloc_at _ _ _ _ rfl]
  simpa using hx

def RBytes (S : Nat → Prop) (w : World) (v : Value) (xs : List Int) : Prop := RRow S w v 1 1 xs.length (xs.map (Value.int .u8))

theorem run_bytes_string {P : Program} {w : World} {v : Value} {S : Nat → Prop} {xs : List Int} (hr : RBytes S w v xs) {src dst e : TypeId} (hs : P.underlying src = some (.slice e)) (he : P.underlying e = some (.int .u8)) (hd : P.underlying dst = some .string) :
    (convert src dst v).run P w = .ok (.string (strOfNums xs)) w := by
  obtain ⟨a, cap, rfl, h1, h2, h3, h4, h5⟩ := hr
  cases a with
  | none =>
    have hc := h2 rfl
    have : xs = [] := List.eq_nil_of_length_eq_zero (by omega)
    subst this
    rw [run_convert_bytes_nil w src e hs he _ _ dst hd]
    rfl
  | some a =>
    cases xs with
    | nil =>
      rw [run_convert_bytes_string w src dst e _ _ _ hs he hd]
      have hl : (loadCells a ([] : List Int).length).run P w = .ok (([] : List Int).map (Value.int .u8)).toArray w := by
        simpa using run_loadCells_list (P := P) w a [] (fun j v hj => by simp at hj)
      rw [run_bytesToString w _ _ _ [] hl]
      rfl
    | cons x t =>
      obtain ⟨b, off, ha, _, _⟩ := h5 0 (.int .u8 x) (by simp)
      cases ha
      refine run_convert_bytes_arg w src e hs he b off _ _ (x :: t) rfl (fun i hi => ?_) dst hd
      obtain ⟨b', off', ha', _, hc⟩ := h5 i (.int .u8 ((x :: t).getD i 0)) (by rw [List.getElem?_map, List.getD_eq_getElem?_getD, List.getElem?_eq_getElem hi]; rfl)
      cases ha'
      exact hc

theorem wpList_bytes_string {P : Program} {w : World} {ops : Array Oper} {rest : List Oper} {o : Oper} {a : Act} {Q : Exit → Act → World → Prop} (hgd : Region.wanted o (yielded ops a.tmps) = true) (src dst e : TypeId) (x : Operand)
    (ho : o.op = .convert src dst x) (hs : P.underlying src = some (.slice e)) (he : P.underlying e = some (.int .u8)) (hd : P.underlying dst = some .string)
    (v : Value) (hx : a.eval x = v) (S : Nat → Prop) (xs : List Int) (hr : RBytes S w v xs)
    (h : wpList P ops Q rest (a.put o.dst (.string (strOfNums xs))) w) : wpList P ops Q (o :: rest) a w := by
  refine wpList_step fun K hK => ?_
  rw [if_pos hgd]
  have hrun := run_bytes_string hr hs he hd
  unfold Oper.wp
  simp only [execOp, ho, hx]
  simp [hrun]
  exact hK _ _ h

theorem str_ext {a b : ByteArray} (h : a.data.toList = b.data.toList) : a = b := by
  cases a; cases b
  simp only at h
  congr 1
  exact Array.toList_inj.1 h

end Go.Proofs.Ytopgdemmdcipcaa
