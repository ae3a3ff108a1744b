/- Walks: the reference reads a sequence. -/
import Derived.Test.YtdijnjigamkhjaaGreatDoorL
namespace Go.Proofs.YtdijnjigamkhjaaGreatDoor
open Go.RowKit

/-- Block P is a pulse. -/
def Pb (w : World) (P : Nat) (a h : Int) (b : Bool) : Prop := w.heap[P]? = some (.cells #[.int .i64 a, .int .i64 h, .bool b] 43 (0, 0))
section
variable {w w' : World} {P : Nat} {a h : Int} {b : Bool}
theorem Pb.lt (x : Pb w P a h b) : P < w.heap.size := (Array.getElem?_eq_some_iff.1 x).1
theorem Pb.cells (x : Pb w P a h b) : w.cell? ⟨P, 0, none⟩ = some (.int .i64 a) ∧ w.cell? ⟨P, 1, none⟩ = some (.int .i64 h) ∧ w.cell? ⟨P, 2, none⟩ = some (.bool b) := by
  unfold Pb at x
  simp [World.cell?, x]
theorem Pb.frozen (x : Pb w P a h b) (i : Nat) : w.frozen? ⟨P, i, none⟩ = false := by
  unfold Pb at x
  simp [World.frozen?, x]
theorem Pb.keep (x : Pb w P a h b) (hb : w'.heap[P]? = w.heap[P]?) : Pb w' P a h b := hb.trans x
theorem Pb.alloc (x : Pb w P a h b) (o : Obj) : Pb (w.alloc o) P a h b := x.keep (Below.heap_alloc _ _ _ x.lt)
theorem Pb.below (x : Pb w P a h b) (hb : Below w.heap.size w w') : Pb w' P a h b := x.keep (hb.block P x.lt)
theorem Pb.set0 (x : Pb w P a h b) (v : Int) : Pb (w.setCell ⟨P, 0, none⟩ (.int .i64 v)) P v h b := by
  unfold Pb at x ⊢; simp [World.setCell, Array.getElem?_modify, x]
theorem Pb.set1 (x : Pb w P a h b) (v : Int) : Pb (w.setCell ⟨P, 1, none⟩ (.int .i64 v)) P a v b := by
  unfold Pb at x ⊢; simp [World.setCell, Array.getElem?_modify, x]
theorem Pb.set2 (x : Pb w P a h b) (v : Bool) : Pb (w.setCell ⟨P, 2, none⟩ (.bool v)) P a h v := by
  unfold Pb at x ⊢; simp [World.setCell, Array.getElem?_modify, x]
end
theorem pb_new (w : World) (a h : Int) (b : Bool) : Pb (w.alloc (.cells #[.int .i64 a, .int .i64 h, .bool b] 43)) w.heap.size a h b := heap_alloc_new w _
/-- What the reference's loop keeps: the words, the pulses so far. -/
structure Rw (w : World) (W : Nat) (ws : List (List UInt8)) (ps : List Pu) (v : Value) (wr : World) : Prop where
  cells : ∀ k x, ws[k]? = some x → wr.cell? ⟨W, k, none⟩ = some (.string ⟨x.toArray⟩)
  hW : W < wr.heap.size
  own : Own wr w.heap.size v ps
  ne : v.ownBlock ≠ some W
  bel : Below w.heap.size w wr
section
variable {w wx w2 : World} {W : Nat} {ws : List (List UInt8)} {ps : List Pu} {v : Value}
theorem Rw.alloc (h : Rw w W ws ps v wx) (o : Obj) : Rw w W ws ps v (wx.alloc o) :=
  ⟨fun k x hk => ((Below.refl wx.heap.size wx).alloc (Nat.le_refl _) o).cell (p := ⟨W, k, none⟩) h.hW |>.trans (h.cells k x hk), by have := h.hW; simp; omega, h.own.below ((Below.refl _ _).alloc (Nat.le_refl _) o), h.ne, h.bel.alloc h.bel.size o⟩
theorem Rw.set {P i : Nat} (h : Rw w W ws ps v wx) (hP : w.heap.size ≤ P) (hPW : P ≠ W) (hv : v.ownBlock ≠ some P) (u : Value) : Rw w W ws ps v (wx.setCell ⟨P, i, none⟩ u) := by
  refine ⟨fun k x hk => ?_, by have := h.hW; simpa [World.setCell] using this, ?_, h.ne, h.bel.setCell hP _⟩
  · rw [← h.cells k x hk]
    exact World.cell?_of_block (Below.heap_setCell _ _ _ _ (Ne.symm hPW))
  · rcases h.own with h1 | ⟨G, cap, more, rfl, hG, hr, rest⟩
    · exact .inl h1
    · exact .inr ⟨G, cap, more, rfl, hG, hr.other (fun e => hv (by rw [← show G = P from e]; rfl)) u, rest⟩
end
theorem Own.lt' {w : World} {base : Nat} {v : Value} {xs : List Pu} (h : Own w base v xs) : ∀ g, v.ownBlock = some g → base ≤ g ∧ g < w.heap.size := by
  intro g e
  rcases h with ⟨rfl, rfl⟩ | ⟨G, cap, more, rfl, hG, hr, _⟩
  · cases e
  · injection e with e
    have e' : G = g := e
    subst e'
    exact ⟨hG, hr.lt⟩
/-- Behind the look at the sign. -/
def Sg (w : World) (W : Nat) (ws : List (List UInt8)) (ps : List Pu) (v : Value) (P : Nat) (r : List UInt8) (b : Bool) (s7 : Value) (wx : World) : Prop :=
  s7 = .string ⟨r.toArray⟩ ∧ Pb wx P 0 0 b ∧ Rw w W ws ps v wx
theorem strip_len (w : List UInt8) : (strip w).2.length ≤ w.length := by
  unfold strip
  split
  · simp
  · exact Nat.le_refl _
theorem spw_short {w r : List UInt8} {b : Bool} (h : strip w = (b, r)) (hl : r.length < 2) : spw w = none := by
  unfold spw
  rw [h]
  match r, hl with
  | [], _ => rfl
  | [c], _ => simp
  | _ :: _ :: _, hl => simp at hl; omega
theorem spw_cons {w d : List UInt8} {c : UInt8} {b : Bool} (h : strip w = (b, c :: d)) : spw w = if d = [] ∨ c.toNat < 120 ∨ 122 < c.toNat then none else if 0 ≤ lnum d ∧ lnum d ≤ 24 then some ⟨(c.toNat : Int) - 120, lnum d, b⟩ else none := by
  unfold spw
  rw [h]
theorem seqOf_take {ws : List (List UInt8)} {k : Nat} {x : List UInt8} {ps : List Pu} {p : Pu} (hx : ws[k]? = some x) (h : seqOf (ws.take k) = some ps) (hp : spw x = some p) : seqOf (ws.take (k + 1)) = some (ps ++ [p]) := by
  obtain ⟨hk, hc⟩ := List.getElem?_eq_some_iff.1 hx
  rw [List.take_succ_eq_append_getElem hk, hc, seqOf_snoc, h, hp]
theorem seqOf_bad {ws : List (List UInt8)} {k : Nat} {x : List UInt8} (hx : ws[k]? = some x) (hp : spw x = none) : seqOf ws = none := by
  obtain ⟨hk, hc⟩ := List.getElem?_eq_some_iff.1 hx
  have e : ws = (ws.take k ++ [x]) ++ ws.drop (k + 1) := by
    rw [List.append_assoc]
    conv => lhs; rw [← List.take_append_drop k ws, List.drop_eq_getElem_cons hk, hc]
    rfl
  rw [e]
  apply seqOf_none
  rw [seqOf_snoc, hp]
  cases seqOf (ws.take k) <;> rfl
end Go.Proofs.YtdijnjigamkhjaaGreatDoor
