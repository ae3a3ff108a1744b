/- Rows of ints in memory; the functions that compare, mark and hold them. -/
import Derived.Test.YtdijnjigamkhjaaGreatDoorE
namespace Go.Proofs.YtdijnjigamkhjaaGreatDoor
open Go.RowKit

/-- Block G is a row of the ints xs. -/
def IRow (w : World) (G : Nat) (xs : List Int) : Prop := w.heap[G]? = some (.cells (xs.map (Value.int .i64)).toArray 2 (0, 0))
section
variable {w w' : World} {G : Nat} {xs : List Int}
theorem IRow.lt (h : IRow w G xs) : G < w.heap.size := (Array.getElem?_eq_some_iff.1 h).1
theorem IRow.cell (h : IRow w G xs) {k : Nat} {x : Int} (hk : xs[k]? = some x) : w.cell? ⟨G, k, none⟩ = some (.int .i64 x) := by
  unfold IRow at h
  simp [World.cell?, h, hk]
theorem IRow.frozen (h : IRow w G xs) (i : Nat) : w.frozen? ⟨G, i, none⟩ = false := by
  unfold IRow at h
  simp [World.frozen?, h]
theorem IRow.keep (h : IRow w G xs) (hb : w'.heap[G]? = w.heap[G]?) : IRow w' G xs := hb.trans h
theorem IRow.below {B : Nat} (h : IRow w G xs) (hb : Below B w w') (hG : G < B) : IRow w' G xs := h.keep (hb.block G hG)
theorem IRow.set (h : IRow w G xs) {k : Nat} (_ : k < xs.length) (x : Int) : IRow (w.setCell ⟨G, k, none⟩ (.int .i64 x)) G (xs.set k x) := by
  unfold IRow at h ⊢
  simp [World.setCell, Array.getElem?_modify, h, List.map_set]
end

/-- v is a slice of the ints xs, its block is one of those from base on. -/
def IOwn (w : World) (base : Nat) (v : Value) (xs : List Int) : Prop :=
  (v = .slice none 0 0 ∧ xs = []) ∨ ∃ G, v = .slice (some ⟨G, 0, none⟩) xs.length xs.length ∧ base ≤ G ∧ IRow w G xs
def IRd (w : World) (A : Option Addr) (xs : List Int) : Prop :=
  ∀ k x, xs[k]? = some x → ∃ b, A = some ⟨b, 0, none⟩ ∧ b < w.heap.size ∧ w.cell? ⟨b, k, none⟩ = some (.int .i64 x)
section
variable {w w' : World} {base B : Nat} {v : Value} {xs : List Int}
theorem IOwn.below (h : IOwn w base v xs) (hb : Below w.heap.size w w') : IOwn w' base v xs := by
  rcases h with h | ⟨G, e, hG, hr⟩
  · exact .inl h
  · exact .inr ⟨G, e, hG, hr.below hb hr.lt⟩
theorem IOwn.rd (h : IOwn w base v xs) : ∃ A, v = .slice A xs.length xs.length ∧ IRd w A xs := by
  rcases h with ⟨rfl, rfl⟩ | ⟨G, rfl, hG, hr⟩
  · exact ⟨none, rfl, fun k p h => by simp at h⟩
  · exact ⟨_, rfl, fun k p hk => ⟨G, rfl, hr.lt, by simpa using hr.cell hk⟩⟩
theorem IOwn.grown {row : Option Nat} (h : IOwn w base v xs) (hg : w.grownBy w' row) (hr : ∀ g, row = some g → v.ownBlock ≠ some g) : IOwn w' base v xs := by
  rcases h with h | ⟨G, rfl, hG, hw⟩
  · exact .inl h
  · exact .inr ⟨G, rfl, hG, hw.keep (hg.block G hw.lt (fun e => hr G e.symm rfl))⟩
theorem IOwn.base_ {g : Nat} (h : IOwn w base v xs) (e : v.ownBlock = some g) : base ≤ g ∧ g < w.heap.size := by
  rcases h with ⟨rfl, rfl⟩ | ⟨G, rfl, hG, hw⟩
  · cases e
  · obtain rfl : G = g := by injection e
    exact ⟨hG, hw.lt⟩
theorem IRd.below {A : Option Addr} (h : IRd w A xs) (hb : Below w.heap.size w w') : IRd w' A xs := by
  intro k p hk
  obtain ⟨b, e, hlt, h0⟩ := h k p hk
  exact ⟨b, e, Nat.lt_of_lt_of_le hlt hb.size, (hb.cell (p := ⟨b, _, none⟩) hlt).trans h0⟩
end

def markI (k0 : Int) (n : Nat) : List Int := (List.range n).map fun (j : Nat) => k0 + (j : Int)
theorem markI_length (k0 : Int) (n : Nat) : (markI k0 n).length = n := by simp [markI]
theorem markI_succ (k0 : Int) (n : Nat) : markI k0 (n + 1) = markI k0 n ++ [k0 + (n : Int)] := by simp [markI, List.range_succ]
theorem markI_get (k0 : Int) (n k : Nat) (h : k < n) : (markI k0 n)[k]? = some (k0 + (k : Int)) := by simp [markI, h]
theorem markIset (k0 : Int) (xs : List Int) (k : Nat) (hk : k < xs.length) :
    (markI k0 k ++ xs.drop k).set k (k0 + (k : Int)) = markI k0 (k + 1) ++ xs.drop (k + 1) := by
  rw [List.set_append_right _ _ (by simp [markI_length]), markI_length, Nat.sub_self, List.drop_eq_getElem_cons hk, markI_succ, List.append_assoc]
  rfl
theorem markIget (k0 : Int) (xs : List Int) (k : Nat) (hk : k < xs.length) : (markI k0 k ++ xs.drop k)[k]? = some xs[k] := by
  rw [List.getElem?_append_right (by simp [markI_length]), markI_length, Nat.sub_self, List.drop_eq_getElem_cons hk]
  rfl

end Go.Proofs.YtdijnjigamkhjaaGreatDoor
