/- Walks of the functions that make, mark and hold pulses. -/
import Derived.Test.YtdijnjigamkhjaaGreatDoorB
namespace Go.Proofs.YtdijnjigamkhjaaGreatDoor
open Go.RowKit

theorem run_make_rowN {P : Program} (t e : TypeId) (i : TypeInfo) (z : Value) (ht : P.underlying t = some (.slice e)) (hi : P.info? e = some i) (hz : i.zero = some z)
    (kl kc : IntKind) (n c : Nat) (hnc : n ≤ c) (hbytes : i.bytes * c ≤ 281474976710656) (h63 : c ≤ 9223372036854775807) (w : World) :
    (Instr.makeSlice t (.int kl (n : Int)) (.int kc (c : Int))).run P w = .ok (.slice (some ⟨w.heap.size, 0, none⟩) n c) (w.alloc (.cells (madeCells z.cells (c * i.size)) e)) := by
  have hb : (i.bytes : Int) * (c : Int) ≤ 281474976710656 := by
    have h : ((i.bytes * c : Nat) : Int) ≤ 281474976710656 := by omega
    rwa [Int.natCast_mul] at h
  have hr := run_make (P := P) w t e i z ht hi hz kl kc n c (by omega) (by omega) hb (by omega)
  simp only [Int.toNat_natCast] at hr
  exact hr

theorem info43 : (Tryz.prog.info? 43).map (fun i => (i.zero, i.size, i.bytes)) = some (some (.agg #[.int .i64 0, .int .i64 0, .bool false]), 3, 24) := by kernel_rfl

def Pu.zero : Pu := ⟨0, 0, false⟩
theorem flat_zeros (n : Nat) : madeCells #[.int .i64 0, .int .i64 0, .bool false] (n * 3) = (flat (List.replicate n Pu.zero)).toArray := by
  apply Array.ext'
  refine List.ext_getElem? fun j => ?_
  by_cases hj : j < n * 3
  · have hk : j / 3 < n := by omega
    have hr : (List.replicate n Pu.zero)[j / 3]? = some Pu.zero := by simp [hk]
    obtain ⟨h0, h1, h2⟩ := flat_get _ _ _ hr
    have hc : (madeCells #[.int .i64 0, .int .i64 0, .bool false] (n * 3)).toList[j]? = some (#[Value.int .i64 0, .int .i64 0, .bool false][j % 3]!) := by
      simp [madeCells, hj]
    rw [hc]
    rcases (by omega : j % 3 = 0 ∨ j % 3 = 1 ∨ j % 3 = 2) with h | h | h
    · have e : j = j / 3 * 3 := by omega
      rw [h]; rw [← e] at h0; exact h0.symm
    · have e : j = j / 3 * 3 + 1 := by omega
      rw [h]; rw [← e] at h1; exact h1.symm
    · have e : j = j / 3 * 3 + 2 := by omega
      rw [h]; rw [← e] at h2; exact h2.symm
  · rw [List.getElem?_eq_none (by simp [madeCells]; omega), List.getElem?_eq_none (by simp [flat_length]; omega)]

theorem make_pulses (n : Nat) (hn : n ≤ 1048576) (w : World) : (Instr.makeSlice 24 (.int .i64 (n : Int)) (.int .i64 (n : Int))).run Tryz.prog w = .ok (.slice (some ⟨w.heap.size, 0, none⟩) n n) (w.alloc (.cells (flat (List.replicate n Pu.zero)).toArray 43)) := by
  obtain ⟨i0, hi, hz0, hz1, hz2⟩ := info_parts info43
  have h := run_make_rowN (P := Tryz.prog) 24 43 i0 _ Tryz.underlying24 hi hz0 .i64 .i64 n n (Nat.le_refl _) (by rw [hz2]; omega) (by omega) w
  rw [hz1] at h
  rw [h]
  show Result.ok _ (w.alloc (.cells (madeCells #[.int .i64 0, .int .i64 0, .bool false] (n * 3)) 43)) = _
  rw [flat_zeros]

/-- The call hands back a new slice of the pulses ys. -/
def Made (ys : List Pu) (w : World) (e : Ending) (w' : World) : Prop := ∃ v, e = .returned v ∧ Own w' w.heap.size v ys ∧ Below w.heap.size w w'

theorem setk (xs : List Pu) (k : Nat) (p : Pu) (hk : k < xs.length) (hp : xs[k]? = some p) :
    (xs.take k ++ List.replicate (xs.length - k) Pu.zero).set k p = xs.take (k + 1) ++ List.replicate (xs.length - (k + 1)) Pu.zero := by
  have hp' : xs[k] = p := by rw [List.getElem?_eq_getElem hk] at hp; simpa using hp
  have e : xs.length - k = (xs.length - (k + 1)) + 1 := by omega
  rw [List.set_append_right _ _ (by simp; omega), e, List.take_succ_eq_append_getElem hk, hp']
  have e2 : k - (xs.take k).length = 0 := by simp; omega
  rw [e2, List.replicate_succ, List.append_assoc]
  rfl
theorem getk (xs : List Pu) (k : Nat) (hk : k < xs.length) : (xs.take k ++ List.replicate (xs.length - k) Pu.zero)[k]? = some Pu.zero := by
  rw [List.getElem?_append_right (by simp; omega)]
  have e2 : k - (xs.take k).length = 0 := by simp; omega
  have e : xs.length - k = (xs.length - (k + 1)) + 1 := by omega
  rw [e2, e]
  rfl
/-- What marking leaves in a place, and in n places from k0 on. -/
def mkP (t : Int) : Pu := ⟨t, t + 1, (t + 1 + 1) % 3 == 0⟩
def markL (k0 : Int) (n : Nat) : List Pu := (List.range n).map fun (j : Nat) => mkP (k0 + 3 * (j : Int))
theorem markL_length (k0 : Int) (n : Nat) : (markL k0 n).length = n := by simp [markL]
theorem markL_succ (k0 : Int) (n : Nat) : markL k0 (n + 1) = markL k0 n ++ [mkP (k0 + 3 * (n : Int))] := by simp [markL, List.range_succ]
theorem markL_get (k0 : Int) (n k : Nat) (h : k < n) : (markL k0 n)[k]? = some (mkP (k0 + 3 * (k : Int))) := by simp [markL, h]
theorem markset (k0 : Int) (xs : List Pu) (k : Nat) (hk : k < xs.length) :
    (markL k0 k ++ xs.drop k).set k (mkP (k0 + 3 * (k : Int))) = markL k0 (k + 1) ++ xs.drop (k + 1) := by
  rw [List.set_append_right _ _ (by simp [markL_length]), markL_length, Nat.sub_self, List.drop_eq_getElem_cons hk, markL_succ, List.append_assoc]
  rfl
theorem markget (k0 : Int) (xs : List Pu) (k : Nat) (hk : k < xs.length) : (markL k0 k ++ xs.drop k)[k]? = some xs[k] := by
  rw [List.getElem?_append_right (by simp [markL_length]), markL_length, Nat.sub_self, List.drop_eq_getElem_cons hk]
  rfl
theorem grownBy_setCell {a w : World} {g : Nat} (h : a.grownBy w (some g)) (i : Nat) (u : Value) : a.grownBy (w.setCell ⟨g, i, none⟩ u) (some g) :=
  ⟨h.os, h.tape, h.output, by simpa [World.setCell] using h.size, fun k hk hne => (Below.heap_setCell w ⟨g, i, none⟩ u k (by
    rintro rfl
    exact hne rfl)).trans (h.block k hk hne)⟩

end Go.Proofs.YtdijnjigamkhjaaGreatDoor
