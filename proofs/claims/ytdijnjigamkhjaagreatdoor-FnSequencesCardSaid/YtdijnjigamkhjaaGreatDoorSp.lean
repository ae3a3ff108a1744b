/- Shortening, in plain Lean; a row of pulses written in the middle. -/
import Derived.Test.YtdijnjigamkhjaaGreatDoorE
import Derived.Laws.CopyRow
import Derived.Laws.Cells
namespace Go.Proofs.YtdijnjigamkhjaaGreatDoor
open Go.RowKit

def red (a b : Pu) : Option (List Pu) :=
  if a.a ≠ b.a ∨ a.h ≠ b.h then none else if a.b ≠ b.b then some [] else if a.h = 0 then none else some [⟨a.a, a.h - 1, a.b⟩]
theorem red_length {a b : Pu} {v : List Pu} (h : red a b = some v) : v.length ≤ 1 := by
  unfold red at h
  split at h
  · cases h
  · split at h
    · cases h; simp
    · split at h
      · cases h
      · cases h; simp

def next : List Pu → Option (List Pu)
  | [] => none
  | [_] => none
  | a :: b :: r => match red a b with
    | some v => some (v ++ r)
    | none => (next (b :: r)).map (a :: ·)

theorem next_at : ∀ (i : Nat) (ys : List Pu) (a b : Pu) (v : List Pu), ys[i]? = some a → ys[i + 1]? = some b → red a b = some v →
    (∀ j p q, j < i → ys[j]? = some p → ys[j + 1]? = some q → red p q = none) → next ys = some (ys.take i ++ v ++ ys.drop (i + 2)) := by
  intro i
  induction i with
  | zero =>
    intro ys a b v ha hb hv _
    match ys, ha, hb with
    | a' :: b' :: r, ha, hb =>
      simp at ha hb
      subst ha hb
      simp [next, hv]
  | succ i ih =>
    intro ys a b v ha hb hv hall
    match ys, ha, hb with
    | [c], ha, hb => simp at hb
    | c :: d :: r, ha, hb =>
      have h0 := hall 0 c d (by omega) rfl rfl
      have := ih (d :: r) a b v (by simpa using ha) (by simpa using hb) hv (fun j p q hj hp hq => hall (j + 1) p q (by omega) (by simpa using hp) (by simpa using hq))
      simp only [next, h0, this, Option.map_some]
      simp
theorem next_none : ∀ (ys : List Pu), (∀ j p q, ys[j]? = some p → ys[j + 1]? = some q → red p q = none) → next ys = none
  | [], _ => rfl
  | [_], _ => rfl
  | a :: b :: r, h => by
    have h0 := h 0 a b rfl rfl
    have := next_none (b :: r) (fun j p q hp hq => h (j + 1) p q (by simpa using hp) (by simpa using hq))
    simp only [next, h0, this, Option.map_none]
theorem next_length : ∀ (ys zs : List Pu), next ys = some zs → zs.length < ys.length
  | [], _, h => by cases h
  | [_], _, h => by cases h
  | a :: b :: r, zs, h => by
    simp only [next] at h
    split at h
    · rename_i v hv
      have := red_length hv
      cases h
      simp; omega
    · cases hn : next (b :: r) with
      | none => rw [hn] at h; cases h
      | some z =>
        rw [hn] at h
        cases h
        have := next_length (b :: r) z hn
        simp at this ⊢; omega

def shortN : Nat → List Pu → List Pu
  | 0, ys => ys
  | f + 1, ys => match next ys with
    | some zs => shortN f zs
    | none => ys
theorem shortN_more : ∀ (f g : Nat) (ys : List Pu), ys.length ≤ f → ys.length ≤ g → shortN f ys = shortN g ys
  | 0, 0, _, _, _ => rfl
  | 0, g + 1, ys, h, _ => by
    obtain rfl : ys = [] := List.eq_nil_of_length_eq_zero (by omega)
    rfl
  | f + 1, 0, ys, _, h => by
    obtain rfl : ys = [] := List.eq_nil_of_length_eq_zero (by omega)
    rfl
  | f + 1, g + 1, ys, hf, hg => by
    simp only [shortN]
    split
    · rename_i zs hz
      have := next_length ys zs hz
      exact shortN_more f g zs (by omega) (by omega)
    · rfl
def fin_ (ys : List Pu) : List Pu := shortN ys.length ys
theorem fin_step {ys zs : List Pu} (h : next ys = some zs) : fin_ ys = fin_ zs := by
  have hl := next_length ys zs h
  unfold fin_
  rw [shortN_more ys.length (ys.length + 1) ys (Nat.le_refl _) (by omega)]
  simp only [shortN, h]
  exact shortN_more _ _ zs (by omega) (Nat.le_refl _)
theorem fin_none {ys : List Pu} (h : next ys = none) : fin_ ys = ys := by
  unfold fin_
  rw [shortN_more ys.length (ys.length + 1) ys (Nat.le_refl _) (by omega)]
  simp only [shortN, h]
theorem shortN_length : ∀ (f : Nat) (ys : List Pu), (shortN f ys).length ≤ ys.length
  | 0, _ => Nat.le_refl _
  | f + 1, ys => by
    simp only [shortN]
    split
    · rename_i zs hz
      have := next_length ys zs hz
      have := shortN_length f zs
      omega
    · exact Nat.le_refl _

/-- ys laid over L from place d on. -/
def over (L : List Pu) (d : Nat) (ys : List Pu) : List Pu := L.take d ++ ys ++ L.drop (d + ys.length)
theorem over_length (L : List Pu) (d : Nat) (ys : List Pu) (h : d + ys.length ≤ L.length) : (over L d ys).length = L.length := by simp [over]; omega
theorem flat_take (L : List Pu) (d : Nat) : (flat L).take (d * 3) = flat (L.take d) := by
  by_cases h : d ≤ L.length
  · have e : flat L = flat (L.take d) ++ flat (L.drop d) := by rw [← flat_append, List.take_append_drop]
    rw [e, List.take_append_of_le_length (by rw [flat_length, List.length_take]; omega), List.take_of_length_le (by rw [flat_length, List.length_take]; omega)]
  · rw [List.take_of_length_le (by rw [flat_length]; omega), List.take_of_length_le (by omega)]
theorem flat_drop (L : List Pu) (d : Nat) : (flat L).drop (d * 3) = flat (L.drop d) := by
  by_cases h : d ≤ L.length
  · have e : flat L = flat (L.take d) ++ flat (L.drop d) := by rw [← flat_append, List.take_append_drop]
    have hl : (flat (L.take d)).length = d * 3 := by rw [flat_length, List.length_take]; omega
    rw [e, ← hl, List.drop_left]
  · rw [List.drop_eq_nil_of_le (by rw [flat_length]; omega), List.drop_eq_nil_of_le (by omega)]; rfl

theorem row_size {w : World} {G : Nat} {xs : List Pu} {more : List Value} (cs : Array Value) (h : cs = (flat xs ++ more).toArray) (hw : w.heap[G]? = some (.cells cs 43 (0, 0))) : Row w G xs more := by unfold Row; rw [hw, h]

theorem run_store_p (w : World) (G d : Nat) (L ys : List Pu) (more : List Value) (hr : Row w G L more) (hd : d + ys.length ≤ L.length) :
    ∃ w', (storeCells ⟨G, d * 3, none⟩ (flat ys) 0).run Tryz.prog w = .ok () w' ∧ Row w' G (over L d ys) more ∧ w.grownBy w' (some G) := by
  have hl : (flat ys).length = ys.length * 3 := flat_length ys
  have hL : (flat L).length = L.length * 3 := flat_length L
  have hs := run_storeCells_at Tryz.prog G (d * 3) 43 (flat ys) 0 (flat L ++ more).toArray w hr (by simp [flat_length]; omega) (flat_oneCell ys)
  refine ⟨_, hs, ?_, ?_⟩
  · have hh : (w.setRow G (((flat L ++ more).toArray.toList.take (d * 3 + 0) ++ flat ys ++ (flat L ++ more).toArray.toList.drop (d * 3 + 0 + (flat ys).length)).toArray)).heap[G]? = _ := setRow_heap w G _ _ 43 _ hr
    refine row_size _ ?_ hh
    congr 1
    have e1 : d * 3 + 0 + (flat ys).length = (d + ys.length) * 3 := by omega
    rw [e1]
    simp only [Nat.add_zero]
    rw [List.take_append_of_le_length (by omega), List.drop_append_of_le_length (by omega), flat_take, flat_drop]
    unfold over
    simp only [flat_append, List.append_assoc]
  · have hz : G < w.heap.size := hr.lt
    exact ⟨rfl, rfl, rfl, by simp [World.setRow], fun k hk hne => by
      simp only [World.setRow, Array.getElem?_modify]
      rw [if_neg (by rintro rfl; exact hne rfl)]⟩
end Go.Proofs.YtdijnjigamkhjaaGreatDoor
