/- Rows of pulses in memory. -/
import Derived.Test.YtdijnjigamkhjaaGreatDoorA
import Derived.Laws.AppendOwn
import Derived.Deep.AppendLies
import Derived.Maps.AppendAt
import Derived.Laws.MakeOwn
import Derived.Deep.Draws
namespace Go.Proofs.YtdijnjigamkhjaaGreatDoor
open Go.RowKit

def flat : List Pu → List Value
  | [] => []
  | p :: r => .int .i64 p.a :: .int .i64 p.h :: .bool p.b :: flat r

theorem flat_length (xs : List Pu) : (flat xs).length = xs.length * 3 := by
  induction xs with
  | nil => rfl
  | cons p r ih => simp only [flat, List.length_cons, ih]; omega
theorem flat_append (xs ys : List Pu) : flat (xs ++ ys) = flat xs ++ flat ys := by
  induction xs with
  | nil => rfl
  | cons p r ih => simp only [List.cons_append, flat, ih]
theorem flat_get (xs : List Pu) : ∀ (k : Nat) (p : Pu), xs[k]? = some p → (flat xs)[k * 3]? = some (.int .i64 p.a) ∧ (flat xs)[k * 3 + 1]? = some (.int .i64 p.h) ∧ (flat xs)[k * 3 + 2]? = some (.bool p.b) := by
  induction xs with
  | nil => intro k p h; simp at h
  | cons q r ih =>
    intro k p h
    cases k with
    | zero => simp at h; subst h; exact ⟨rfl, rfl, rfl⟩
    | succ k =>
      have := ih k p (by simpa using h)
      have e : (k + 1) * 3 = k * 3 + 3 := by omega
      rw [e]
      exact this
theorem flat_set (xs : List Pu) : ∀ (k : Nat) (p : Pu), k < xs.length → (((flat xs).set (k * 3) (.int .i64 p.a)).set (k * 3 + 1) (.int .i64 p.h)).set (k * 3 + 2) (.bool p.b) = flat (xs.set k p) := by
  induction xs with
  | nil => intro k p h; simp at h
  | cons q r ih =>
    intro k p h
    cases k with
    | zero => rfl
    | succ k =>
      have e : (k + 1) * 3 = k * 3 + 3 := by omega
      rw [e]
      show _ = _ :: _ :: _ :: flat (r.set k p)
      rw [← ih k p (by simpa using h)]
      rfl
theorem flat_set_a (xs : List Pu) (k : Nat) (p : Pu) (i : Int) (h : xs[k]? = some p) : (flat xs).set (k * 3) (.int .i64 i) = flat (xs.set k ⟨i, p.h, p.b⟩) := by
  obtain ⟨_, h1, h2⟩ := flat_get xs k p h
  have hk : k < xs.length := by
    rcases Nat.lt_or_ge k xs.length with h | hn
    · exact h
    · rw [List.getElem?_eq_none hn] at h; cases h
  rw [← flat_set xs k _ hk]
  refine List.ext_getElem? fun j => ?_
  simp only [List.getElem?_set]
  have hl : (flat xs).length = xs.length * 3 := flat_length xs
  by_cases e0 : k * 3 = j
  · subst e0; simp
  by_cases e1 : k * 3 + 1 = j
  · subst e1; simp [h1, hl]; omega
  by_cases e2 : k * 3 + 2 = j
  · subst e2; simp [h2, hl]; omega
  simp [e0, e1, e2]
theorem flat_set_h (xs : List Pu) (k : Nat) (p : Pu) (i : Int) (h : xs[k]? = some p) : (flat xs).set (k * 3 + 1) (.int .i64 i) = flat (xs.set k ⟨p.a, i, p.b⟩) := by
  obtain ⟨h0, _, h2⟩ := flat_get xs k p h
  have hk : k < xs.length := by
    rcases Nat.lt_or_ge k xs.length with h | hn
    · exact h
    · rw [List.getElem?_eq_none hn] at h; cases h
  rw [← flat_set xs k _ hk]
  refine List.ext_getElem? fun j => ?_
  simp only [List.getElem?_set]
  have hl : (flat xs).length = xs.length * 3 := flat_length xs
  by_cases e0 : k * 3 = j
  · subst e0; simp [h0, hl]; omega
  by_cases e1 : k * 3 + 1 = j
  · subst e1; simp
  by_cases e2 : k * 3 + 2 = j
  · subst e2; simp [h2, hl]; omega
  simp [e0, e1, e2]
theorem flat_set_b (xs : List Pu) (k : Nat) (p : Pu) (i : Bool) (h : xs[k]? = some p) : (flat xs).set (k * 3 + 2) (.bool i) = flat (xs.set k ⟨p.a, p.h, i⟩) := by
  obtain ⟨h0, h1, _⟩ := flat_get xs k p h
  have hk : k < xs.length := by
    rcases Nat.lt_or_ge k xs.length with h | hn
    · exact h
    · rw [List.getElem?_eq_none hn] at h; cases h
  rw [← flat_set xs k _ hk]
  refine List.ext_getElem? fun j => ?_
  simp only [List.getElem?_set]
  have hl : (flat xs).length = xs.length * 3 := flat_length xs
  by_cases e0 : k * 3 = j
  · subst e0; simp [h0, hl]; omega
  by_cases e1 : k * 3 + 1 = j
  · subst e1; simp [h1, hl]; omega
  by_cases e2 : k * 3 + 2 = j
  · subst e2; simp
  simp [e0, e1, e2]

/-- Block G is a row of pulses xs, and behind them some more cells. -/
def Row (w : World) (G : Nat) (xs : List Pu) (more : List Value) : Prop := w.heap[G]? = some (.cells (flat xs ++ more).toArray 43 (0, 0))

section
variable {w w' : World} {G : Nat} {xs : List Pu} {more : List Value}
theorem Row.lt (h : Row w G xs more) : G < w.heap.size := (Array.getElem?_eq_some_iff.1 h).1
theorem Row.cell_ (h : Row w G xs more) (i : Nat) (v : Value) (hi : (flat xs)[i]? = some v) : w.cell? ⟨G, i, none⟩ = some v := by
  unfold Row at h
  have hl : i < (flat xs).length := by
    rcases Nat.lt_or_ge i (flat xs).length with h | hn
    · exact h
    · rw [List.getElem?_eq_none hn] at hi; cases hi
  simp [World.cell?, h, List.getElem?_append_left hl, hi]
theorem Row.cells (h : Row w G xs more) {k : Nat} {p : Pu} (hk : xs[k]? = some p) : w.cell? ⟨G, k * 3, none⟩ = some (.int .i64 p.a) ∧ w.cell? ⟨G, k * 3 + 1, none⟩ = some (.int .i64 p.h) ∧ w.cell? ⟨G, k * 3 + 2, none⟩ = some (.bool p.b) :=
  have ⟨h0, h1, h2⟩ := flat_get xs k p hk
  ⟨h.cell_ _ _ h0, h.cell_ _ _ h1, h.cell_ _ _ h2⟩
theorem Row.frozen (h : Row w G xs more) (i : Nat) : w.frozen? ⟨G, i, none⟩ = false := by
  unfold Row at h
  simp [World.frozen?, h]
theorem Row.keep (h : Row w G xs more) (hb : w'.heap[G]? = w.heap[G]?) : Row w' G xs more := hb.trans h
theorem Row.below {B : Nat} (h : Row w G xs more) (hb : Below B w w') (hG : G < B) : Row w' G xs more := h.keep (hb.block G hG)
theorem Row.alloc (h : Row w G xs more) (o : Obj) : Row (w.alloc o) G xs more := h.keep (Below.heap_alloc w o G h.lt)
theorem Row.drew (h : Row w G xs more) : Row w.drew G xs more := h
theorem Row.other (h : Row w G xs more) {a : Addr} (ha : G ≠ a.block) (v : Value) : Row (w.setCell a v) G xs more := h.keep (Below.heap_setCell w a v G ha)
theorem Row.set_ (h : Row w G xs more) {i : Nat} {v : Value} {ys : List Pu} (hi : i < (flat xs).length) (hs : (flat xs).set i v = flat ys) : Row (w.setCell ⟨G, i, none⟩ v) G ys more := by
  unfold Row at h ⊢
  simp [World.setCell, Array.getElem?_modify, h, List.set_append_left _ _ hi, hs]
theorem Row.k_lt {k : Nat} {p : Pu} (hk : xs[k]? = some p) : k < xs.length := by
  rcases Nat.lt_or_ge k xs.length with h | hn
  · exact h
  · rw [List.getElem?_eq_none hn] at hk; cases hk
theorem Row.set_a (h : Row w G xs more) {k : Nat} {p : Pu} (hk : xs[k]? = some p) (i : Int) : Row (w.setCell ⟨G, k * 3, none⟩ (.int .i64 i)) G (xs.set k ⟨i, p.h, p.b⟩) more :=
  h.set_ (by rw [flat_length]; have := Row.k_lt hk; omega) (flat_set_a xs k p i hk)
theorem Row.set_h (h : Row w G xs more) {k : Nat} {p : Pu} (hk : xs[k]? = some p) (i : Int) : Row (w.setCell ⟨G, k * 3 + 1, none⟩ (.int .i64 i)) G (xs.set k ⟨p.a, i, p.b⟩) more :=
  h.set_ (by rw [flat_length]; have := Row.k_lt hk; omega) (flat_set_h xs k p i hk)
theorem Row.set_b (h : Row w G xs more) {k : Nat} {p : Pu} (hk : xs[k]? = some p) (i : Bool) : Row (w.setCell ⟨G, k * 3 + 2, none⟩ (.bool i)) G (xs.set k ⟨p.a, p.h, i⟩) more :=
  h.set_ (by rw [flat_length]; have := Row.k_lt hk; omega) (flat_set_b xs k p i hk)
theorem Row.put (h : Row w G xs more) {k : Nat} {p : Pu} (hk : k < xs.length) :
    Row (((w.setCell ⟨G, k * 3, none⟩ (.int .i64 p.a)).setCell ⟨G, k * 3 + 1, none⟩ (.int .i64 p.h)).setCell ⟨G, k * 3 + 2, none⟩ (.bool p.b)) G (xs.set k p) more := by
  have hq : xs[k]? = some (xs[k]) := List.getElem?_eq_getElem hk
  have h1 := h.set_a hq p.a
  have h2 := h1.set_h (k := k) (p := ⟨p.a, xs[k].h, xs[k].b⟩) (by simp [hk]) p.h
  have h3 := h2.set_b (k := k) (p := ⟨p.a, p.h, xs[k].b⟩) (by simp [hk]) p.b
  simpa using h3
end

/-- v is a slice of the pulses xs, its block is one of those from base on. -/
def Own (w : World) (base : Nat) (v : Value) (xs : List Pu) : Prop :=
  (v = .slice none 0 0 ∧ xs = []) ∨ ∃ G cap more, v = .slice (some ⟨G, 0, none⟩) xs.length cap ∧ base ≤ G ∧ Row w G xs more ∧ xs.length ≤ cap ∧ cap ≤ maxLen ∧ more.length = (cap - xs.length) * 3

section
variable {w w' : World} {base B : Nat} {v : Value} {xs : List Pu}
theorem Own.below (h : Own w base v xs) (hb : Below w.heap.size w w') : Own w' base v xs := by
  rcases h with h | ⟨G, cap, more, e, hG, hr, h1, h2, h3⟩
  · exact .inl h
  · exact .inr ⟨G, cap, more, e, hG, hr.below hb hr.lt, h1, h2, h3⟩
theorem Own.mono (h : Own w base v xs) (hB : B ≤ base) : Own w B v xs := by
  rcases h with h | ⟨G, cap, more, e, hG, hr⟩
  · exact .inl h
  · exact .inr ⟨G, cap, more, e, Nat.le_trans hB hG, hr⟩
theorem Own.rd (h : Own w base v xs) : ∃ A c, v = .slice A xs.length c ∧ Rd w A xs := by
  rcases h with ⟨rfl, rfl⟩ | ⟨G, cap, more, rfl, hG, hr, h1, h2, h3⟩
  · exact ⟨none, 0, rfl, fun k p h => by simp at h⟩
  · exact ⟨_, cap, rfl, fun k p hk => ⟨G, 0, rfl, hr.lt, by simpa using hr.cells hk⟩⟩
theorem flat_oneCell (xs : List Pu) : ∀ u ∈ flat xs, u.oneCell' = true := by
  induction xs with
  | nil => intro u h; cases h
  | cons p r ih =>
    intro u h
    simp only [flat, List.mem_cons] at h
    rcases h with rfl | rfl | rfl | h
    · rfl
    · rfl
    · rfl
    · exact ih u h
theorem Own.of_row (h : w.ownsRow base 43 3 v xs.length (flat xs)) : Own w base v xs := by
  obtain ⟨hl, h | ⟨g, cap, cur, e, hb, hh, hn, hm, hs, ht⟩⟩ := h
  · exact .inl ⟨h.1, List.eq_nil_of_length_eq_zero h.2⟩
  · refine .inr ⟨g, cap, cur.toList.drop (xs.length * 3), e, hb, ?_, hn, hm, by simp [hs]; omega⟩
    unfold Row
    rw [hh, ← ht, List.take_append_drop]
theorem Own.row (h : Own w base v xs) : w.ownsRow base 43 3 v xs.length (flat xs) := by
  rcases h with ⟨rfl, rfl⟩ | ⟨G, cap, more, rfl, hG, hr, h1, h2, h3⟩
  · exact ⟨rfl, .inl ⟨rfl, rfl⟩⟩
  · refine ⟨flat_length xs, .inr ⟨G, cap, _, rfl, hG, hr, h1, h2, ?_, ?_⟩⟩
    · simp [flat_length, h3]; omega
    · simp [← flat_length]
theorem Own.grown {row : Option Nat} (h : Own w base v xs) (hg : w.grownBy w' row) (hr : ∀ g, row = some g → v.ownBlock ≠ some g) : Own w' base v xs := by
  rcases h with h | ⟨G, cap, more, rfl, hG, hw, rest⟩
  · exact .inl h
  · exact .inr ⟨G, cap, more, rfl, hG, hw.keep (hg.block G hw.lt (fun e => hr G e.symm rfl)), rest⟩
end
end Go.Proofs.YtdijnjigamkhjaaGreatDoor
