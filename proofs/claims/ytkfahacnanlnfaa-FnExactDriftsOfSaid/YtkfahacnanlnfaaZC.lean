/- Rows of pulses in memory. -/
/- Walks of the functions that make, mark and hold pulses. -/
import Derived.Test.YtkfahacnanlnfaaZA
import Derived.Laws.AppendOwn
import Derived.Deep.AppendLies
import Derived.Maps.AppendAt
import Derived.Laws.MakeOwn
import Derived.Deep.Draws
namespace Go.Proofs.Ytkfahacnanlnfaa.Pl
open Go.RowKit

def flat : List Pu → List Value
  | [] => []
  | p :: r => .int .i64 p.a :: .int .i64 p.h :: .bool p.b :: flat r

theorem flat_length (xs : List Pu) : (flat xs).length = xs.length * 3 := by
  induction xs with
  | nil => rfl
  | cons p r ih => simp only [flat, List.length_cons, ih]; omega
theorem flat_append (xs ys : List Pu) : flat (xs ++ ys) = flat xs ++ flat ys := by
  induction xs with
  | nil => rfl
  | cons p r ih => simp only [List.cons_append, flat, ih]
theorem flat_get (xs : List Pu) : ∀ (k : Nat) (p : Pu), xs[k]? = some p → (flat xs)[k * 3]? = some (.int .i64 p.a) ∧ (flat xs)[k * 3 + 1]? = some (.int .i64 p.h) ∧ (flat xs)[k * 3 + 2]? = some (.bool p.b) := by
  induction xs with
  | nil => intro k p h; simp at h
  | cons q r ih =>
    intro k p h
    cases k with
    | zero => simp at h; subst h; exact ⟨rfl, rfl, rfl⟩
    | succ k =>
      have := ih k p (by simpa using h)
      have e : (k + 1) * 3 = k * 3 + 3 := by omega
      rw [e]
      exact this
theorem flat_set (xs : List Pu) : ∀ (k : Nat) (p : Pu), k < xs.length → (((flat xs).set (k * 3) (.int .i64 p.a)).set (k * 3 + 1) (.int .i64 p.h)).set (k * 3 + 2) (.bool p.b) = flat (xs.set k p) := by
  induction xs with
  | nil => intro k p h; simp at h
  | cons q r ih =>
    intro k p h
    cases k with
    | zero => rfl
    | succ k =>
      have e : (k + 1) * 3 = k * 3 + 3 := by omega
      rw [e]
      show _ = _ :: _ :: _ :: flat (r.set k p)
      rw [← ih k p (by simpa using h)]
      rfl
theorem flat_set_a (xs : List Pu) (k : Nat) (p : Pu) (i : Int) (h : xs[k]? = some p) : (flat xs).set (k * 3) (.int .i64 i) = flat (xs.set k ⟨i, p.h, p.b⟩) := by
  obtain ⟨_, h1, h2⟩ := flat_get xs k p h
  have hk : k < xs.length := by
    rcases Nat.lt_or_ge k xs.length with h | hn
    · exact h
    · rw [List.getElem?_eq_none hn] at h; cases h
  rw [← flat_set xs k _ hk]
  refine List.ext_getElem? fun j => ?_
  simp only [List.getElem?_set]
  have hl : (flat xs).length = xs.length * 3 := flat_length xs
  by_cases e0 : k * 3 = j
  · subst e0; simp
  by_cases e1 : k * 3 + 1 = j
  · subst e1; simp [h1, hl]; omega
  by_cases e2 : k * 3 + 2 = j
  · subst e2; simp [h2, hl]; omega
  simp [e0, e1, e2]
theorem flat_set_h (xs : List Pu) (k : Nat) (p : Pu) (i : Int) (h : xs[k]? = some p) : (flat xs).set (k * 3 + 1) (.int .i64 i) = flat (xs.set k ⟨p.a, i, p.b⟩) := by
  obtain ⟨h0, _, h2⟩ := flat_get xs k p h
  have hk : k < xs.length := by
    rcases Nat.lt_or_ge k xs.length with h | hn
    · exact h
    · rw [List.getElem?_eq_none hn] at h; cases h
  rw [← flat_set xs k _ hk]
  refine List.ext_getElem? fun j => ?_
  simp only [List.getElem?_set]
  have hl : (flat xs).length = xs.length * 3 := flat_length xs
  by_cases e0 : k * 3 = j
  · subst e0; simp [h0, hl]; omega
  by_cases e1 : k * 3 + 1 = j
  · subst e1; simp
  by_cases e2 : k * 3 + 2 = j
  · subst e2; simp [h2, hl]; omega
  simp [e0, e1, e2]
theorem flat_set_b (xs : List Pu) (k : Nat) (p : Pu) (i : Bool) (h : xs[k]? = some p) : (flat xs).set (k * 3 + 2) (.bool i) = flat (xs.set k ⟨p.a, p.h, i⟩) := by
  obtain ⟨h0, h1, _⟩ := flat_get xs k p h
  have hk : k < xs.length := by
    rcases Nat.lt_or_ge k xs.length with h | hn
    · exact h
    · rw [List.getElem?_eq_none hn] at h; cases h
  rw [← flat_set xs k _ hk]
  refine List.ext_getElem? fun j => ?_
  simp only [List.getElem?_set]
  have hl : (flat xs).length = xs.length * 3 := flat_length xs
  by_cases e0 : k * 3 = j
  · subst e0; simp [h0, hl]; omega
  by_cases e1 : k * 3 + 1 = j
  · subst e1; simp [h1, hl]; omega
  by_cases e2 : k * 3 + 2 = j
  · subst e2; simp
  simp [e0, e1, e2]

/-- Block G is a row of pulses xs, and behind them some more cells. -/
def Row (w : World) (G : Nat) (xs : List Pu) (more : List Value) : Prop := w.heap[G]? = some (.cells (flat xs ++ more).toArray 80 (0, 0))

section
variable {w w' : World} {G : Nat} {xs : List Pu} {more : List Value}
theorem Row.lt (h : Row w G xs more) : G < w.heap.size := (Array.getElem?_eq_some_iff.1 h).1
theorem Row.cell_ (h : Row w G xs more) (i : Nat) (v : Value) (hi : (flat xs)[i]? = some v) : w.cell? ⟨G, i, none⟩ = some v := by
  unfold Row at h
  have hl : i < (flat xs).length := by
    rcases Nat.lt_or_ge i (flat xs).length with h | hn
    · exact h
    · rw [List.getElem?_eq_none hn] at hi; cases hi
  simp [World.cell?, h, List.getElem?_append_left hl, hi]
theorem Row.cells (h : Row w G xs more) {k : Nat} {p : Pu} (hk : xs[k]? = some p) : w.cell? ⟨G, k * 3, none⟩ = some (.int .i64 p.a) ∧ w.cell? ⟨G, k * 3 + 1, none⟩ = some (.int .i64 p.h) ∧ w.cell? ⟨G, k * 3 + 2, none⟩ = some (.bool p.b) :=
  have ⟨h0, h1, h2⟩ := flat_get xs k p hk
  ⟨h.cell_ _ _ h0, h.cell_ _ _ h1, h.cell_ _ _ h2⟩
theorem Row.frozen (h : Row w G xs more) (i : Nat) : w.frozen? ⟨G, i, none⟩ = false := by
  unfold Row at h
  simp [World.frozen?, h]
theorem Row.keep (h : Row w G xs more) (hb : w'.heap[G]? = w.heap[G]?) : Row w' G xs more := hb.trans h
theorem Row.below {B : Nat} (h : Row w G xs more) (hb : Below B w w') (hG : G < B) : Row w' G xs more := h.keep (hb.block G hG)
theorem Row.alloc (h : Row w G xs more) (o : Obj) : Row (w.alloc o) G xs more := h.keep (Below.heap_alloc w o G h.lt)
theorem Row.drew (h : Row w G xs more) : Row w.drew G xs more := h
theorem Row.other (h : Row w G xs more) {a : Addr} (ha : G ≠ a.block) (v : Value) : Row (w.setCell a v) G xs more := h.keep (Below.heap_setCell w a v G ha)
theorem Row.set_ (h : Row w G xs more) {i : Nat} {v : Value} {ys : List Pu} (hi : i < (flat xs).length) (hs : (flat xs).set i v = flat ys) : Row (w.setCell ⟨G, i, none⟩ v) G ys more := by
  unfold Row at h ⊢
  simp [World.setCell, Array.getElem?_modify, h, List.set_append_left _ _ hi, hs]
theorem Row.k_lt {k : Nat} {p : Pu} (hk : xs[k]? = some p) : k < xs.length := by
  rcases Nat.lt_or_ge k xs.length with h | hn
  · exact h
  · rw [List.getElem?_eq_none hn] at hk; cases hk
theorem Row.set_a (h : Row w G xs more) {k : Nat} {p : Pu} (hk : xs[k]? = some p) (i : Int) : Row (w.setCell ⟨G, k * 3, none⟩ (.int .i64 i)) G (xs.set k ⟨i, p.h, p.b⟩) more :=
  h.set_ (by rw [flat_length]; have := Row.k_lt hk; omega) (flat_set_a xs k p i hk)
theorem Row.set_h (h : Row w G xs more) {k : Nat} {p : Pu} (hk : xs[k]? = some p) (i : Int) : Row (w.setCell ⟨G, k * 3 + 1, none⟩ (.int .i64 i)) G (xs.set k ⟨p.a, i, p.b⟩) more :=
  h.set_ (by rw [flat_length]; have := Row.k_lt hk; omega) (flat_set_h xs k p i hk)
theorem Row.set_b (h : Row w G xs more) {k : Nat} {p : Pu} (hk : xs[k]? = some p) (i : Bool) : Row (w.setCell ⟨G, k * 3 + 2, none⟩ (.bool i)) G (xs.set k ⟨p.a, p.h, i⟩) more :=
  h.set_ (by rw [flat_length]; have := Row.k_lt hk; omega) (flat_set_b xs k p i hk)
theorem Row.put (h : Row w G xs more) {k : Nat} {p : Pu} (hk : k < xs.length) :
    Row (((w.setCell ⟨G, k * 3, none⟩ (.int .i64 p.a)).setCell ⟨G, k * 3 + 1, none⟩ (.int .i64 p.h)).setCell ⟨G, k * 3 + 2, none⟩ (.bool p.b)) G (xs.set k p) more := by
  have hq : xs[k]? = some (xs[k]) := List.getElem?_eq_getElem hk
  have h1 := h.set_a hq p.a
  have h2 := h1.set_h (k := k) (p := ⟨p.a, xs[k].h, xs[k].b⟩) (by simp [hk]) p.h
  have h3 := h2.set_b (k := k) (p := ⟨p.a, p.h, xs[k].b⟩) (by simp [hk]) p.b
  simpa using h3
end

/-- v is a slice of the pulses xs, its block is one of those from base on. -/
def Own (w : World) (base : Nat) (v : Value) (xs : List Pu) : Prop :=
  (v = .slice none 0 0 ∧ xs = []) ∨ ∃ G cap more, v = .slice (some ⟨G, 0, none⟩) xs.length cap ∧ base ≤ G ∧ Row w G xs more ∧ xs.length ≤ cap ∧ cap ≤ maxLen ∧ more.length = (cap - xs.length) * 3

section
variable {w w' : World} {base B : Nat} {v : Value} {xs : List Pu}
theorem Own.below (h : Own w base v xs) (hb : Below w.heap.size w w') : Own w' base v xs := by
  rcases h with h | ⟨G, cap, more, e, hG, hr, h1, h2, h3⟩
  · exact .inl h
  · exact .inr ⟨G, cap, more, e, hG, hr.below hb hr.lt, h1, h2, h3⟩
theorem Own.mono (h : Own w base v xs) (hB : B ≤ base) : Own w B v xs := by
  rcases h with h | ⟨G, cap, more, e, hG, hr⟩
  · exact .inl h
  · exact .inr ⟨G, cap, more, e, Nat.le_trans hB hG, hr⟩
theorem Own.rd (h : Own w base v xs) : ∃ A c, v = .slice A xs.length c ∧ Rd w A xs := by
  rcases h with ⟨rfl, rfl⟩ | ⟨G, cap, more, rfl, hG, hr, h1, h2, h3⟩
  · exact ⟨none, 0, rfl, fun k p h => by simp at h⟩
  · exact ⟨_, cap, rfl, fun k p hk => ⟨G, 0, rfl, hr.lt, by simpa using hr.cells hk⟩⟩
theorem flat_oneCell (xs : List Pu) : ∀ u ∈ flat xs, u.oneCell' = true := by
  induction xs with
  | nil => intro u h; cases h
  | cons p r ih =>
    intro u h
    simp only [flat, List.mem_cons] at h
    rcases h with rfl | rfl | rfl | h
    · rfl
    · rfl
    · rfl
    · exact ih u h
theorem Own.of_row (h : w.ownsRow base 80 3 v xs.length (flat xs)) : Own w base v xs := by
  obtain ⟨hl, h | ⟨g, cap, cur, e, hb, hh, hn, hm, hs, ht⟩⟩ := h
  · exact .inl ⟨h.1, List.eq_nil_of_length_eq_zero h.2⟩
  · refine .inr ⟨g, cap, cur.toList.drop (xs.length * 3), e, hb, ?_, hn, hm, by simp [hs]; omega⟩
    unfold Row
    rw [hh, ← ht, List.take_append_drop]
theorem Own.row (h : Own w base v xs) : w.ownsRow base 80 3 v xs.length (flat xs) := by
  rcases h with ⟨rfl, rfl⟩ | ⟨G, cap, more, rfl, hG, hr, h1, h2, h3⟩
  · exact ⟨rfl, .inl ⟨rfl, rfl⟩⟩
  · refine ⟨flat_length xs, .inr ⟨G, cap, _, rfl, hG, hr, h1, h2, ?_, ?_⟩⟩
    · simp [flat_length, h3]; omega
    · simp [← flat_length]
theorem Own.grown {row : Option Nat} (h : Own w base v xs) (hg : w.grownBy w' row) (hr : ∀ g, row = some g → v.ownBlock ≠ some g) : Own w' base v xs := by
  rcases h with h | ⟨G, cap, more, rfl, hG, hw, rest⟩
  · exact .inl h
  · exact .inr ⟨G, cap, more, rfl, hG, hw.keep (hg.block G hw.lt (fun e => hr G e.symm rfl)), rest⟩
end
end Go.Proofs.Ytkfahacnanlnfaa.Pl
namespace Go.Proofs.Ytkfahacnanlnfaa.Pl
open Go.RowKit

theorem run_make_rowN {P : Program} (t e : TypeId) (i : TypeInfo) (z : Value) (ht : P.underlying t = some (.slice e)) (hi : P.info? e = some i) (hz : i.zero = some z)
    (kl kc : IntKind) (n c : Nat) (hnc : n ≤ c) (hbytes : i.bytes * c ≤ 281474976710656) (h63 : c ≤ 9223372036854775807) (w : World) :
    (Instr.makeSlice t (.int kl (n : Int)) (.int kc (c : Int))).run P w = .ok (.slice (some ⟨w.heap.size, 0, none⟩) n c) (w.alloc (.cells (madeCells z.cells (c * i.size)) e)) := by
  have hb : (i.bytes : Int) * (c : Int) ≤ 281474976710656 := by
    have h : ((i.bytes * c : Nat) : Int) ≤ 281474976710656 := by omega
    rwa [Int.natCast_mul] at h
  have hr := run_make (P := P) w t e i z ht hi hz kl kc n c (by omega) (by omega) hb (by omega)
  simp only [Int.toNat_natCast] at hr
  exact hr

theorem info80 : (Try.prog.info? 80).map (fun i => (i.zero, i.size, i.bytes)) = some (some (.agg #[.int .i64 0, .int .i64 0, .bool false]), 3, 24) := by kernel_rfl

def Pu.zero : Pu := ⟨0, 0, false⟩
theorem flat_zeros (n : Nat) : madeCells #[.int .i64 0, .int .i64 0, .bool false] (n * 3) = (flat (List.replicate n Pu.zero)).toArray := by
  apply Array.ext'
  refine List.ext_getElem? fun j => ?_
  by_cases hj : j < n * 3
  · have hk : j / 3 < n := by omega
    have hr : (List.replicate n Pu.zero)[j / 3]? = some Pu.zero := by simp [hk]
    obtain ⟨h0, h1, h2⟩ := flat_get _ _ _ hr
    have hc : (madeCells #[.int .i64 0, .int .i64 0, .bool false] (n * 3)).toList[j]? = some (#[Value.int .i64 0, .int .i64 0, .bool false][j % 3]!) := by
      simp [madeCells, hj]
    rw [hc]
    rcases (by omega : j % 3 = 0 ∨ j % 3 = 1 ∨ j % 3 = 2) with h | h | h
    · have e : j = j / 3 * 3 := by omega
      rw [h]; rw [← e] at h0; exact h0.symm
    · have e : j = j / 3 * 3 + 1 := by omega
      rw [h]; rw [← e] at h1; exact h1.symm
    · have e : j = j / 3 * 3 + 2 := by omega
      rw [h]; rw [← e] at h2; exact h2.symm
  · rw [List.getElem?_eq_none (by simp [madeCells]; omega), List.getElem?_eq_none (by simp [flat_length]; omega)]

theorem make_pulses (n : Nat) (hn : n ≤ 1048576) (w : World) : (Instr.makeSlice 54 (.int .i64 (n : Int)) (.int .i64 (n : Int))).run Try.prog w = .ok (.slice (some ⟨w.heap.size, 0, none⟩) n n) (w.alloc (.cells (flat (List.replicate n Pu.zero)).toArray 80)) := by
  obtain ⟨i0, hi, hz0, hz1, hz2⟩ := info_parts info80
  have h := run_make_rowN (P := Try.prog) 54 80 i0 _ Try.underlying54 hi hz0 .i64 .i64 n n (Nat.le_refl _) (by rw [hz2]; omega) (by omega) w
  rw [hz1] at h
  rw [h]
  show Result.ok _ (w.alloc (.cells (madeCells #[.int .i64 0, .int .i64 0, .bool false] (n * 3)) 80)) = _
  rw [flat_zeros]

/-- The call hands back a new slice of the pulses ys. -/
def Made (ys : List Pu) (w : World) (e : Ending) (w' : World) : Prop := ∃ v, e = .returned v ∧ Own w' w.heap.size v ys ∧ Below w.heap.size w w'

theorem setk (xs : List Pu) (k : Nat) (p : Pu) (hk : k < xs.length) (hp : xs[k]? = some p) :
    (xs.take k ++ List.replicate (xs.length - k) Pu.zero).set k p = xs.take (k + 1) ++ List.replicate (xs.length - (k + 1)) Pu.zero := by
  have hp' : xs[k] = p := by rw [List.getElem?_eq_getElem hk] at hp; simpa using hp
  have e : xs.length - k = (xs.length - (k + 1)) + 1 := by omega
  rw [List.set_append_right _ _ (by simp; omega), e, List.take_succ_eq_append_getElem hk, hp']
  have e2 : k - (xs.take k).length = 0 := by simp; omega
  rw [e2, List.replicate_succ, List.append_assoc]
  rfl
theorem getk (xs : List Pu) (k : Nat) (hk : k < xs.length) : (xs.take k ++ List.replicate (xs.length - k) Pu.zero)[k]? = some Pu.zero := by
  rw [List.getElem?_append_right (by simp; omega)]
  have e2 : k - (xs.take k).length = 0 := by simp; omega
  have e : xs.length - k = (xs.length - (k + 1)) + 1 := by omega
  rw [e2, e]
  rfl
theorem toPulse_agg (a h : Int) (b : Bool) (w : World) : Calls Try.prog 58 #[.agg #[.int .i64 a, .int .i64 h, .bool b]] w fun e w' => e = .returned (.agg #[.int .i64 a, .int .i64 h, .bool b]) ∧ Below w.heap.size w w' := toPulse_any ⟨a, h, b⟩ w

set_option maxHeartbeats 400000 in
theorem toPulseS_any (A : Option Addr) (c : Nat) (xs : List Pu) (w : World) (hn : xs.length ≤ 1048576) (hr : Rd w A xs) :
    Calls Try.prog 26 #[.slice A xs.length c] w (Made xs w) := by
  have hmk := make_pulses xs.length hn
  have HR := Lib.hid hr; clear hr
  go_enter Try.func26, Try.ntmps26
  go_wp2
  go_loopw [4] (fun i wr => ∃ k : Nat, k ≤ xs.length ∧ i = .int .i64 k ∧ Row wr w.heap.size (xs.take k ++ List.replicate (xs.length - k) Pu.zero) [] ∧ Below w.heap.size w wr) (fun i _ => xs.length - (intOf i).toNat)
  case atStart => exact ⟨0, Nat.zero_le _, rfl, by simp only [List.take_zero, List.nil_append, Nat.sub_zero]; unfold Row; rw [List.append_nil]; exact heap_alloc_new w _, (Below.refl _ _).alloc (Nat.le_refl _) _⟩
  case round =>
    obtain ⟨k, hk, rfl, hrow, hbw⟩ := hrel
    clear hmk
    by_cases hlt : k < xs.length
    · obtain ⟨p, hp⟩ : ∃ p, xs[k]? = some p := ⟨_, List.getElem?_eq_getElem hlt⟩
      obtain ⟨b, off, rfl, hbl, h0, h1, h2⟩ := (HR.out.below hbw) k p hp
      obtain ⟨pa, ph, pb⟩ := p
      have HP := Lib.hid hp; clear hp
      have HW := Lib.hid hrow; clear hrow
      have hlw : w.heap.size < wr.heap.size := HW.out.lt
      go_wp2_with fail
      refine (toPulse_agg pa ph pb _).mono ?_
      rintro e w' ⟨rfl, hb⟩
      have hrow := HW.out.below hb hlw
      obtain ⟨c0, c1, c2⟩ := hrow.cells (getk xs k hlt)
      have f0 := hrow.frozen (k * 3)
      have f1 := hrow.frozen (k * 3 + 1)
      have f2 := hrow.frozen (k * 3 + 2)
      have HRow := Lib.hid hrow; clear hrow
      go_wp2
      refine ⟨⟨k + 1, by omega, by go_num, ?_, ?_⟩, by simp [intOf]; omega⟩
      · rw [← setk xs k ⟨pa, ph, pb⟩ hlt HP.out]
        exact HRow.out.put (p := ⟨pa, ph, pb⟩) (by simp; omega)
      · exact (((hbw.trans (hb.mono (Nat.le_of_lt hlw))).setCell (Nat.le_refl _) _).setCell (Nat.le_refl _) _).setCell (Nat.le_refl _) _
    · obtain rfl : k = xs.length := by omega
      have HW := Lib.hid hrow; clear hrow
      go_wp2
      go_ret
      refine ⟨_, rfl, .inr ⟨w.heap.size, xs.length, [], rfl, Nat.le_refl _, ?_, Nat.le_refl _, by unfold maxLen; omega, by simp⟩, hbw⟩
      have := HW.out
      simpa using this

/-- What marking leaves in a place, and in n places from k0 on. -/
def mkP (t : Int) : Pu := ⟨t, t + 1, (t + 1 + 1) % 3 == 0⟩
def markL (k0 : Int) (n : Nat) : List Pu := (List.range n).map fun (j : Nat) => mkP (k0 + 3 * (j : Int))
theorem markL_length (k0 : Int) (n : Nat) : (markL k0 n).length = n := by simp [markL]
theorem markL_succ (k0 : Int) (n : Nat) : markL k0 (n + 1) = markL k0 n ++ [mkP (k0 + 3 * (n : Int))] := by simp [markL, List.range_succ]
theorem markL_get (k0 : Int) (n k : Nat) (h : k < n) : (markL k0 n)[k]? = some (mkP (k0 + 3 * (k : Int))) := by simp [markL, h]
theorem markset (k0 : Int) (xs : List Pu) (k : Nat) (hk : k < xs.length) :
    (markL k0 k ++ xs.drop k).set k (mkP (k0 + 3 * (k : Int))) = markL k0 (k + 1) ++ xs.drop (k + 1) := by
  rw [List.set_append_right _ _ (by simp [markL_length]), markL_length, Nat.sub_self, List.drop_eq_getElem_cons hk, markL_succ, List.append_assoc]
  rfl
theorem markget (k0 : Int) (xs : List Pu) (k : Nat) (hk : k < xs.length) : (markL k0 k ++ xs.drop k)[k]? = some xs[k] := by
  rw [List.getElem?_append_right (by simp [markL_length]), markL_length, Nat.sub_self, List.drop_eq_getElem_cons hk]
  rfl
theorem grownBy_setCell {a w : World} {g : Nat} (h : a.grownBy w (some g)) (i : Nat) (u : Value) : a.grownBy (w.setCell ⟨g, i, none⟩ u) (some g) :=
  ⟨h.os, h.tape, h.output, by simpa [World.setCell] using h.size, fun k hk hne => (Below.heap_setCell w ⟨g, i, none⟩ u k (by
    rintro rfl
    exact hne rfl)).trans (h.block k hk hne)⟩

set_option maxHeartbeats 400000 in
theorem markRow_any (G cap : Nat) (k0 : Int) (xs : List Pu) (more : List Value) (w : World) (hn : xs.length ≤ 1048576) (h0 : 0 ≤ k0) (h1 : k0 ≤ 10000000) (hr : Row w G xs more) :
    Calls Try.prog 32 #[.slice (some ⟨G, 0, none⟩) xs.length cap, .int .i64 k0] w fun e w' => e = .returned (.int .i64 (k0 + 3 * xs.length)) ∧ Row w' G (markL k0 xs.length) more ∧ w.grownBy w' (some G) := by
  have HR := Lib.hid hr; clear hr
  go_enter Try.func32, Try.ntmps32
  go_wp2
  go_loopw [1, 5] (fun t i wr => ∃ k : Nat, k ≤ xs.length ∧ i = .int .i64 k ∧ t = .int .i64 (k0 + 3 * k) ∧ Row wr G (markL k0 k ++ xs.drop k) more ∧ w.grownBy wr (some G)) (fun _ i _ => xs.length - (intOf i).toNat)
  case atStart => exact ⟨0, Nat.zero_le _, rfl, by simp, by simpa [markL] using HR.out, World.grownBy.refl _ _⟩
  case round =>
    obtain ⟨k, hk, rfl, rfl, hrow, hg⟩ := hrel
    by_cases hlt : k < xs.length
    · obtain ⟨c0, c1, c2⟩ := hrow.cells (markget k0 xs k hlt)
      have f0 := hrow.frozen (k * 3)
      have f1 := hrow.frozen (k * 3 + 1)
      have f2 := hrow.frozen (k * 3 + 2)
      have HRow := Lib.hid hrow; clear hrow
      go_wp2
      refine ⟨⟨k + 1, by omega, by go_num, by rw [show k0 + 3 * (k : Int) + 1 + 1 + 1 = k0 + 3 * ((k + 1 : Nat) : Int) by omega], ?_, ?_⟩, by simp [intOf]; omega⟩
      · rw [← markset k0 xs k hlt]
        exact HRow.out.put (p := mkP (k0 + 3 * (k : Int))) (by simp [markL_length]; omega)
      · exact grownBy_setCell (grownBy_setCell (grownBy_setCell hg _ _) _ _) _ _
    · obtain rfl : k = xs.length := by omega
      have HRow := Lib.hid hrow; clear hrow
      go_wp2
      go_ret
      exact ⟨rfl, by simpa using HRow.out, hg⟩

theorem mark_any (base : Nat) (v : Value) (k0 : Int) (xs : List Pu) (w : World) (hn : xs.length ≤ 1048576) (h0 : 0 ≤ k0) (h1 : k0 ≤ 10000000) (hv : Own w base v xs) :
    Calls Try.prog 32 #[v, .int .i64 k0] w fun e w' => e = .returned (.int .i64 (k0 + 3 * xs.length)) ∧ Own w' base v (markL k0 xs.length) ∧ w.grownBy w' v.ownBlock := by
  rcases hv with ⟨rfl, rfl⟩ | ⟨G, cap, more, rfl, hG, hr, h2, h3, h4⟩
  · go_enter Try.func32, Try.ntmps32
    go_wp2
    refine wp_loop_once ?_
    go_wp2
    go_ret
    exact ⟨by simp, .inl ⟨rfl, rfl⟩, World.grownBy.refl _ _⟩
  · refine (markRow_any G cap k0 xs more w hn h0 h1 hr).mono fun e w' ⟨he, hr', hg⟩ => ⟨he, .inr ⟨G, cap, more, by rw [markL_length], hG, hr', by rw [markL_length]; exact h2, h3, by rw [markL_length]; exact h4⟩, hg⟩
end Go.Proofs.Ytkfahacnanlnfaa.Pl
