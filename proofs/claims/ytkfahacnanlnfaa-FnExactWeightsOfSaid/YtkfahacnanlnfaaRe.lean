/- Walks: the reference's root. -/
import Derived.Test.YtkfahacnanlnfaaRd
import Derived.Laws.Cover2
namespace Go.Proofs.Ytkfahacnanlnfaa
open Go.RowKit Ieee

/-- The magnitude of m * 2^e, over the place -204. -/
def mg (m : Nat) (e : Int) : Nat := m * 2 ^ (e + 204).toNat
theorem mg_four {m : Nat} {e : Int} (h : -204 ≤ e) : mg m (e + 2) = mg m e * 4 := by
  unfold mg
  have : (e + 2 + 204).toNat = (e + 204).toNat + 2 := by omega
  rw [this, Nat.pow_add, ← Nat.mul_assoc]
theorem mg_ge {m : Nat} {e : Int} {a : Nat} (he : -204 ≤ e) (hm : m < 16777216) (h : 2 ^ (a + 24) ≤ mg m e) : (a : Int) ≤ e + 204 := by
  unfold mg at h
  rcases Nat.lt_or_ge (e + 204).toNat a with h1 | h1
  · exfalso
    have h2 : m * 2 ^ (e + 204).toNat ≤ 16777215 * 2 ^ a := Nat.mul_le_mul (by omega) (Nat.pow_le_pow_right (by decide) (by omega))
    have h3 : 16777215 * 2 ^ a < 16777216 * 2 ^ a := Nat.mul_lt_mul_of_pos_right (by decide) (Nat.two_pow_pos _)
    have h4 : 2 ^ (a + 24) = 16777216 * 2 ^ a := by rw [Nat.pow_add, Nat.mul_comm]
    omega
  · omega
theorem mg_lt {m : Nat} {e : Int} {a : Nat} (hm : m ≠ 0) (h : mg m e < 2 ^ a) (he : -204 ≤ e) : e + 204 < a := by
  unfold mg at h
  rcases Nat.lt_or_ge (e + 204).toNat a with h1 | h1
  · omega
  · exfalso
    have h2 : 1 * 2 ^ a ≤ m * 2 ^ (e + 204).toNat := Nat.mul_le_mul (by omega) (Nat.pow_le_pow_right (by decide) h1)
    omega
theorem four_up {m : Nat} {e : Int} (h : ex m e) (h2 : e + 2 ≤ 900) (t : TypeId) (w : World) : (binOp .mul t (.float .f64 (dbl m e)) (.float .f64 4616189618054758400)).run Try.prog w = .ok (.float .f64 (dbl m (e + 2))) w :=
  run_float_arith w .mul t .f64 _ _ _ (by rw [bits_mul, ← dbl_four, dbl_mul h (ex_one (by decide) (by decide)) (by have := h.2.1; omega) (by have := h.2.2.1; omega) h2, Nat.mul_one])
theorem four_down {m : Nat} {e : Int} (h : ex m e) (h2 : -900 ≤ e - 2) (t : TypeId) (w : World) : (binOp .quo t (.float .f64 (dbl m e)) (.float .f64 4616189618054758400)).run Try.prog w = .ok (.float .f64 (dbl m (e - 2))) w :=
  run_float_arith w .quo t .f64 _ _ _ (by rw [bits_quo, ← dbl_four, dbl_half h (ex_one (by decide) (by decide)) h2 (by have := h.2.2.2; omega)])
theorem ord_mg {m : Nat} {e f : Int} (h : ex m e) (h1 : -149 ≤ e) (hf : 0 ≤ f) (hf' : f ≤ 60) : FloatKind.f64.format.order (dbl m e) (dbl 1 f) = some (compare ((mg m e : Nat) : Int) ((2 ^ (f + 204).toNat : Nat) : Int)) := by
  show double.order _ _ = _
  rw [dbl_order h (ex_one (by omega) (by omega)) (-204) (by omega) (by omega), Nat.one_mul]
  unfold mg
  have e1 : (e - -204).toNat = (e + 204).toNat := by omega
  have e2 : (f - -204).toNat = (f + 204).toNat := by omega
  rw [e1, e2]
theorem dbl_int {n : Nat} (h0 : n ≠ 0) (h : n < 1125899906842624) : floatToIntVal .f64 (dbl n 0) .i64 = some (n : Int) := by
  obtain ⟨k, hk, _, hr, b1, b2⟩ := dbl_read (m := n) (e := 0) ⟨h0, by omega, by decide, by decide⟩
  have hd : FloatKind.decode .f64 (dbl n 0) = .number false (n * 2 ^ k) (0 - k) := hr
  have hc : Toward.zero.cut false (n * 2 ^ k) k = n := by
    unfold Toward.cut
    have hl : k ≤ (n * 2 ^ k).log2 + 2 := by
      have : (n * 2 ^ k).log2 = 52 := by
        rw [Nat.log2_eq_iff (by omega)]
        exact ⟨b1, b2⟩
      omega
    simp only [Nat.min_eq_left hl, Nat.one_shiftLeft, Nat.mul_div_cancel _ (Nat.two_pow_pos k)]
    rfl
  unfold floatToIntVal
  rw [hd]
  have e1 : ((0 : Int) - k).toNat = 0 := by omega
  have e2 : (-((0 : Int) - k)).toNat = k := by omega
  have ht : (Datum.number false (n * 2 ^ k) (0 - k)).toInt .zero = some (n : Int) := by
    unfold Datum.toInt Datum.integral
    simp only [e1, e2, Nat.shiftLeft_zero, hc]
    unfold signed
    simp
  rw [ht]
  have hmin : IntKind.min .i64 ≤ (n : Int) ∧ (n : Int) ≤ IntKind.max .i64 := by
    have e3 : IntKind.min .i64 = -9223372036854775808 := by decide +kernel
    have e4 : IntKind.max .i64 = 9223372036854775807 := by decide +kernel
    rw [e3, e4]
    omega
  simp only [hmin, and_self, if_true]
theorem int_dbl {n : Nat} : floatOfInt .f64 (n : Int) = dbl n 0 := by
  unfold floatOfInt FloatKind.nearest FloatKind.encode dbl
  have : decide ((n : Int) < 0) = false := decide_eq_false (by omega)
  rw [this]
  rfl
/-- What the first loops of the root come to. -/
def Framed (m : Nat) (e k : Int) (n : Nat) : Prop := ∃ t : Nat, (t : Int) = e + 2 * k ∧ n = m * 2 ^ t ∧ 281474976710656 ≤ n ∧ n < 1125899906842624
theorem framed {m : Nat} {e k : Int} (he : -204 ≤ e + 2 * k) (hm : m < 16777216) (h1 : 2 ^ 252 ≤ mg m (e + 2 * k)) (h2 : mg m (e + 2 * k) < 2 ^ 254) : ∃ n, Framed m e k n ∧ dbl m (e + 2 * k) = dbl n 0 := by
  have ha := mg_ge (a := 228) he hm h1
  obtain ⟨t, ht⟩ : ∃ t : Nat, (t : Int) = e + 2 * k := ⟨(e + 2 * k).toNat, by omega⟩
  have he : mg m (e + 2 * k) = m * 2 ^ t * 2 ^ 204 := by
    unfold mg
    rw [← ht, Nat.mul_assoc, ← Nat.pow_add]
    congr 2
  rw [he] at h1 h2
  have g1 : 281474976710656 ≤ m * 2 ^ t := by
    rcases Nat.lt_or_ge (m * 2 ^ t) 281474976710656 with h | h
    · exfalso
      have h3 := Nat.mul_lt_mul_of_pos_right h (show 0 < 2 ^ 204 from Nat.two_pow_pos _)
      have h4 : 281474976710656 * 2 ^ 204 = 2 ^ 252 := by decide +kernel
      rw [h4] at h3
      exact absurd (Nat.lt_of_le_of_lt h1 h3) (Nat.lt_irrefl _)
    · exact h
  have g2 : m * 2 ^ t < 1125899906842624 := by
    rcases Nat.lt_or_ge (m * 2 ^ t) 1125899906842624 with h | h
    · exact h
    · exfalso
      have h3 := Nat.mul_le_mul_right (2 ^ 204) h
      have h4 : 1125899906842624 * 2 ^ 204 = 2 ^ 254 := by decide +kernel
      rw [h4] at h3
      exact absurd (Nat.lt_of_le_of_lt h3 h2) (Nat.lt_irrefl _)
  have m0 : m ≠ 0 := by rintro rfl; simp at g1
  have t49 : t ≤ 60 := by
    rcases Nat.lt_or_ge 60 t with h | h
    · exfalso
      have h1 : 1 * 2 ^ 60 ≤ m * 2 ^ t := Nat.mul_le_mul (by omega) (Nat.pow_le_pow_right (by decide) (by omega))
      omega
    · exact h
  refine ⟨_, ⟨t, ht, rfl, g1, g2⟩, ?_⟩
  rw [← ht, ← dbl_scale (m := m) (e := (t : Int)) t ⟨m0, by omega, by omega, by omega⟩, Int.sub_self]
  rfl
end Go.Proofs.Ytkfahacnanlnfaa
