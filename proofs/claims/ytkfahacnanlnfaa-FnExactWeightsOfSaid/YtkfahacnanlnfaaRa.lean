/- Plain laws of the floats: exact words of double precision, whole roots. No program in sight. -/
import Derived.Test.YtkfahacnanlnfaaQ
namespace Go.Proofs.Ytkfahacnanlnfaa
open Ieee

/-- The word of the positive number m * 2^e in double precision. -/
def dbl (m : Nat) (e : Int) : Nat := double.nearest false m e
/-- m * 2^e is a number of double precision, far from both ends. -/
def ex (m : Nat) (e : Int) : Prop := m ≠ 0 ∧ m < 9007199254740992 ∧ -900 ≤ e ∧ e ≤ 900

theorem log2_lt53 {m : Nat} (h0 : m ≠ 0) (h : m < 9007199254740992) : m.log2 ≤ 52 := by
  have := (Nat.log2_lt h0 (k := 53)).2 h
  omega
theorem dbl_read {m : Nat} {e : Int} (h : ex m e) : ∃ k : Nat, m.log2 + k = 52 ∧ dbl m e = (e - k + 1074).toNat * 4503599627370496 + m * 2 ^ k ∧
    double.read (dbl m e) = .number false (m * 2 ^ k) (e - k) ∧ 4503599627370496 ≤ m * 2 ^ k ∧ m * 2 ^ k < 9007199254740992 := by
  obtain ⟨h0, h1, h2, h3⟩ := h
  have hl := log2_lt53 h0 h1
  obtain ⟨k, hk⟩ : ∃ k, m.log2 + k = 52 := ⟨52 - m.log2, by omega⟩
  obtain ⟨hw, hr, b1, b2⟩ := nearest_exact double false m e k h0 hk (by rw [d_least]; omega) (by rw [d_least, d_bin, d_inf]; omega)
  rw [d_bin] at b1 b2
  refine ⟨k, hk, ?_, hr, b1, by omega⟩
  unfold dbl
  rw [hw, d_bin, d_least]
  unfold Format.word
  simp only [Bool.false_eq_true, if_false]
  congr 2

theorem cut_two (n d : Nat) (h : d ≤ n.log2 + 2) : Toward.even.cut false n d = n / 2 ^ d + (decide (2 ^ d < 2 * (n % 2 ^ d)) || (2 ^ d == 2 * (n % 2 ^ d) && n / 2 ^ d % 2 == 1)).toNat := by
  unfold Toward.cut
  simp only [Nat.min_eq_left h, Nat.one_shiftLeft]
theorem cut_exact (m j d : Nat) (hm : m ≠ 0) (h : d ≤ j) : Toward.even.cut false (m * 2 ^ j) d = m * 2 ^ (j - d) := by
  have hl : (m * 2 ^ j).log2 = m.log2 + j := by
    rw [Nat.log2_eq_iff (Nat.mul_ne_zero hm (Nat.pos_iff_ne_zero.1 (Nat.two_pow_pos _)))]
    obtain ⟨a, b⟩ := log2_bounds hm
    rw [Nat.add_right_comm, Nat.pow_add, Nat.pow_add]
    exact ⟨Nat.mul_le_mul_right _ a, Nat.mul_lt_mul_of_pos_right b (Nat.two_pow_pos _)⟩
  have e : m * 2 ^ j = m * 2 ^ (j - d) * 2 ^ d := by rw [Nat.mul_assoc, ← Nat.pow_add, Nat.sub_add_cancel h]
  rw [cut_two _ _ (by omega), e, Nat.mul_div_cancel _ (Nat.two_pow_pos _), Nat.mul_mod_left]
  have hp : 0 < 2 ^ d := Nat.two_pow_pos _
  simp
/-- A number in another spelling has the same word. -/
theorem dbl_scale {m : Nat} {e : Int} (j : Nat) (h : ex m e) : double.nearest false (m * 2 ^ j) (e - j) = dbl m e := by
  obtain ⟨k, hk, hw, _⟩ := dbl_read h
  obtain ⟨h0, h1, h2, h3⟩ := h
  rw [hw]
  have hl : (m * 2 ^ j).log2 = m.log2 + j := by
    rw [Nat.log2_eq_iff (Nat.mul_ne_zero h0 (Nat.pos_iff_ne_zero.1 (Nat.two_pow_pos _)))]
    obtain ⟨a, b⟩ := log2_bounds h0
    rw [Nat.add_right_comm, Nat.pow_add, Nat.pow_add]
    exact ⟨Nat.mul_le_mul_right _ a, Nat.mul_lt_mul_of_pos_right b (Nat.two_pow_pos _)⟩
  have hne : m * 2 ^ j ≠ 0 := Nat.mul_ne_zero h0 (Nat.pos_iff_ne_zero.1 (Nat.two_pow_pos _))
  have fb : double.fractionBits = 52 := rfl
  have hmax : max (e - (j : Int) + (((m * 2 ^ j).log2 : Nat) : Int) - (double.fractionBits : Int)) double.leastPlace = e - k := by rw [hl, fb, d_least]; omega
  unfold Format.nearest
  rw [if_neg hne]
  dsimp only
  rw [hmax, d_least, d_bin, d_inf]
  have hb : m * 2 ^ k < 9007199254740992 := by
    obtain ⟨_, l2⟩ := log2_bounds h0
    have e1 : 2 ^ (m.log2 + 1) * 2 ^ k = 9007199254740992 := by rw [← Nat.pow_add, show m.log2 + 1 + k = 53 by omega]
    calc m * 2 ^ k < 2 ^ (m.log2 + 1) * 2 ^ k := Nat.mul_lt_mul_of_pos_right l2 (Nat.two_pow_pos _)
      _ = _ := e1
  have hcut : Toward.even.cut false ((m * 2 ^ j) <<< (e - (j : Int) - (e - (k : Int))).toNat) ((e - (k : Int)) - (e - (j : Int))).toNat = m * 2 ^ k := by
    by_cases hjk : j ≤ k
    · have e1 : (e - (j : Int) - (e - (k : Int))).toNat = k - j := by omega
      have e2 : ((e - (k : Int)) - (e - (j : Int))).toNat = 0 := by omega
      rw [e1, e2, cut_zero, Nat.shiftLeft_eq, Nat.mul_assoc, ← Nat.pow_add, show j + (k - j) = k by omega]
    · have e1 : (e - (j : Int) - (e - (k : Int))).toNat = 0 := by omega
      have e2 : ((e - (k : Int)) - (e - (j : Int))).toNat = j - k := by omega
      rw [e1, e2, Nat.shiftLeft_zero, cut_exact m j (j - k) h0 (by omega), show j - (j - k) = k by omega]
  rw [hcut]
  unfold Format.word
  simp only [Bool.false_eq_true, if_false]
  have e3 : (e - (k : Int) - -1074).toNat = (e - k + 1074).toNat := by omega
  rw [e3, Nat.min_eq_left]
  have : (e - (k : Int) + 1074).toNat ≤ 1974 := by omega
  calc (e - (k : Int) + 1074).toNat * 4503599627370496 + m * 2 ^ k ≤ 1974 * 4503599627370496 + 9007199254740992 := Nat.add_le_add (Nat.mul_le_mul_right _ this) (Nat.le_of_lt hb)
    _ ≤ _ := by decide
theorem dbl_one : dbl 1 0 = 4607182418800017408 := by decide +kernel
theorem dbl_two : dbl 1 1 = 4611686018427387904 := by decide +kernel
theorem dbl_four : dbl 1 2 = 4616189618054758400 := by decide +kernel

theorem dbl_mul {m n : Nat} {e f : Int} (h : ex m e) (h' : ex n f) (hp : m * n < 9007199254740992) (h1 : -900 ≤ e + f) (h2 : e + f ≤ 900) : double.mul (dbl m e) (dbl n f) = some (dbl (m * n) (e + f)) := by
  obtain ⟨k, hk, _, hr, _⟩ := dbl_read h
  obtain ⟨l, hl, _, hr', _⟩ := dbl_read h'
  unfold Format.mul
  rw [hr, hr']
  show some (double.nearest false (m * 2 ^ k * (n * 2 ^ l)) (e - k + (f - l))) = _
  have hex : ex (m * n) (e + f) := ⟨Nat.mul_ne_zero h.1 h'.1, hp, h1, h2⟩
  rw [← dbl_scale (k + l) hex]
  congr 2
  · rw [Nat.pow_add]; simp only [Nat.mul_assoc, Nat.mul_left_comm, Nat.mul_comm]
  · omega
theorem dbl_half {m : Nat} {e j : Int} (h : ex m e) (hj : ex 1 j) (h1 : -900 ≤ e - j) (h2 : e - j ≤ 900) : double.div (dbl m e) (dbl 1 j) = some (dbl m (e - j)) := by
  obtain ⟨k, hk, _, hr, b1, b2⟩ := dbl_read h
  obtain ⟨l, hl, hz1, hr', hz2⟩ := dbl_read hj
  have l52 : l = 52 := by
    have e : Nat.log2 1 = 0 := by decide +kernel
    omega
  subst l52
  have hex : ex m (e - j) := ⟨h.1, h.2.1, h1, h2⟩
  have hsc := dbl_scale (k + 3) hex
  rw [Nat.pow_add, ← Nat.mul_assoc] at hsc
  obtain ⟨M, hM⟩ : ∃ M, m * 2 ^ k = M := ⟨_, rfl⟩
  rw [hM] at hr b1 b2 hsc
  clear hM
  unfold Format.div
  rw [hr, hr', ← hsc]
  have lg : M.log2 = 52 := by
    rw [Nat.log2_eq_iff (by omega)]
    exact ⟨b1, b2⟩
  have lg2 : (1 * 2 ^ 52 : Nat).log2 = 52 := by decide +kernel
  have fb : double.fractionBits = 52 := rfl
  simp only [Datum.quotient, fb, lg, lg2]
  have e0 : 1 * 2 ^ 52 = 4503599627370496 := by decide
  have e1 : M <<< (52 + 2 + 52 - 52) = M * 4 * 4503599627370496 := by
    rw [Nat.shiftLeft_eq, Nat.mul_assoc]
  have q1 : M <<< (52 + 2 + 52 - 52) / (1 * 2 ^ 52) = M * 4 := by rw [e0, e1, Nat.mul_div_cancel _ (by decide)]
  have q2 : M <<< (52 + 2 + 52 - 52) % (1 * 2 ^ 52) = 0 := by rw [e0, e1, Nat.mul_mod_left]
  have q3 : ((0 : Nat) != 0).toNat = 0 := rfl
  have q4 : (false ^^ false) = false := rfl
  rw [if_neg (show ¬ (1 * 2 ^ 52 : Nat) = 0 by decide), q1, q2, q3, q4]
  clear q1 q2 q3 q4 e1 e0 lg2 hr' hz1 hz2
  rw [Option.map_some]
  have f1 : 2 * (M * 4) + 0 = M * 2 ^ 3 := by omega
  have f2 : e - (k : Int) - (j - ((52 : Nat) : Int)) - ((52 + 2 + 52 - 52 : Nat) : Int) - 1 = e - j - ((k + 3 : Nat) : Int) := by omega
  rw [f1, f2]
  rfl
theorem cmp_scale {a b c : Nat} (h : 0 < c) : compare (((a * c : Nat)) : Int) ((b * c : Nat) : Int) = compare (a : Int) (b : Int) := by
  rcases Nat.lt_trichotomy a b with h1 | h1 | h1
  · rw [cmp_lt (by exact_mod_cast Nat.mul_lt_mul_of_pos_right h1 h), cmp_lt (by omega)]
  · subst h1
    simp
  · rw [cmp_gt (by exact_mod_cast Nat.mul_lt_mul_of_pos_right h1 h), cmp_gt (by omega)]
/-- How two such numbers stand to each other, over a place below both. -/
theorem dbl_order {m n : Nat} {e f : Int} (h : ex m e) (h' : ex n f) (b : Int) (he : b ≤ e - 52) (hf : b ≤ f - 52) :
    double.order (dbl m e) (dbl n f) = some (compare ((m * 2 ^ (e - b).toNat : Nat) : Int) ((n * 2 ^ (f - b).toNat : Nat) : Int)) := by
  obtain ⟨k, hk, _, hr, b1, b2⟩ := dbl_read h
  obtain ⟨l, hl, _, hr', c1, c2⟩ := dbl_read h'
  unfold Format.order
  rw [hr, hr']
  simp only [Datum.order, signed, Bool.false_eq_true, if_false]
  obtain ⟨t, ht⟩ : ∃ t : Nat, (t : Int) = min (e - k) (f - l) - b := ⟨(min (e - k) (f - l) - b).toNat, by omega⟩
  rw [← cmp_scale (c := 2 ^ t) (Nat.two_pow_pos _), Nat.shiftLeft_eq, Nat.shiftLeft_eq]
  congr 3
  · rw [Nat.mul_assoc, Nat.mul_assoc, ← Nat.pow_add, ← Nat.pow_add, show k + ((e - ↑k - min (e - ↑k) (f - ↑l)).toNat + t) = (e - b).toNat by omega]
  · rw [Nat.mul_assoc, Nat.mul_assoc, ← Nat.pow_add, ← Nat.pow_add, show l + ((f - ↑l - min (e - ↑k) (f - ↑l)).toNat + t) = (f - b).toNat by omega]
end Go.Proofs.Ytkfahacnanlnfaa
