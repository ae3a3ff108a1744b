/- Plain laws of the floats: what the square root of double precision, rounded to single, is. No program in sight. -/
import Derived.Test.YtkfahacnanlnfaaZRb
namespace Go.Proofs.Ytkfahacnanlnfaa
open Ieee

theorem window {m a b : Nat} (h1 : 324518553658426726783156020576256 ≤ m * 2 ^ a) (h2 : m * 2 ^ b < 1298074214633706907132624082305024) (h : a < b) (hp : a % 2 = b % 2) : False := by
  obtain ⟨d, hd⟩ : ∃ d, b = a + 2 + d := ⟨b - a - 2, by omega⟩
  have e : m * 2 ^ b = m * 2 ^ a * 4 * 2 ^ d := by rw [hd, Nat.pow_add, Nat.pow_add]; simp only [Nat.mul_assoc]
  have hp : 1 ≤ 2 ^ d := Nat.two_pow_pos d
  have h3 : m * 2 ^ a * 4 ≤ m * 2 ^ a * 4 * 2 ^ d := Nat.le_mul_of_pos_right _ hp
  rw [← e] at h3
  generalize m * 2 ^ a = X at *
  generalize m * 2 ^ b = Y at *
  have h4 : 1298074214633706907132624082305024 ≤ X * 4 := Nat.mul_le_mul_right 4 h1
  exact absurd (Nat.lt_of_le_of_lt (Nat.le_trans h4 h3) h2) (Nat.lt_irrefl _)

theorem read_d {g q : Nat} (h1 : 4503599627370496 ≤ q) (h2 : q < 9007199254740992) (hg : g ≤ 2000) : double.read (g * 4503599627370496 + q) = .number false q ((g : Int) - 1074) := by
  have hi : g * 4503599627370496 + q < 9218868437227405312 := by
    have : g * 4503599627370496 ≤ 2000 * 4503599627370496 := Nat.mul_le_mul_right _ hg
    omega
  have hw : g * 4503599627370496 + q = double.word false (g * 4503599627370496 + q) := rfl
  rw [hw, read_word double false (by rw [d_sign]; omega), d_bin, d_inf, d_least]
  obtain ⟨x, rfl⟩ : ∃ x, q = 4503599627370496 + x := ⟨q - 4503599627370496, by omega⟩
  have hx : x < 4503599627370496 := by omega
  have e0 : g * 4503599627370496 + (4503599627370496 + x) = 4503599627370496 * (g + 1) + x := by omega
  have e1 : (g * 4503599627370496 + (4503599627370496 + x)) % 4503599627370496 = x := by
    rw [e0, Nat.mul_add_mod, Nat.mod_eq_of_lt hx]
  have e2 : (g * 4503599627370496 + (4503599627370496 + x)) / 4503599627370496 = g + 1 := by
    rw [e0, Nat.mul_add_div (by decide), Nat.div_eq_of_lt hx]
  rw [if_neg (by omega), if_pos hi, e1, e2]
  have e3 : (-1074 : Int) + ((g + 1 - 1 : Nat) : Int) = (g : Int) - 1074 := by omega
  rw [e3]

/-- A number of 56 digits, rounded to double precision and then to single. -/
theorem write_two {V : Nat} {p : Int} (h1 : 36028797018963968 ≤ V) (h2 : V < 72057594037927936) (hp : -150 ≤ p) (hp' : p ≤ 40)
    (c1 : 4503599627370496 ≤ Toward.even.cut false V 3) (c2 : Toward.even.cut false V 3 ≤ 9007199254740992) :
    floatToFloatBits .f64 (double.nearest false V p) .f32 = some ((p + 181).toNat * 8388608 + Toward.even.cut false (Toward.even.cut false V 3) 29) := by
  have lg : V.log2 = 55 := by
    rw [Nat.log2_eq_iff (by omega)]
    exact ⟨h1, h2⟩
  have fb : double.fractionBits = 52 := rfl
  obtain ⟨q, hq⟩ : ∃ q, Toward.even.cut false V 3 = q := ⟨_, rfl⟩
  rw [hq] at c1 c2 ⊢
  have hn : double.nearest false V p = (p + 1077).toNat * 4503599627370496 + q := by
    unfold Format.nearest
    rw [if_neg (by omega)]
    dsimp only
    have hmax : max (p + ((V.log2 : Nat) : Int) - (double.fractionBits : Int)) double.leastPlace = p + 3 := by rw [lg, fb, d_least]; omega
    rw [hmax, d_bin, d_least, d_inf]
    have e1 : (p - (p + 3)).toNat = 0 := by omega
    have e2 : (p + 3 - p).toNat = 3 := by omega
    rw [e1, e2, Nat.shiftLeft_zero, hq]
    unfold Format.word
    simp only [Bool.false_eq_true, if_false]
    have e3 : (p + 3 - -1074).toNat = (p + 1077).toNat := by omega
    rw [e3, Nat.min_eq_left]
    have h7 : (p + 1077).toNat * 4503599627370496 ≤ 1200 * 4503599627370496 := Nat.mul_le_mul_right _ (by omega)
    exact Nat.le_trans (Nat.add_le_add h7 c2) (by decide)
  rw [hn]
  clear hn hq
  by_cases hc : q = 9007199254740992
  · subst hc
    have e0 : (p + 1077).toNat * 4503599627370496 + 9007199254740992 = ((p + 1077).toNat + 1) * 4503599627370496 + 4503599627370496 := by omega
    have hr := read_d (g := (p + 1077).toNat + 1) (q := 4503599627370496) (by decide) (by decide) (by omega)
    rw [e0, to_single hr (by decide) (by decide) (by omega) (by omega)]
    refine congrArg some ?_
    have f1 : Toward.even.cut false 4503599627370496 29 = 8388608 := by decide +kernel
    have f2 : Toward.even.cut false 9007199254740992 29 = 16777216 := by decide +kernel
    rw [f1, f2]
    have f3 : ((((p + 1077).toNat + 1 : Nat) : Int) - 1074 + 178).toNat = (p + 181).toNat + 1 := by omega
    rw [f3]
    omega
  · have hr := read_d (g := (p + 1077).toNat) (q := q) c1 (by omega) (by omega)
    rw [to_single hr c1 (by omega) (by omega) (by omega)]
    refine congrArg some ?_
    have f3 : ((((p + 1077).toNat : Nat) : Int) - 1074 + 178).toNat = (p + 181).toNat := by omega
    rw [f3]

/-- The root of a positive number of single precision, as the hardware makes it: whatever k brings its square by powers of four between 2^48 and 2^50. -/
theorem impl_root {x m : Nat} {e k : Int} {t n r : Nat} (hx : single.read x = .number false m e) (hm : m ≠ 0) (ht : (t : Int) = e + 2 * k) (hn : n = m * 2 ^ t) (h48 : 281474976710656 ≤ n) (h50 : n < 1125899906842624) (hr : isRoot n r) :
    (∃ s, double.sqrt (wide x) = some s ∧ floatToFloatBits .f64 s .f32 = some (rootW k (evenOf n r))) ∧ -45 ≤ k ∧ k ≤ 110 ∧ 16777216 ≤ evenOf n r ∧ evenOf n r ≤ 33554432 ∧ evenOf n r % 2 = 0 := by
  obtain ⟨m1, e1, e2, _⟩ := num32 hx
  obtain ⟨_, _, hw⟩ := wide_num hx
  obtain ⟨j, hj, hwr, M1, M2⟩ := hw hm
  have t25 : 25 ≤ t := by
    rcases Nat.lt_or_ge t 25 with h | h
    · exfalso
      have h1 : m * 2 ^ t ≤ 16777215 * 2 ^ 24 := Nat.mul_le_mul (by omega) (Nat.pow_le_pow_right (by decide) (by omega))
      omega
    · exact h
  have t49 : t ≤ 49 := by
    rcases Nat.lt_or_ge 49 t with h | h
    · exfalso
      have h1 : 1 * 2 ^ 50 ≤ m * 2 ^ t := Nat.mul_le_mul (by omega) (Nat.pow_le_pow_right (by decide) h)
      omega
    · exact h
  have n4 : n % 4 = 0 := by
    obtain ⟨d, rfl⟩ : ∃ d, t = 2 + d := ⟨t - 2, by omega⟩
    rw [hn, Nat.pow_add, ← Nat.mul_assoc, Nat.mul_comm m, Nat.mul_assoc]
    exact Nat.mul_mod_right 4 _
  obtain ⟨M, hM⟩ : ∃ M, m * 2 ^ j = M := ⟨_, rfl⟩
  rw [hM] at hwr M1 M2
  obtain ⟨c, hc⟩ : ∃ c, ((e - (j : Int) - ((56 : Nat) : Int)) % 2).toNat = c := ⟨_, rfl⟩
  have hc1 : c ≤ 1 := by omega
  have lg : M.log2 = 52 := by
    rw [Nat.log2_eq_iff (by omega)]
    exact ⟨M1, M2⟩
  have hsame : j + 56 + c = t + 60 := by
    have p1 : m * 2 ^ (j + 56 + c) = M * 2 ^ (56 + c) := by rw [Nat.add_assoc, Nat.pow_add, ← Nat.mul_assoc, hM]
    have p2 : m * 2 ^ (t + 60) = n * 1152921504606846976 := by rw [Nat.pow_add, ← Nat.mul_assoc, ← hn]
    have q1 : 324518553658426726783156020576256 ≤ m * 2 ^ (j + 56 + c) := by
      rw [p1]
      have h1 : 4503599627370496 * 2 ^ 56 ≤ M * 2 ^ (56 + c) := Nat.mul_le_mul M1 (Nat.pow_le_pow_right (by decide) (Nat.le_add_right _ _))
      have h2 : 4503599627370496 * 2 ^ 56 = 324518553658426726783156020576256 := by decide
      rw [h2] at h1
      exact h1
    have q2 : m * 2 ^ (j + 56 + c) < 1298074214633706907132624082305024 := by
      rw [p1]
      have h1 : M * 2 ^ (56 + c) ≤ M * 2 ^ 57 := Nat.mul_le_mul_left _ (Nat.pow_le_pow_right (by decide) (by omega))
      have h3 : M * 2 ^ 57 < 9007199254740992 * 2 ^ 57 := Nat.mul_lt_mul_of_pos_right M2 (by decide)
      have h2 : 9007199254740992 * 2 ^ 57 = 1298074214633706907132624082305024 := by decide
      rw [h2] at h3
      exact Nat.lt_of_le_of_lt h1 h3
    have q3 : 324518553658426726783156020576256 ≤ m * 2 ^ (t + 60) := by
      rw [p2]
      exact Nat.mul_le_mul_right 1152921504606846976 h48
    have q4 : m * 2 ^ (t + 60) < 1298074214633706907132624082305024 := by
      rw [p2]
      exact Nat.mul_lt_mul_of_pos_right h50 (by decide)
    clear p1 p2
    rcases Nat.lt_trichotomy (j + 56 + c) (t + 60) with h | h | h
    · exact (window q1 q4 h (by omega)).elim
    · exact h
    · exact (window q3 q2 h (by omega)).elim
  have hnn : M <<< (56 + c) = n * (1073741824 * 1073741824) := by
    rw [Nat.shiftLeft_eq, ← hM, Nat.mul_assoc, ← Nat.pow_add, ← Nat.add_assoc, hsame, Nat.pow_add, ← Nat.mul_assoc, ← hn]
  have hlog : (n * (1073741824 * 1073741824)).log2 / 2 + 1 = 55 := by
    have h1 : (n * (1073741824 * 1073741824)).log2 = 52 + (56 + c) := by
      rw [← hnn, Nat.shiftLeft_eq, Nat.log2_eq_iff (Nat.mul_ne_zero (by omega) (Nat.pos_iff_ne_zero.1 (Nat.two_pow_pos _)))]
      constructor
      · rw [Nat.pow_add]
        exact Nat.mul_le_mul_right _ M1
      · have e9 : 2 ^ (52 + (56 + c) + 1) = 9007199254740992 * 2 ^ (56 + c) := by rw [Nat.add_right_comm, Nat.pow_add]
        rw [e9]
        exact Nat.mul_lt_mul_of_pos_right M2 (Nat.two_pow_pos _)
    omega
  have hW : isRoot (n * (1073741824 * 1073741824)) (Datum.rootFrom (n * (1073741824 * 1073741824)) 55 0) := by
    refine rootFrom_is _ 55 0 (Nat.zero_le _) ?_
    have h1 : n * (1073741824 * 1073741824) < 1125899906842624 * (1073741824 * 1073741824) := Nat.mul_lt_mul_of_pos_right h50 (by decide)
    have h2 : 1125899906842624 * (1073741824 * 1073741824) = (0 + 2 ^ 55) * (0 + 2 ^ 55) := by decide
    rw [h2] at h1
    exact h1
  obtain ⟨W, hWe⟩ : ∃ W, Datum.rootFrom (n * (1073741824 * 1073741824)) 55 0 = W := ⟨_, rfl⟩
  rw [hWe] at hW
  obtain ⟨s, hs⟩ : ∃ s, (W * W != n * (1073741824 * 1073741824)).toNat = s := ⟨_, rfl⟩
  have hs1 : s ≤ 1 := by rw [← hs]; exact bool_le _
  obtain ⟨k1, k2, k3, k4, k5, k6, k7, k8⟩ := two_cuts n4 h50 h48 hr hW hs1
  refine ⟨⟨double.nearest false (2 * W + s) (-k - 31), ?_, ?_⟩, by omega, by omega, k6, k7, k8⟩
  · unfold Format.sqrt
    rw [hwr]
    have fb : double.fractionBits = 52 := rfl
    have hM0 : ¬ M = 0 := by omega
    simp only [Datum.root, fb, lg]
    rw [if_neg hM0]
    have e56 : 2 * (52 + 2) - 52 = 56 := by decide
    simp only [e56, Bool.false_eq_true, if_false]
    rw [hc, hnn, hlog, hWe, hs]
    rw [Option.map_some]
    have hpl : (e - (j : Int) - ((56 + c : Nat) : Int)) / 2 - 1 = -k - 31 := by omega
    rw [hpl]
    rfl
  · rw [write_two k4 k5 (by omega) (by omega) k2 k3, k1]
    unfold rootW
    have : (-k - 31 + 181).toNat = (150 - k).toNat := by omega
    rw [this]
end Go.Proofs.Ytkfahacnanlnfaa
