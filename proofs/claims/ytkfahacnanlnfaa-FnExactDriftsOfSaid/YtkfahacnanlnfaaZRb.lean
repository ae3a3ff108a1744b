/- Plain laws of the floats: the root of double precision, rounded to single, is the root found by whole numbers. No program in sight. -/
import Derived.Test.YtkfahacnanlnfaaZRa
namespace Go.Proofs.Ytkfahacnanlnfaa
open Ieee

def isRoot (n r : Nat) : Prop := r * r ≤ n ∧ n < (r + 1) * (r + 1)
theorem rootFrom_is (n : Nat) : ∀ (t r : Nat), r * r ≤ n → n < (r + 2 ^ t) * (r + 2 ^ t) → isRoot n (Datum.rootFrom n t r) := by
  intro t
  induction t with
  | zero => intro r h1 h2; exact ⟨h1, h2⟩
  | succ t ih =>
    intro r h1 h2
    unfold Datum.rootFrom
    simp only [Nat.one_shiftLeft]
    split
    · rename_i h
      refine ih _ h ?_
      rw [Nat.add_assoc, ← Nat.two_mul, Nat.mul_comm 2, ← Nat.pow_succ]
      exact h2
    · rename_i h
      exact ih _ h1 (by omega)

/-- The even number next to the root. -/
def evenOf (n r : Nat) : Nat := if (r - r % 2 + 1) * (r - r % 2 + 1) < n then r - r % 2 + 2 else r - r % 2
/-- The word of v * 2^-k in single precision. -/
def rootW (k : Int) (v : Nat) : Nat := (150 - k).toNat * 8388608 + v / 2

theorem cut29 (M : Nat) (h1 : 4503599627370496 ≤ M) : Toward.even.cut false M 29 = M / 536870912 + (decide (536870912 < 2 * (M % 536870912)) || (536870912 == 2 * (M % 536870912) && M / 536870912 % 2 == 1)).toNat := by
  have hl : 52 ≤ M.log2 := by
    rw [Nat.le_log2 (by omega)]
    exact h1
  exact cut_two M 29 (by omega)
theorem cut3 (V : Nat) (h1 : 36028797018963968 ≤ V) : Toward.even.cut false V 3 = V / 8 + (decide (8 < 2 * (V % 8)) || (8 == 2 * (V % 8) && V / 8 % 2 == 1)).toNat := by
  have hl : 55 ≤ V.log2 := by
    rw [Nat.le_log2 (by omega)]
    exact h1
  exact cut_two V 3 (by omega)
theorem bool_le (b : Bool) : b.toNat ≤ 1 := by cases b <;> simp

theorem to_single {w M : Nat} {E : Int} (h : double.read w = .number false M E) (h1 : 4503599627370496 ≤ M) (h2 : M < 9007199254740992) (h3 : -170 ≤ E) (h4 : E ≤ 70) :
    floatToFloatBits .f64 w .f32 = some ((E + 178).toNat * 8388608 + Toward.even.cut false M 29) := by
  have hd : FloatKind.decode .f64 w = .number false M E := h
  have hne : FloatKind.f64 ≠ FloatKind.f32 := by decide
  have lg : M.log2 = 52 := by
    rw [Nat.log2_eq_iff (by omega)]
    exact ⟨h1, h2⟩
  have fb : single.fractionBits = 23 := rfl
  have hc := cut29 M h1
  have hb := bool_le (decide (536870912 < 2 * (M % 536870912)) || (536870912 == 2 * (M % 536870912) && M / 536870912 % 2 == 1))
  obtain ⟨q, hq⟩ : ∃ q, Toward.even.cut false M 29 = q := ⟨_, rfl⟩
  have hql : q ≤ 16777216 := by rw [← hq, hc]; omega
  have hn : single.nearest false M E = (E + 178).toNat * 8388608 + q := by
    unfold Format.nearest
    rw [if_neg (by omega)]
    dsimp only
    have hmax : max (E + ((M.log2 : Nat) : Int) - (single.fractionBits : Int)) single.leastPlace = E + 29 := by rw [lg, fb, s_least]; omega
    rw [hmax, s_bin, s_least, s_inf]
    have e1 : (E - (E + 29)).toNat = 0 := by omega
    have e2 : (E + 29 - E).toNat = 29 := by omega
    rw [e1, e2, Nat.shiftLeft_zero, hq]
    unfold Format.word
    simp only [Bool.false_eq_true, if_false]
    have e3 : (E + 29 - -149).toNat = (E + 178).toNat := by omega
    rw [e3, Nat.min_eq_left]
    omega
  have hfin : (FloatKind.decode .f32 (FloatKind.encode .f32 (.number false M E))).isInfinity = false := by
    show (single.read (single.nearest false M E)).isInfinity = false
    have hw : single.nearest false M E = single.word false ((E + 178).toNat * 8388608 + q) := by rw [hn]; rfl
    rw [hw, read_word single false (by rw [s_sign]; omega)]
    split
    · rfl
    · rw [if_pos (by rw [s_inf]; omega)]; rfl
  unfold floatToFloatBits
  rw [if_neg hne, hd]
  simp only
  rw [hfin, hq]
  show some (single.nearest false M E) = _
  rw [hn]

set_option maxRecDepth 100000 in
theorem spec_root {v : Nat} {k : Int} (he : v % 2 = 0) (h1 : 16777216 ≤ v) (h2 : v ≤ 33554432) (hk : -45 ≤ k) (hk' : k ≤ 110) : floatToFloatBits .f64 (dbl v (-k)) .f32 = some (rootW k v) := by
  have hex : ex v (-k) := ⟨by omega, by omega, by omega, by omega⟩
  obtain ⟨j, hj, _, hr, b1, b2⟩ := dbl_read hex
  have hj' : j = 28 ∨ (j = 27 ∧ v = 33554432) := by
    by_cases hv : v = 33554432
    · subst hv
      have : Nat.log2 33554432 = 25 := by decide +kernel
      omega
    · have : v.log2 = 24 := by
        rw [Nat.log2_eq_iff (by omega)]
        exact ⟨h1, by omega⟩
      omega
  rw [to_single hr b1 b2 (by omega) (by omega)]
  refine congrArg some ?_
  unfold rootW
  rcases hj' with hj' | ⟨hj', hv⟩
  · rw [hj']
    have e : v * 2 ^ 28 = v / 2 * 2 ^ 29 := by omega
    rw [e, cut_exact (v / 2) 29 29 (by omega) (Nat.le_refl _)]
    have e2 : (-k - ((28 : Nat) : Int) + 178).toNat = (150 - k).toNat := by omega
    rw [e2, Nat.sub_self, Nat.pow_zero, Nat.mul_one]
  · rw [hj', hv]
    have e : 33554432 * 2 ^ 27 = 8388608 * 2 ^ 29 := by decide
    rw [e, cut_exact 8388608 29 29 (by omega) (Nat.le_refl _)]
    have e2 : (-k - ((27 : Nat) : Int) + 178).toNat = (150 - k).toNat + 1 := by omega
    rw [e2, Nat.sub_self, Nat.pow_zero, Nat.mul_one]
    omega

theorem sq_lt {a b : Nat} (h : a * a < b * b) : a < b := by
  rcases Nat.lt_or_ge a b with h1 | h1
  · exact h1
  · exact absurd (Nat.mul_le_mul h1 h1) (by omega)
theorem sq_le {a b : Nat} (h : a * a ≤ b * b) : a ≤ b := by
  rcases Nat.lt_or_ge b a with h1 | h1
  · exact absurd (Nat.mul_lt_mul'' h1 h1) (by omega)
  · exact h1
theorem sq_scale (a K : Nat) : a * K * (a * K) = a * a * (K * K) := by simp only [Nat.mul_assoc, Nat.mul_left_comm]
/-- The root of n * K^2 against the odd number o, n below o^2. -/
theorem root_below {n o W K : Nat} (ho : 8 * o < K) (h4 : 4 ≤ o * K) (hn : n + 1 ≤ o * o) (hW : W * W ≤ n * (K * K)) : W + 5 ≤ o * K := by
  rcases Nat.lt_or_ge (W + 4) (o * K) with h | h
  · omega
  · exfalso
    obtain ⟨a, ha⟩ : ∃ a, o * K = a + 4 := ⟨o * K - 4, by omega⟩
    have h1 : a * a ≤ W * W := Nat.mul_le_mul (by omega) (by omega)
    have h2 : (a + 4) * (a + 4) = o * o * (K * K) := by rw [← ha, sq_scale]
    have h3 : (a + 4) * (a + 4) = a * a + 8 * a + 16 := by rw [Nat.add_mul, Nat.mul_add, Nat.mul_add]; omega
    have h5 := Nat.mul_le_mul_right (K * K) hn
    rw [Nat.add_mul, Nat.one_mul] at h5
    have h6 : 8 * (a + 4) < K * K := by
      rw [← ha, ← Nat.mul_assoc]
      exact Nat.mul_lt_mul_of_pos_right ho (by omega)
    generalize o * o * (K * K) = X at *
    generalize n * (K * K) = Y at *
    generalize K * K = K2 at *
    generalize a * a = Z at *
    generalize W * W = U at *
    omega
theorem root_above {n o W K : Nat} (ho : 8 * o + 1 ≤ K) (hK : 17 ≤ K) (hn : o * o + 1 ≤ n) (hW : n * (K * K) < (W + 1) * (W + 1)) : o * K + 4 ≤ W := by
  rcases Nat.lt_or_ge W (o * K + 4) with h | h
  · exfalso
    obtain ⟨a, ha⟩ : ∃ a, o * K = a := ⟨_, rfl⟩
    have h1 : (W + 1) * (W + 1) ≤ (a + 4) * (a + 4) := Nat.mul_le_mul (by omega) (by omega)
    have h2 : a * a = o * o * (K * K) := by rw [← ha, sq_scale]
    have h3 : (a + 4) * (a + 4) = a * a + 8 * a + 16 := by rw [Nat.add_mul, Nat.mul_add, Nat.mul_add]; omega
    have h5 := Nat.mul_le_mul_right (K * K) hn
    rw [Nat.add_mul, Nat.one_mul] at h5
    have h6 : 8 * a + K ≤ K * K := by
      have := Nat.mul_le_mul_right K ho
      rw [Nat.add_mul, Nat.one_mul, Nat.mul_assoc, ha] at this
      exact this
    generalize o * o * (K * K) = X at *
    generalize n * (K * K) = Y at *
    generalize K * K = K2 at *
    generalize a * a = Z at *
    generalize (W + 1) * (W + 1) = U at *
    omega
  · exact h
/-- What the whole root is, against the even number below it. -/
theorem root_frame {n r W K u : Nat} (hr : isRoot n r) (hW : isRoot (n * (K * K)) W) (hK : 0 < K) (hv1 : 2 * u ≤ r) (hv2 : r ≤ 2 * u + 1) : 2 * u * K ≤ W ∧ W < (2 * u + 2) * K := by
  obtain ⟨r1, r2⟩ := hr
  obtain ⟨w1, w2⟩ := hW
  constructor
  · have h1 : 2 * u * (2 * u) ≤ n := Nat.le_trans (Nat.mul_le_mul hv1 hv1) r1
    have h2 : 2 * u * K * (2 * u * K) < (W + 1) * (W + 1) := by
      rw [sq_scale]
      exact Nat.lt_of_le_of_lt (Nat.mul_le_mul_right _ h1) w2
    have := sq_lt h2
    omega
  · have h1 : n < (2 * u + 2) * (2 * u + 2) := Nat.lt_of_lt_of_le r2 (Nat.mul_le_mul (by omega) (by omega))
    have h2 : W * W < (2 * u + 2) * K * ((2 * u + 2) * K) := by
      rw [sq_scale]
      exact Nat.lt_of_le_of_lt w1 (Nat.mul_lt_mul_of_pos_right h1 (Nat.mul_pos hK hK))
    exact sq_lt h2
theorem root_size {n r : Nat} (hr : isRoot n r) (h50 : n < 1125899906842624) (h48 : 281474976710656 ≤ n) : 16777216 ≤ r ∧ r < 33554432 := by
  obtain ⟨r1, r2⟩ := hr
  have e1 : 16777216 * 16777216 = 281474976710656 := by decide
  have e2 : 33554432 * 33554432 = 1125899906842624 := by decide
  rw [← e1] at h48
  rw [← e2] at h50
  have h3 := sq_lt (Nat.lt_of_le_of_lt h48 r2)
  have h4 := sq_lt (Nat.lt_of_le_of_lt r1 h50)
  omega
theorem odd_sq (u : Nat) : (2 * u + 1) * (2 * u + 1) % 4 = 1 := by
  have : (2 * u + 1) * (2 * u + 1) = 4 * (u * u) + 4 * u + 1 := by rw [Nat.add_mul, Nat.mul_add, Nat.mul_one, Nat.one_mul, Nat.mul_mul_mul_comm]; omega
  omega
/-- The second rounding. -/
theorem cut29_up {u Kp : Nat} (hu : 8388608 ≤ u) (k1 : u * 536870912 + 268435456 < Kp) (k2 : Kp ≤ (u + 1) * 536870912) : Toward.even.cut false Kp 29 = u + 1 := by
  rw [cut29 Kp (by omega)]
  by_cases he : Kp = (u + 1) * 536870912
  · have e1 : Kp / 536870912 = u + 1 := by omega
    have e2 : Kp % 536870912 = 0 := by omega
    rw [e1, e2]
    simp
  · have e1 : Kp / 536870912 = u := by omega
    have e2 : decide (536870912 < 2 * (Kp % 536870912)) = true := decide_eq_true (by omega)
    rw [e1, e2, Bool.true_or]
    rfl
theorem cut29_down {u Kp : Nat} (hu : 8388608 ≤ u) (k1 : u * 536870912 ≤ Kp) (k2 : Kp < u * 536870912 + 268435456) : Toward.even.cut false Kp 29 = u := by
  rw [cut29 Kp (by omega)]
  have e1 : Kp / 536870912 = u := by omega
  have e2 : decide (536870912 < 2 * (Kp % 536870912)) = false := decide_eq_false (by omega)
  have e3 : (536870912 == 2 * (Kp % 536870912)) = false := by
    rw [beq_eq_false_iff_ne]
    omega
  rw [e1, e2, e3]
  rfl
theorem cut3_le {V : Nat} (hV : 36028797018963968 ≤ V) : V / 8 ≤ Toward.even.cut false V 3 ∧ Toward.even.cut false V 3 ≤ V / 8 + 1 := by
  rw [cut3 V hV]
  have b3 := bool_le (decide (8 < 2 * (V % 8)) || (8 == 2 * (V % 8) && V / 8 % 2 == 1))
  exact ⟨Nat.le_add_right _ _, Nat.add_le_add_left b3 _⟩
theorem a1 (u : Nat) : 2 * u * 1073741824 = 8 * (u * 268435456) := by omega
theorem a2 (u : Nat) : (2 * u + 1) * 1073741824 = 8 * (u * 268435456) + 4 * 268435456 := by omega
theorem a3 (u : Nat) : (2 * u + 2) * 1073741824 = 8 * (u * 268435456) + 8 * 268435456 := by omega
theorem a4 (u : Nat) : u * 536870912 = 2 * (u * 268435456) := by omega
theorem a5 (u : Nat) : (u + 1) * 536870912 = 2 * (u * 268435456) + 2 * 268435456 := by omega
theorem kA1 {x L W s Kp : Nat} (hA : 8 * x + 4 * L + 4 ≤ W) (c1 : (2 * W + s) / 8 ≤ Kp) : 2 * x + L < Kp := by omega
theorem kA2 {x L W s Kp : Nat} (hs : s ≤ 1) (hA : W < 8 * x + 8 * L) (c2 : Kp ≤ (2 * W + s) / 8 + 1) : Kp ≤ 2 * x + 2 * L := by omega
theorem kB1 {x W s Kp : Nat} (hA : 8 * x ≤ W) (c1 : (2 * W + s) / 8 ≤ Kp) : 2 * x ≤ Kp := by omega
theorem kB2 {x L W s Kp : Nat} (hs : s ≤ 1) (hB : W + 5 ≤ 8 * x + 4 * L) (c2 : Kp ≤ (2 * W + s) / 8 + 1) : Kp < 2 * x + L := by omega
theorem kV1 {x W : Nat} (s : Nat) (hA : 8 * x ≤ W) : 16 * x ≤ 2 * W + s := by omega
theorem kV2 {x L W s : Nat} (hs : s ≤ 1) (hA : W < 8 * x + 8 * L) : 2 * W + s < 16 * x + 16 * L := by omega
theorem x1 {u : Nat} (hu : 8388608 ≤ u) : 2251799813685248 ≤ u * 268435456 := Nat.mul_le_mul_right 268435456 hu
theorem x2 {u : Nat} (hu : u < 16777216) : u * 268435456 + 268435456 ≤ 4503599627370496 := by
  have h := Nat.mul_le_mul_right 268435456 (Nat.succ_le_of_lt hu)
  rw [Nat.succ_mul] at h
  exact h
theorem m16 {a b : Nat} (h : a ≤ b) : 16 * a ≤ 16 * b := Nat.mul_le_mul_left 16 h
theorem m2 {a b : Nat} (h : a ≤ b) : 2 * a ≤ 2 * b := Nat.mul_le_mul_left 2 h
/-- Two roundings, one behind the other, of the root and a digit that tells whether something is left. -/
theorem two_cuts {n r W s : Nat} (hn4 : n % 4 = 0) (h50 : n < 1125899906842624) (h48 : 281474976710656 ≤ n) (hr : isRoot n r) (hW : isRoot (n * (1073741824 * 1073741824)) W) (hs : s ≤ 1) :
    Toward.even.cut false (Toward.even.cut false (2 * W + s) 3) 29 = evenOf n r / 2 ∧ 4503599627370496 ≤ Toward.even.cut false (2 * W + s) 3 ∧ Toward.even.cut false (2 * W + s) 3 ≤ 9007199254740992 ∧
    36028797018963968 ≤ 2 * W + s ∧ 2 * W + s < 72057594037927936 ∧ 16777216 ≤ evenOf n r ∧ evenOf n r ≤ 33554432 ∧ evenOf n r % 2 = 0 := by
  obtain ⟨rl, ru⟩ := root_size hr h50 h48
  obtain ⟨u, hu⟩ : ∃ u, r - r % 2 = 2 * u := ⟨r / 2, by omega⟩
  have hv1 : 2 * u ≤ r := by omega
  have hv2 : r ≤ 2 * u + 1 := by omega
  have hu1 : 8388608 ≤ u := by omega
  have hu2 : u < 16777216 := by omega
  clear rl ru h50 h48
  obtain ⟨hlo, hhi⟩ := root_frame hr hW (by decide) hv1 hv2
  rw [a1] at hlo
  rw [a3] at hhi
  have hodd := odd_sq u
  unfold evenOf
  rw [hu]
  clear hu hv1 hv2 hr
  obtain ⟨w1, w2⟩ := hW
  have hV : 36028797018963968 ≤ 2 * W + s := Nat.le_trans (m16 (x1 hu1)) (kV1 s hlo)
  have hV2 : 2 * W + s < 72057594037927936 := by
    refine Nat.lt_of_lt_of_le (kV2 hs hhi) ?_
    rw [← Nat.mul_add]
    exact m16 (x2 hu2)
  obtain ⟨c1, c2⟩ := cut3_le hV
  obtain ⟨Kp, hK⟩ : ∃ Kp, Toward.even.cut false (2 * W + s) 3 = Kp := ⟨_, rfl⟩
  rw [hK] at c1 c2 ⊢
  clear hK
  have l1 := kB1 hlo c1
  have l2 := kA2 hs hhi c2
  have g1 : 4503599627370496 ≤ Kp := Nat.le_trans (m2 (x1 hu1)) l1
  have g2 : Kp ≤ 9007199254740992 := by
    refine Nat.le_trans l2 ?_
    rw [← Nat.mul_add]
    exact m2 (x2 hu2)
  have o1 : 8 * (2 * u + 1) + 1 ≤ 1073741824 := by omega
  have z1 : 16777216 ≤ 2 * u := m2 hu1
  have z2 : 2 * u + 2 ≤ 33554432 := m2 (Nat.succ_le_of_lt hu2)
  by_cases ho : (2 * u + 1) * (2 * u + 1) < n
  · rw [if_pos ho]
    have hA := root_above o1 (by decide) ho w2
    rw [a2] at hA
    have hc := cut29_up (Kp := Kp) hu1 (by rw [a4]; exact kA1 hA c1) (by rw [a5]; exact l2)
    rw [hc]
    clear hc hA w1 w2 ho hodd c1 c2 hlo hhi o1 l1 l2
    refine ⟨by omega, g1, g2, hV, hV2, Nat.le_trans z1 (Nat.le_add_right _ _), z2, ?_⟩
    clear z1 z2 g1 g2 hV hV2 hu1 hu2
    omega
  · rw [if_neg ho]
    have hn1 : n + 1 ≤ (2 * u + 1) * (2 * u + 1) := by omega
    have h4 : 4 ≤ (2 * u + 1) * 1073741824 := by rw [a2]; omega
    have hB := root_below o1 h4 hn1 w1
    rw [a2] at hB
    have hc := cut29_down (Kp := Kp) hu1 (by rw [a4]; exact l1) (by rw [a4]; exact kB2 hs hB c2)
    rw [hc]
    clear hc hB w1 w2 ho hodd c1 c2 hlo hhi o1 hn1 l1 l2
    refine ⟨by omega, g1, g2, hV, hV2, z1, Nat.le_trans (Nat.le_add_right _ _) z2, ?_⟩
    clear z1 z2 g1 g2 hV hV2 hu1 hu2
    omega
end Go.Proofs.Ytkfahacnanlnfaa
