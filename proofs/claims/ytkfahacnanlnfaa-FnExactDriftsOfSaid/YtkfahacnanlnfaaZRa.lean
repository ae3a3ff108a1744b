/- Plain laws of the floats: a number kept as it is; widening a float32. No program in sight. -/
/- Plain laws of the floats: exact words of double precision, whole roots. No program in sight. -/
import Derived.Test.YtkfahacnanlnfaaZP
namespace Go.Proofs.Ytkfahacnanlnfaa
open Ieee

theorem cut_zero (s : Bool) (n : Nat) : Toward.even.cut s n 0 = n := by
  unfold Toward.cut
  simp [Nat.shiftLeft_eq, Nat.mod_one]

theorem log2_bounds {m : Nat} (hm : m ≠ 0) : 2 ^ m.log2 ≤ m ∧ m < 2 ^ (m.log2 + 1) := ⟨Nat.log2_self_le hm, Nat.lt_log2_self⟩

/-- A number that the format has is written as it is. -/
theorem nearest_exact (f : Format) (s : Bool) (m : Nat) (e : Int) (k : Nat) (hm : m ≠ 0) (hk : m.log2 + k = f.fractionBits) (hlo : f.leastPlace ≤ e - k)
    (hhi : ((e - k - f.leastPlace).toNat + 2) * f.binade ≤ f.infRung) :
    f.nearest s m e = f.word s ((e - k - f.leastPlace).toNat * f.binade + m * 2 ^ k) ∧ f.read (f.nearest s m e) = .number s (m * 2 ^ k) (e - k) ∧ f.binade ≤ m * 2 ^ k ∧ m * 2 ^ k < 2 * f.binade := by
  obtain ⟨l1, l2⟩ := log2_bounds hm
  have hb : f.binade = 2 ^ m.log2 * 2 ^ k := by unfold Format.binade; rw [← hk, Nat.pow_add]
  have hp : 0 < 2 ^ k := Nat.two_pow_pos k
  have h1 : f.binade ≤ m * 2 ^ k := by rw [hb]; exact Nat.mul_le_mul_right _ l1
  have h2 : m * 2 ^ k < 2 * f.binade := by
    rw [hb, ← Nat.mul_assoc]
    have : m < 2 * 2 ^ m.log2 := by rw [Nat.pow_succ] at l2; omega
    exact Nat.mul_lt_mul_of_pos_right this hp
  have hmax : max (e + (m.log2 : Int) - (f.fractionBits : Int)) f.leastPlace = e - k := by omega
  have hw : f.nearest s m e = f.word s ((e - k - f.leastPlace).toNat * f.binade + m * 2 ^ k) := by
    unfold Format.nearest
    rw [if_neg hm]
    dsimp only
    rw [hmax]
    have e1 : (e - (e - (k : Int))).toNat = k := by omega
    have e2 : (e - (k : Int) - e).toNat = 0 := by omega
    rw [e1, e2, cut_zero, Nat.shiftLeft_eq]
    congr 1
    rw [Nat.min_eq_left]
    rw [Nat.add_mul] at hhi
    omega
  refine ⟨hw, ?_, h1, h2⟩
  obtain ⟨g, hg⟩ : ∃ g, (e - k - f.leastPlace).toNat = g := ⟨_, rfl⟩
  have hlt : g * f.binade + m * 2 ^ k < f.infRung := by rw [hg, Nat.add_mul] at hhi; omega
  have hbp : 0 < f.binade := Nat.two_pow_pos _
  obtain ⟨x, hx⟩ : ∃ x, m * 2 ^ k = f.binade + x := ⟨m * 2 ^ k - f.binade, by omega⟩
  have hxb : x < f.binade := by omega
  rw [hw, hg, read_word f s (Nat.lt_of_lt_of_le hlt (Nat.le_of_lt f.infRung_lt)), if_neg (by rw [hx]; omega), if_pos hlt]
  have e3 : (g * f.binade + m * 2 ^ k) % f.binade = x := by
    rw [hx, ← Nat.add_assoc, Nat.add_comm (g * f.binade), Nat.add_assoc, Nat.add_mod_left, Nat.mul_comm g, Nat.mul_add_mod, Nat.mod_eq_of_lt hxb]
  have e4 : (g * f.binade + m * 2 ^ k) / f.binade = g + 1 := by
    rw [hx, show g * f.binade + (f.binade + x) = f.binade * (g + 1) + x by rw [Nat.mul_add, Nat.mul_one, Nat.mul_comm g]; omega, Nat.mul_add_div hbp, Nat.div_eq_of_lt hxb]
  rw [e3, e4, ← hx]
  congr 1
  omega

def wide (b : Nat) : Nat := (floatToFloatBits .f32 b .f64).getD 0
theorem wide_num {b : Nat} {s : Bool} {m : Nat} {e : Int} (h : single.read b = .number s m e) :
    floatToFloatBits .f32 b .f64 = some (wide b) ∧ (m = 0 → double.read (wide b) = .number s 0 (-1074)) ∧
    (m ≠ 0 → ∃ k : Nat, k ≤ 52 ∧ double.read (wide b) = .number s (m * 2 ^ k) (e - k) ∧ 4503599627370496 ≤ m * 2 ^ k ∧ m * 2 ^ k < 9007199254740992) := by
  obtain ⟨h1, h2, h3, h4⟩ := num32 h
  have hd : FloatKind.decode .f32 b = .number s m e := h
  have hne : FloatKind.f32 ≠ FloatKind.f64 := by decide
  by_cases hm : m = 0
  · subst hm
    have hw : double.nearest s 0 e = double.word s 0 := write_zero double s e
    have hr : double.read (double.nearest s 0 e) = .number s 0 (-1074) := by
      rw [hw, read_word double s (by rw [d_sign]; omega), if_pos (by rw [d_bin]; omega), d_least]
    have hv : floatToFloatBits .f32 b .f64 = some (double.nearest s 0 e) := by
      unfold floatToFloatBits
      rw [if_neg hne, hd]
      simp only
      have : (FloatKind.decode .f64 (FloatKind.encode .f64 (.number s 0 e))).isInfinity = false := by
        show (double.read (double.nearest s 0 e)).isInfinity = false
        rw [hr]; rfl
      rw [this]; rfl
    unfold wide
    rw [hv]
    exact ⟨rfl, fun _ => hr, fun h => absurd rfl h⟩
  · have hl : m.log2 < 24 := (Nat.log2_lt hm).2 h1
    obtain ⟨k, hk⟩ : ∃ k, m.log2 + k = 52 := ⟨52 - m.log2, by omega⟩
    obtain ⟨_, hr, b1, b2⟩ := nearest_exact double s m e k hm hk (by rw [d_least]; omega) (by rw [d_least, d_bin, d_inf]; omega)
    rw [d_bin] at b1 b2
    have hv : floatToFloatBits .f32 b .f64 = some (double.nearest s m e) := by
      unfold floatToFloatBits
      rw [if_neg hne, hd]
      simp only
      have : (FloatKind.decode .f64 (FloatKind.encode .f64 (.number s m e))).isInfinity = false := by
        show (double.read (double.nearest s m e)).isInfinity = false
        rw [hr]; rfl
      rw [this]; rfl
    unfold wide
    rw [hv]
    exact ⟨rfl, fun h => absurd h hm, fun _ => ⟨k, by omega, hr, b1, by omega⟩⟩
theorem wide_inf {b : Nat} {s : Bool} (h : single.read b = .infinity s) : floatToFloatBits .f32 b .f64 = some (wide b) ∧ double.read (wide b) = .infinity s := by
  have hd : FloatKind.decode .f32 b = .infinity s := h
  have hne : FloatKind.f32 ≠ FloatKind.f64 := by decide
  have hv : floatToFloatBits .f32 b .f64 = some (double.write (.infinity s)) := by
    unfold floatToFloatBits
    rw [if_neg hne, hd]; rfl
  unfold wide
  rw [hv]
  exact ⟨rfl, read_inf double s (by rw [d_inf, d_bin]; omega)⟩

theorem cmp_le {a b : Int} (h : a ≤ b) : compare a b ≠ .gt := by
  simp only [compare, compareOfLessAndEq]
  by_cases h1 : a < b
  · rw [if_pos h1]; exact nofun
  · rw [if_neg h1, if_pos (by omega)]; exact nofun
theorem cmp_gt {a b : Int} (h : b < a) : compare a b = .gt := by
  simp only [compare, compareOfLessAndEq]
  rw [if_neg (by omega), if_neg (by omega)]
theorem cmp_lt {a b : Int} (h : a < b) : compare a b = .lt := by
  simp only [compare, compareOfLessAndEq]
  rw [if_pos h]
theorem order_self {f : Format} {b : Nat} (h : ∀ s t, f.read b ≠ .nan s t) : f.order b b = some .eq := by
  unfold Format.order
  cases hr : f.read b with
  | number s m e => simp [Datum.order]
  | infinity s => simp [Datum.order]
  | nan s t => exact absurd hr (h s t)
theorem order_nan {f : Format} {a b : Nat} (h : (∃ s t, f.read a = .nan s t) ∨ ∃ s t, f.read b = .nan s t) : f.order a b = none := by
  unfold Format.order
  rcases h with ⟨s, t, h⟩ | ⟨s, t, h⟩ <;> rw [h]
  · cases f.read b <;> rfl
  · cases f.read a <;> rfl
/-- Whether a word is a zero. -/
theorem order_zero (b : Nat) : (single.order b 0 == some .eq) = (match single.read b with | .number _ 0 _ => true | _ => false) := by
  have hz : single.read 0 = .number false 0 (-149) := by decide +kernel
  unfold Format.order
  rw [hz]
  cases hr : single.read b with
  | number s m e =>
    simp only [Datum.order]
    have := num32 hr
    have e1 : min e (-149) = -149 := by omega
    rw [e1, signed_zero]
    cases m with
    | zero => rw [signed_zero]; rfl
    | succ m =>
      have hp : 0 < 2 ^ (e - -149).toNat := Nat.two_pow_pos _
      have h0 : 0 < (m + 1) <<< (e - -149).toNat := by rw [Nat.shiftLeft_eq]; exact Nat.mul_pos (by omega) hp
      unfold signed
      cases s
      · simp only [Bool.false_eq_true, if_false]
        have : compare (((m + 1) <<< (e - -149).toNat : Nat) : Int) 0 = .gt := cmp_gt (by omega)
        rw [this]; rfl
      · simp only [if_true]
        have : compare (-(((m + 1) <<< (e - -149).toNat : Nat) : Int)) 0 = .lt := cmp_lt (by omega)
        rw [this]; rfl
  | infinity s => cases s <;> rfl
  | nan s t => rfl
theorem cz_eq (b : Nat) : cz b = if (single.order b 0 == some .eq) = true then 0 else b := by
  rw [order_zero]
  unfold cz
  cases single.read b with
  | number s m e => cases m <;> rfl
  | infinity s => rfl
  | nan s t => rfl
/-- The same word without its sign. -/
theorem read_abs (b : Nat) : double.read (b % 9223372036854775808) = match double.read b with | .number _ m e => .number false m e | .infinity _ => .infinity false | .nan _ t => .nan false t := by
  unfold Format.read
  simp only [d_sign, d_bin, d_inf, d_least, Nat.mod_mod]
  have e1 : b % 9223372036854775808 / 9223372036854775808 = 0 := Nat.div_eq_of_lt (Nat.mod_lt _ (by omega))
  rw [e1]
  split
  · rfl
  · split
    · rfl
    · split <;> rfl
theorem max_read : double.read 9218868437227405311 = .number false 9007199254740991 971 := by decide +kernel
theorem not_above {b m : Nat} {s : Bool} {e : Int} (h : double.read b = .number s m e) (hm : m < 9007199254740992) (he : e ≤ 971) : (double.order b 9218868437227405311 == some .gt) = false := by
  unfold Format.order
  rw [h, max_read]
  simp only [Datum.order]
  have e1 : min e 971 = e := by omega
  rw [e1]
  have e2 : (e - e).toNat = 0 := by omega
  rw [e2]
  obtain ⟨k, hk⟩ : ∃ k, (971 - e).toNat = k := ⟨_, rfl⟩
  rw [hk]
  have hp : 1 ≤ 2 ^ k := Nat.two_pow_pos k
  have hb : 9007199254740991 ≤ 9007199254740991 <<< k := by rw [Nat.shiftLeft_eq]; omega
  unfold signed
  simp only [Bool.false_eq_true, if_false, Nat.shiftLeft_zero]
  have : compare (if s = true then -(m : Int) else (m : Int)) ((9007199254740991 <<< k : Nat) : Int) ≠ .gt := by
    refine cmp_le ?_
    obtain ⟨X, hX⟩ : ∃ X : Nat, 9007199254740991 <<< k = X := ⟨_, rfl⟩
    rw [hX] at hb ⊢
    split <;> omega
  cases hc : compare (if s = true then -(m : Int) else (m : Int)) ((9007199254740991 <<< k : Nat) : Int) <;> simp_all
theorem above_inf {b : Nat} (h : double.read b = .infinity false) : (double.order b 9218868437227405311 == some .gt) = true := by
  unfold Format.order
  rw [h, max_read]; rfl
end Go.Proofs.Ytkfahacnanlnfaa
namespace Go.Proofs.Ytkfahacnanlnfaa
open Ieee

/-- The word of the positive number m * 2^e in double precision. -/
def dbl (m : Nat) (e : Int) : Nat := double.nearest false m e
/-- m * 2^e is a number of double precision, far from both ends. -/
def ex (m : Nat) (e : Int) : Prop := m ≠ 0 ∧ m < 9007199254740992 ∧ -900 ≤ e ∧ e ≤ 900

theorem log2_lt53 {m : Nat} (h0 : m ≠ 0) (h : m < 9007199254740992) : m.log2 ≤ 52 := by
  have := (Nat.log2_lt h0 (k := 53)).2 h
  omega
theorem dbl_read {m : Nat} {e : Int} (h : ex m e) : ∃ k : Nat, m.log2 + k = 52 ∧ dbl m e = (e - k + 1074).toNat * 4503599627370496 + m * 2 ^ k ∧
    double.read (dbl m e) = .number false (m * 2 ^ k) (e - k) ∧ 4503599627370496 ≤ m * 2 ^ k ∧ m * 2 ^ k < 9007199254740992 := by
  obtain ⟨h0, h1, h2, h3⟩ := h
  have hl := log2_lt53 h0 h1
  obtain ⟨k, hk⟩ : ∃ k, m.log2 + k = 52 := ⟨52 - m.log2, by omega⟩
  obtain ⟨hw, hr, b1, b2⟩ := nearest_exact double false m e k h0 hk (by rw [d_least]; omega) (by rw [d_least, d_bin, d_inf]; omega)
  rw [d_bin] at b1 b2
  refine ⟨k, hk, ?_, hr, b1, by omega⟩
  unfold dbl
  rw [hw, d_bin, d_least]
  unfold Format.word
  simp only [Bool.false_eq_true, if_false]
  congr 2

theorem cut_two (n d : Nat) (h : d ≤ n.log2 + 2) : Toward.even.cut false n d = n / 2 ^ d + (decide (2 ^ d < 2 * (n % 2 ^ d)) || (2 ^ d == 2 * (n % 2 ^ d) && n / 2 ^ d % 2 == 1)).toNat := by
  unfold Toward.cut
  simp only [Nat.min_eq_left h, Nat.one_shiftLeft]
theorem cut_exact (m j d : Nat) (hm : m ≠ 0) (h : d ≤ j) : Toward.even.cut false (m * 2 ^ j) d = m * 2 ^ (j - d) := by
  have hl : (m * 2 ^ j).log2 = m.log2 + j := by
    rw [Nat.log2_eq_iff (Nat.mul_ne_zero hm (Nat.pos_iff_ne_zero.1 (Nat.two_pow_pos _)))]
    obtain ⟨a, b⟩ := log2_bounds hm
    rw [Nat.add_right_comm, Nat.pow_add, Nat.pow_add]
    exact ⟨Nat.mul_le_mul_right _ a, Nat.mul_lt_mul_of_pos_right b (Nat.two_pow_pos _)⟩
  have e : m * 2 ^ j = m * 2 ^ (j - d) * 2 ^ d := by rw [Nat.mul_assoc, ← Nat.pow_add, Nat.sub_add_cancel h]
  rw [cut_two _ _ (by omega), e, Nat.mul_div_cancel _ (Nat.two_pow_pos _), Nat.mul_mod_left]
  have hp : 0 < 2 ^ d := Nat.two_pow_pos _
  simp
/-- A number in another spelling has the same word. -/
theorem dbl_scale {m : Nat} {e : Int} (j : Nat) (h : ex m e) : double.nearest false (m * 2 ^ j) (e - j) = dbl m e := by
  obtain ⟨k, hk, hw, _⟩ := dbl_read h
  obtain ⟨h0, h1, h2, h3⟩ := h
  rw [hw]
  have hl : (m * 2 ^ j).log2 = m.log2 + j := by
    rw [Nat.log2_eq_iff (Nat.mul_ne_zero h0 (Nat.pos_iff_ne_zero.1 (Nat.two_pow_pos _)))]
    obtain ⟨a, b⟩ := log2_bounds h0
    rw [Nat.add_right_comm, Nat.pow_add, Nat.pow_add]
    exact ⟨Nat.mul_le_mul_right _ a, Nat.mul_lt_mul_of_pos_right b (Nat.two_pow_pos _)⟩
  have hne : m * 2 ^ j ≠ 0 := Nat.mul_ne_zero h0 (Nat.pos_iff_ne_zero.1 (Nat.two_pow_pos _))
  have fb : double.fractionBits = 52 := rfl
  have hmax : max (e - (j : Int) + (((m * 2 ^ j).log2 : Nat) : Int) - (double.fractionBits : Int)) double.leastPlace = e - k := by rw [hl, fb, d_least]; omega
  unfold Format.nearest
  rw [if_neg hne]
  dsimp only
  rw [hmax, d_least, d_bin, d_inf]
  have hb : m * 2 ^ k < 9007199254740992 := by
    obtain ⟨_, l2⟩ := log2_bounds h0
    have e1 : 2 ^ (m.log2 + 1) * 2 ^ k = 9007199254740992 := by rw [← Nat.pow_add, show m.log2 + 1 + k = 53 by omega]
    calc m * 2 ^ k < 2 ^ (m.log2 + 1) * 2 ^ k := Nat.mul_lt_mul_of_pos_right l2 (Nat.two_pow_pos _)
      _ = _ := e1
  have hcut : Toward.even.cut false ((m * 2 ^ j) <<< (e - (j : Int) - (e - (k : Int))).toNat) ((e - (k : Int)) - (e - (j : Int))).toNat = m * 2 ^ k := by
    by_cases hjk : j ≤ k
    · have e1 : (e - (j : Int) - (e - (k : Int))).toNat = k - j := by omega
      have e2 : ((e - (k : Int)) - (e - (j : Int))).toNat = 0 := by omega
      rw [e1, e2, cut_zero, Nat.shiftLeft_eq, Nat.mul_assoc, ← Nat.pow_add, show j + (k - j) = k by omega]
    · have e1 : (e - (j : Int) - (e - (k : Int))).toNat = 0 := by omega
      have e2 : ((e - (k : Int)) - (e - (j : Int))).toNat = j - k := by omega
      rw [e1, e2, Nat.shiftLeft_zero, cut_exact m j (j - k) h0 (by omega), show j - (j - k) = k by omega]
  rw [hcut]
  unfold Format.word
  simp only [Bool.false_eq_true, if_false]
  have e3 : (e - (k : Int) - -1074).toNat = (e - k + 1074).toNat := by omega
  rw [e3, Nat.min_eq_left]
  have : (e - (k : Int) + 1074).toNat ≤ 1974 := by omega
  calc (e - (k : Int) + 1074).toNat * 4503599627370496 + m * 2 ^ k ≤ 1974 * 4503599627370496 + 9007199254740992 := Nat.add_le_add (Nat.mul_le_mul_right _ this) (Nat.le_of_lt hb)
    _ ≤ _ := by decide
theorem dbl_one : dbl 1 0 = 4607182418800017408 := by decide +kernel
theorem dbl_two : dbl 1 1 = 4611686018427387904 := by decide +kernel
theorem dbl_four : dbl 1 2 = 4616189618054758400 := by decide +kernel

theorem dbl_mul {m n : Nat} {e f : Int} (h : ex m e) (h' : ex n f) (hp : m * n < 9007199254740992) (h1 : -900 ≤ e + f) (h2 : e + f ≤ 900) : double.mul (dbl m e) (dbl n f) = some (dbl (m * n) (e + f)) := by
  obtain ⟨k, hk, _, hr, _⟩ := dbl_read h
  obtain ⟨l, hl, _, hr', _⟩ := dbl_read h'
  unfold Format.mul
  rw [hr, hr']
  show some (double.nearest false (m * 2 ^ k * (n * 2 ^ l)) (e - k + (f - l))) = _
  have hex : ex (m * n) (e + f) := ⟨Nat.mul_ne_zero h.1 h'.1, hp, h1, h2⟩
  rw [← dbl_scale (k + l) hex]
  congr 2
  · rw [Nat.pow_add]; simp only [Nat.mul_assoc, Nat.mul_left_comm, Nat.mul_comm]
  · omega
theorem dbl_half {m : Nat} {e j : Int} (h : ex m e) (hj : ex 1 j) (h1 : -900 ≤ e - j) (h2 : e - j ≤ 900) : double.div (dbl m e) (dbl 1 j) = some (dbl m (e - j)) := by
  obtain ⟨k, hk, _, hr, b1, b2⟩ := dbl_read h
  obtain ⟨l, hl, hz1, hr', hz2⟩ := dbl_read hj
  have l52 : l = 52 := by
    have e : Nat.log2 1 = 0 := by decide +kernel
    omega
  subst l52
  have hex : ex m (e - j) := ⟨h.1, h.2.1, h1, h2⟩
  have hsc := dbl_scale (k + 3) hex
  rw [Nat.pow_add, ← Nat.mul_assoc] at hsc
  obtain ⟨M, hM⟩ : ∃ M, m * 2 ^ k = M := ⟨_, rfl⟩
  rw [hM] at hr b1 b2 hsc
  clear hM
  unfold Format.div
  rw [hr, hr', ← hsc]
  have lg : M.log2 = 52 := by
    rw [Nat.log2_eq_iff (by omega)]
    exact ⟨b1, b2⟩
  have lg2 : (1 * 2 ^ 52 : Nat).log2 = 52 := by decide +kernel
  have fb : double.fractionBits = 52 := rfl
  simp only [Datum.quotient, fb, lg, lg2]
  have e0 : 1 * 2 ^ 52 = 4503599627370496 := by decide
  have e1 : M <<< (52 + 2 + 52 - 52) = M * 4 * 4503599627370496 := by
    rw [Nat.shiftLeft_eq, Nat.mul_assoc]
  have q1 : M <<< (52 + 2 + 52 - 52) / (1 * 2 ^ 52) = M * 4 := by rw [e0, e1, Nat.mul_div_cancel _ (by decide)]
  have q2 : M <<< (52 + 2 + 52 - 52) % (1 * 2 ^ 52) = 0 := by rw [e0, e1, Nat.mul_mod_left]
  have q3 : ((0 : Nat) != 0).toNat = 0 := rfl
  have q4 : (false ^^ false) = false := rfl
  rw [if_neg (show ¬ (1 * 2 ^ 52 : Nat) = 0 by decide), q1, q2, q3, q4]
  clear q1 q2 q3 q4 e1 e0 lg2 hr' hz1 hz2
  rw [Option.map_some]
  have f1 : 2 * (M * 4) + 0 = M * 2 ^ 3 := by omega
  have f2 : e - (k : Int) - (j - ((52 : Nat) : Int)) - ((52 + 2 + 52 - 52 : Nat) : Int) - 1 = e - j - ((k + 3 : Nat) : Int) := by omega
  rw [f1, f2]
  rfl
theorem cmp_scale {a b c : Nat} (h : 0 < c) : compare (((a * c : Nat)) : Int) ((b * c : Nat) : Int) = compare (a : Int) (b : Int) := by
  rcases Nat.lt_trichotomy a b with h1 | h1 | h1
  · rw [cmp_lt (by exact_mod_cast Nat.mul_lt_mul_of_pos_right h1 h), cmp_lt (by omega)]
  · subst h1
    simp
  · rw [cmp_gt (by exact_mod_cast Nat.mul_lt_mul_of_pos_right h1 h), cmp_gt (by omega)]
/-- How two such numbers stand to each other, over a place below both. -/
theorem dbl_order {m n : Nat} {e f : Int} (h : ex m e) (h' : ex n f) (b : Int) (he : b ≤ e - 52) (hf : b ≤ f - 52) :
    double.order (dbl m e) (dbl n f) = some (compare ((m * 2 ^ (e - b).toNat : Nat) : Int) ((n * 2 ^ (f - b).toNat : Nat) : Int)) := by
  obtain ⟨k, hk, _, hr, b1, b2⟩ := dbl_read h
  obtain ⟨l, hl, _, hr', c1, c2⟩ := dbl_read h'
  unfold Format.order
  rw [hr, hr']
  simp only [Datum.order, signed, Bool.false_eq_true, if_false]
  obtain ⟨t, ht⟩ : ∃ t : Nat, (t : Int) = min (e - k) (f - l) - b := ⟨(min (e - k) (f - l) - b).toNat, by omega⟩
  rw [← cmp_scale (c := 2 ^ t) (Nat.two_pow_pos _), Nat.shiftLeft_eq, Nat.shiftLeft_eq]
  congr 3
  · rw [Nat.mul_assoc, Nat.mul_assoc, ← Nat.pow_add, ← Nat.pow_add, show k + ((e - ↑k - min (e - ↑k) (f - ↑l)).toNat + t) = (e - b).toNat by omega]
  · rw [Nat.mul_assoc, Nat.mul_assoc, ← Nat.pow_add, ← Nat.pow_add, show l + ((f - ↑l - min (e - ↑k) (f - ↑l)).toNat + t) = (f - b).toNat by omega]
end Go.Proofs.Ytkfahacnanlnfaa
