/- Plain laws of the floats: a number kept as it is; widening a float32. No program in sight. -/
import Derived.Test.YtkfahacnanlnfaaP
namespace Go.Proofs.Ytkfahacnanlnfaa
open Ieee

theorem cut_zero (s : Bool) (n : Nat) : Toward.even.cut s n 0 = n := by
  unfold Toward.cut
  simp [Nat.shiftLeft_eq, Nat.mod_one]

theorem log2_bounds {m : Nat} (hm : m ≠ 0) : 2 ^ m.log2 ≤ m ∧ m < 2 ^ (m.log2 + 1) := ⟨Nat.log2_self_le hm, Nat.lt_log2_self⟩

/-- A number that the format has is written as it is. -/
theorem nearest_exact (f : Format) (s : Bool) (m : Nat) (e : Int) (k : Nat) (hm : m ≠ 0) (hk : m.log2 + k = f.fractionBits) (hlo : f.leastPlace ≤ e - k)
    (hhi : ((e - k - f.leastPlace).toNat + 2) * f.binade ≤ f.infRung) :
    f.nearest s m e = f.word s ((e - k - f.leastPlace).toNat * f.binade + m * 2 ^ k) ∧ f.read (f.nearest s m e) = .number s (m * 2 ^ k) (e - k) ∧ f.binade ≤ m * 2 ^ k ∧ m * 2 ^ k < 2 * f.binade := by
  obtain ⟨l1, l2⟩ := log2_bounds hm
  have hb : f.binade = 2 ^ m.log2 * 2 ^ k := by unfold Format.binade; rw [← hk, Nat.pow_add]
  have hp : 0 < 2 ^ k := Nat.two_pow_pos k
  have h1 : f.binade ≤ m * 2 ^ k := by rw [hb]; exact Nat.mul_le_mul_right _ l1
  have h2 : m * 2 ^ k < 2 * f.binade := by
    rw [hb, ← Nat.mul_assoc]
    have : m < 2 * 2 ^ m.log2 := by rw [Nat.pow_succ] at l2; omega
    exact Nat.mul_lt_mul_of_pos_right this hp
  have hmax : max (e + (m.log2 : Int) - (f.fractionBits : Int)) f.leastPlace = e - k := by omega
  have hw : f.nearest s m e = f.word s ((e - k - f.leastPlace).toNat * f.binade + m * 2 ^ k) := by
    unfold Format.nearest
    rw [if_neg hm]
    dsimp only
    rw [hmax]
    have e1 : (e - (e - (k : Int))).toNat = k := by omega
    have e2 : (e - (k : Int) - e).toNat = 0 := by omega
    rw [e1, e2, cut_zero, Nat.shiftLeft_eq]
    congr 1
    rw [Nat.min_eq_left]
    rw [Nat.add_mul] at hhi
    omega
  refine ⟨hw, ?_, h1, h2⟩
  obtain ⟨g, hg⟩ : ∃ g, (e - k - f.leastPlace).toNat = g := ⟨_, rfl⟩
  have hlt : g * f.binade + m * 2 ^ k < f.infRung := by rw [hg, Nat.add_mul] at hhi; omega
  have hbp : 0 < f.binade := Nat.two_pow_pos _
  obtain ⟨x, hx⟩ : ∃ x, m * 2 ^ k = f.binade + x := ⟨m * 2 ^ k - f.binade, by omega⟩
  have hxb : x < f.binade := by omega
  rw [hw, hg, read_word f s (Nat.lt_of_lt_of_le hlt (Nat.le_of_lt f.infRung_lt)), if_neg (by rw [hx]; omega), if_pos hlt]
  have e3 : (g * f.binade + m * 2 ^ k) % f.binade = x := by
    rw [hx, ← Nat.add_assoc, Nat.add_comm (g * f.binade), Nat.add_assoc, Nat.add_mod_left, Nat.mul_comm g, Nat.mul_add_mod, Nat.mod_eq_of_lt hxb]
  have e4 : (g * f.binade + m * 2 ^ k) / f.binade = g + 1 := by
    rw [hx, show g * f.binade + (f.binade + x) = f.binade * (g + 1) + x by rw [Nat.mul_add, Nat.mul_one, Nat.mul_comm g]; omega, Nat.mul_add_div hbp, Nat.div_eq_of_lt hxb]
  rw [e3, e4, ← hx]
  congr 1
  omega

def wide (b : Nat) : Nat := (floatToFloatBits .f32 b .f64).getD 0
theorem wide_num {b : Nat} {s : Bool} {m : Nat} {e : Int} (h : single.read b = .number s m e) :
    floatToFloatBits .f32 b .f64 = some (wide b) ∧ (m = 0 → double.read (wide b) = .number s 0 (-1074)) ∧
    (m ≠ 0 → ∃ k : Nat, k ≤ 52 ∧ double.read (wide b) = .number s (m * 2 ^ k) (e - k) ∧ 4503599627370496 ≤ m * 2 ^ k ∧ m * 2 ^ k < 9007199254740992) := by
  obtain ⟨h1, h2, h3, h4⟩ := num32 h
  have hd : FloatKind.decode .f32 b = .number s m e := h
  have hne : FloatKind.f32 ≠ FloatKind.f64 := by decide
  by_cases hm : m = 0
  · subst hm
    have hw : double.nearest s 0 e = double.word s 0 := write_zero double s e
    have hr : double.read (double.nearest s 0 e) = .number s 0 (-1074) := by
      rw [hw, read_word double s (by rw [d_sign]; omega), if_pos (by rw [d_bin]; omega), d_least]
    have hv : floatToFloatBits .f32 b .f64 = some (double.nearest s 0 e) := by
      unfold floatToFloatBits
      rw [if_neg hne, hd]
      simp only
      have : (FloatKind.decode .f64 (FloatKind.encode .f64 (.number s 0 e))).isInfinity = false := by
        show (double.read (double.nearest s 0 e)).isInfinity = false
        rw [hr]; rfl
      rw [this]; rfl
    unfold wide
    rw [hv]
    exact ⟨rfl, fun _ => hr, fun h => absurd rfl h⟩
  · have hl : m.log2 < 24 := (Nat.log2_lt hm).2 h1
    obtain ⟨k, hk⟩ : ∃ k, m.log2 + k = 52 := ⟨52 - m.log2, by omega⟩
    obtain ⟨_, hr, b1, b2⟩ := nearest_exact double s m e k hm hk (by rw [d_least]; omega) (by rw [d_least, d_bin, d_inf]; omega)
    rw [d_bin] at b1 b2
    have hv : floatToFloatBits .f32 b .f64 = some (double.nearest s m e) := by
      unfold floatToFloatBits
      rw [if_neg hne, hd]
      simp only
      have : (FloatKind.decode .f64 (FloatKind.encode .f64 (.number s m e))).isInfinity = false := by
        show (double.read (double.nearest s m e)).isInfinity = false
        rw [hr]; rfl
      rw [this]; rfl
    unfold wide
    rw [hv]
    exact ⟨rfl, fun h => absurd h hm, fun _ => ⟨k, by omega, hr, b1, by omega⟩⟩
theorem wide_inf {b : Nat} {s : Bool} (h : single.read b = .infinity s) : floatToFloatBits .f32 b .f64 = some (wide b) ∧ double.read (wide b) = .infinity s := by
  have hd : FloatKind.decode .f32 b = .infinity s := h
  have hne : FloatKind.f32 ≠ FloatKind.f64 := by decide
  have hv : floatToFloatBits .f32 b .f64 = some (double.write (.infinity s)) := by
    unfold floatToFloatBits
    rw [if_neg hne, hd]; rfl
  unfold wide
  rw [hv]
  exact ⟨rfl, read_inf double s (by rw [d_inf, d_bin]; omega)⟩

theorem cmp_le {a b : Int} (h : a ≤ b) : compare a b ≠ .gt := by
  simp only [compare, compareOfLessAndEq]
  by_cases h1 : a < b
  · rw [if_pos h1]; exact nofun
  · rw [if_neg h1, if_pos (by omega)]; exact nofun
theorem cmp_gt {a b : Int} (h : b < a) : compare a b = .gt := by
  simp only [compare, compareOfLessAndEq]
  rw [if_neg (by omega), if_neg (by omega)]
theorem cmp_lt {a b : Int} (h : a < b) : compare a b = .lt := by
  simp only [compare, compareOfLessAndEq]
  rw [if_pos h]
theorem order_self {f : Format} {b : Nat} (h : ∀ s t, f.read b ≠ .nan s t) : f.order b b = some .eq := by
  unfold Format.order
  cases hr : f.read b with
  | number s m e => simp [Datum.order]
  | infinity s => simp [Datum.order]
  | nan s t => exact absurd hr (h s t)
theorem order_nan {f : Format} {a b : Nat} (h : (∃ s t, f.read a = .nan s t) ∨ ∃ s t, f.read b = .nan s t) : f.order a b = none := by
  unfold Format.order
  rcases h with ⟨s, t, h⟩ | ⟨s, t, h⟩ <;> rw [h]
  · cases f.read b <;> rfl
  · cases f.read a <;> rfl
/-- Whether a word is a zero. -/
theorem order_zero (b : Nat) : (single.order b 0 == some .eq) = (match single.read b with | .number _ 0 _ => true | _ => false) := by
  have hz : single.read 0 = .number false 0 (-149) := by decide +kernel
  unfold Format.order
  rw [hz]
  cases hr : single.read b with
  | number s m e =>
    simp only [Datum.order]
    have := num32 hr
    have e1 : min e (-149) = -149 := by omega
    rw [e1, signed_zero]
    cases m with
    | zero => rw [signed_zero]; rfl
    | succ m =>
      have hp : 0 < 2 ^ (e - -149).toNat := Nat.two_pow_pos _
      have h0 : 0 < (m + 1) <<< (e - -149).toNat := by rw [Nat.shiftLeft_eq]; exact Nat.mul_pos (by omega) hp
      unfold signed
      cases s
      · simp only [Bool.false_eq_true, if_false]
        have : compare (((m + 1) <<< (e - -149).toNat : Nat) : Int) 0 = .gt := cmp_gt (by omega)
        rw [this]; rfl
      · simp only [if_true]
        have : compare (-(((m + 1) <<< (e - -149).toNat : Nat) : Int)) 0 = .lt := cmp_lt (by omega)
        rw [this]; rfl
  | infinity s => cases s <;> rfl
  | nan s t => rfl
theorem cz_eq (b : Nat) : cz b = if (single.order b 0 == some .eq) = true then 0 else b := by
  rw [order_zero]
  unfold cz
  cases single.read b with
  | number s m e => cases m <;> rfl
  | infinity s => rfl
  | nan s t => rfl
/-- The same word without its sign. -/
theorem read_abs (b : Nat) : double.read (b % 9223372036854775808) = match double.read b with | .number _ m e => .number false m e | .infinity _ => .infinity false | .nan _ t => .nan false t := by
  unfold Format.read
  simp only [d_sign, d_bin, d_inf, d_least, Nat.mod_mod]
  have e1 : b % 9223372036854775808 / 9223372036854775808 = 0 := Nat.div_eq_of_lt (Nat.mod_lt _ (by omega))
  rw [e1]
  split
  · rfl
  · split
    · rfl
    · split <;> rfl
theorem max_read : double.read 9218868437227405311 = .number false 9007199254740991 971 := by decide +kernel
theorem not_above {b m : Nat} {s : Bool} {e : Int} (h : double.read b = .number s m e) (hm : m < 9007199254740992) (he : e ≤ 971) : (double.order b 9218868437227405311 == some .gt) = false := by
  unfold Format.order
  rw [h, max_read]
  simp only [Datum.order]
  have e1 : min e 971 = e := by omega
  rw [e1]
  have e2 : (e - e).toNat = 0 := by omega
  rw [e2]
  obtain ⟨k, hk⟩ : ∃ k, (971 - e).toNat = k := ⟨_, rfl⟩
  rw [hk]
  have hp : 1 ≤ 2 ^ k := Nat.two_pow_pos k
  have hb : 9007199254740991 ≤ 9007199254740991 <<< k := by rw [Nat.shiftLeft_eq]; omega
  unfold signed
  simp only [Bool.false_eq_true, if_false, Nat.shiftLeft_zero]
  have : compare (if s = true then -(m : Int) else (m : Int)) ((9007199254740991 <<< k : Nat) : Int) ≠ .gt := by
    refine cmp_le ?_
    obtain ⟨X, hX⟩ : ∃ X : Nat, 9007199254740991 <<< k = X := ⟨_, rfl⟩
    rw [hX] at hb ⊢
    split <;> omega
  cases hc : compare (if s = true then -(m : Int) else (m : Int)) ((9007199254740991 <<< k : Nat) : Int) <;> simp_all
theorem above_inf {b : Nat} (h : double.read b = .infinity false) : (double.order b 9218868437227405311 == some .gt) = true := by
  unfold Format.order
  rw [h, max_read]; rfl
end Go.Proofs.Ytkfahacnanlnfaa
