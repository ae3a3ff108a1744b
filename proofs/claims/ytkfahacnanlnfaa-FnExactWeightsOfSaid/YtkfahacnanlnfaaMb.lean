/- Plain laws of the floats: the bounds of sums, products and halves. No program in sight. -/
import Derived.Test.YtkfahacnanlnfaaMa
import Derived.Test.YtkfahacnanlnfaaQ
namespace Go.Proofs.Ytkfahacnanlnfaa
open Go.RowKit Ieee

theorem lim_add {a b : Nat} {K : Int} (ha : lim single K a) (hb : lim single K b) (h1 : -149 ≤ K) (h2 : K < 127) : lim single (K + 1) (op32 .add a b) ∧ floatBits .add .f32 a b = some (op32 .add a b) := by
  obtain ⟨s, m, e, ra, la⟩ := ha
  obtain ⟨t, n, f, rb, lb⟩ := hb
  have h : floatBits .add .f32 a b = some (single.write (.number (if signed s m (e - min e f).toNat + signed t n (f - min e f).toNat = 0 then s && t else signed s m (e - min e f).toNat + signed t n (f - min e f).toNat < 0) (signed s m (e - min e f).toNat + signed t n (f - min e f).toNat).natAbs (min e f))) := by
    show single.add a b = _
    unfold Format.add
    rw [ra, rb]
    rfl
  unfold op32
  rw [h]
  exact ⟨lim_write32 (le2_sum la lb) (by omega) (by omega), rfl⟩
theorem lim_sub {a b : Nat} {K : Int} (ha : lim single K a) (hb : lim single K b) (h1 : -149 ≤ K) (h2 : K < 127) : lim single (K + 1) (op32 .sub a b) ∧ floatBits .sub .f32 a b = some (op32 .sub a b) := by
  obtain ⟨s, m, e, ra, la⟩ := ha
  obtain ⟨t, n, f, rb, lb⟩ := hb
  have h : floatBits .sub .f32 a b = some (single.write (.number (if signed s m (e - min e f).toNat + signed (!t) n (f - min e f).toNat = 0 then s && !t else signed s m (e - min e f).toNat + signed (!t) n (f - min e f).toNat < 0) (signed s m (e - min e f).toNat + signed (!t) n (f - min e f).toNat).natAbs (min e f))) := by
    show single.sub a b = _
    unfold Format.sub
    rw [ra, rb]
    rfl
  unfold op32
  rw [h]
  exact ⟨lim_write32 (le2_sum la lb) (by omega) (by omega), rfl⟩
theorem lim_mul {a b : Nat} {K L : Int} (ha : lim single K a) (hb : lim single L b) (h1 : -149 ≤ K + L) (h2 : K + L ≤ 127) : lim single (K + L) (op32 .mul a b) ∧ floatBits .mul .f32 a b = some (op32 .mul a b) := by
  obtain ⟨s, m, e, ra, la⟩ := ha
  obtain ⟨t, n, f, rb, lb⟩ := hb
  have h : floatBits .mul .f32 a b = some (single.write (.number (s ^^ t) (m * n) (e + f))) := by
    show single.mul a b = _
    unfold Format.mul
    rw [ra, rb]
    rfl
  unfold op32
  rw [h]
  exact ⟨lim_write32 (la.mul lb) h1 h2, rfl⟩
theorem lim_cz {f : Nat} {K : Int} (h : lim single K f) : lim single K (cz f) := by
  obtain ⟨s, m, e, ra, la⟩ := h
  obtain ⟨s', h, _⟩ := read_cz ra
  exact ⟨s', m, e, h, la⟩
theorem two_read : single.read 1073741824 = .number false 8388608 (-22) := by decide +kernel
theorem one_read32 : single.read 1065353216 = .number false 8388608 (-23) := by decide +kernel
theorem lim_one : lim single 0 1065353216 := ⟨_, _, _, one_read32, 0, 23, by decide, by decide⟩
/-- Half a number. -/
theorem lim_half {a : Nat} {K : Int} (ha : lim single K a) (h1 : -148 ≤ K) (h2 : K ≤ 127) :
    lim single (K - 1) (op32 .quo a 1073741824) ∧ floatBits .quo .f32 a 1073741824 = some (op32 .quo a 1073741824) ∧ floatBits .quo .f32 (cz a) 1073741824 = some (op32 .quo (cz a) 1073741824) ∧ cz (op32 .quo a 1073741824) = cz (op32 .quo (cz a) 1073741824) := by
  have key : ∀ {b : Nat} {s m e}, single.read b = .number s m e → floatBits .quo .f32 b 1073741824 = some (single.write (.number s (2 * (m * 2 ^ (25 - m.log2 + 0))) (e + 22 - ((25 - m.log2 + 23 : Nat) : Int) - 1))) := by
    intro b s m e hb
    show single.div b 1073741824 = _
    unfold Format.div
    rw [hb, two_read]
    have fb : single.fractionBits = 23 := rfl
    have lg2 : (8388608 : Nat).log2 = 23 := by decide +kernel
    simp only [Datum.quotient, fb, lg2]
    rw [if_neg (by decide)]
    have hm : m.log2 ≤ 23 := by
      rcases Nat.eq_zero_or_pos m with h | h
      · subst h; decide
      · have := (Nat.log2_lt (Nat.ne_of_gt h)).2 (show m < 2 ^ 24 from (num32 hb).1); omega
    have e1 : 23 + 2 + 23 - m.log2 = 25 - m.log2 + 23 := by omega
    have e2 : m <<< (23 + 2 + 23 - m.log2) = m * 2 ^ (25 - m.log2) * 8388608 := by
      rw [e1, Nat.shiftLeft_eq, Nat.pow_add, Nat.mul_assoc]
    rw [e2, Nat.mul_div_cancel _ (by decide), Nat.mul_mod_left, e1]
    have e3 : ((0 : Nat) != 0).toNat = 0 := rfl
    rw [e3]
    simp only [Bool.xor_false, Nat.add_zero, Option.map_some]
    congr 3
  obtain ⟨s, m, e, ra, la⟩ := ha
  obtain ⟨s', rc, hs⟩ := read_cz ra
  have ka := key ra
  have kc := key rc
  have hm : m.log2 ≤ 23 := by
    rcases Nat.eq_zero_or_pos m with h | h
    · subst h; decide
    · have := (Nat.log2_lt (Nat.ne_of_gt h)).2 (show m < 2 ^ 24 from (num32 ra).1); omega
  unfold op32
  rw [ka, kc]
  refine ⟨lim_write32 ?_ (by omega) (by omega), rfl, rfl, ?_⟩
  · have h5 := (show le2 m (e - 1) (K - 1) from by
      obtain ⟨c, d, h1, h2⟩ := la
      exact ⟨c, d, by omega, h2⟩).shift (d := 25 - m.log2 + 1)
    rw [show 2 * (m * 2 ^ (25 - m.log2 + 0)) = m * 2 ^ (25 - m.log2 + 1) by rw [Nat.pow_succ, Nat.add_zero]; ac_rfl, show e + 22 - ((25 - m.log2 + 23 : Nat) : Int) - 1 = e - 1 - ((25 - m.log2 + 1 : Nat) : Int) by omega]
    exact h5
  · simp only [Option.getD_some]
    refine (like_write ?_).1
    rcases hs with rfl | rfl
    · exact .inr ⟨s, s', _, _, by rw [Nat.zero_mul], by rw [Nat.zero_mul]⟩
    · exact .inl rfl
/-- Whether a number is below zero. -/
theorem order_read {b m : Nat} {s : Bool} {e : Int} (h : single.read b = .number s m e) : single.order b 0 = some (if m = 0 then .eq else if s then .lt else .gt) := by
  have hz : single.read 0 = .number false 0 (-149) := by decide +kernel
  unfold Format.order
  rw [hz, h]
  simp only [Datum.order]
  have := num32 h
  have e1 : min e (-149) = -149 := by omega
  rw [e1, signed_zero]
  cases m with
  | zero => rw [signed_zero]; rfl
  | succ m =>
    have hp : 0 < 2 ^ (e - -149).toNat := Nat.two_pow_pos _
    have h0 : 0 < (m + 1) <<< (e - -149).toNat := by rw [Nat.shiftLeft_eq]; exact Nat.mul_pos (by omega) hp
    unfold signed
    rw [if_neg (Nat.succ_ne_zero m)]
    cases s
    · simp only [Bool.false_eq_true, if_false]
      have : compare (((m + 1) <<< (e - -149).toNat : Nat) : Int) 0 = .gt := cmp_gt (by omega)
      rw [this]
    · simp only [if_true]
      have : compare (-(((m + 1) <<< (e - -149).toNat : Nat) : Int)) 0 = .lt := cmp_lt (by omega)
      rw [this]
/-- A number that is not above 2 and not below 0 is at most 2. -/
theorem lim_two {c : Nat} (hf : fin32 c = true) (h0 : (single.order c 0 == some .lt) = false) (h2 : (single.order c 1073741824 == some .gt) = false) : lim single 1 c ∧ ∀ s m e, single.read c = .number s m e → s = true → m = 0 := by
  obtain ⟨s, m, e, hr⟩ := fin_iff.1 hf
  rw [order_read hr] at h0
  have hs : s = true → m = 0 := by
    rintro rfl
    by_cases hm : m = 0
    · exact hm
    · rw [if_neg hm] at h0; exact absurd h0 (by decide)
  refine ⟨⟨s, m, e, hr, ?_⟩, fun s' m' e' h => by rw [hr] at h; cases h; exact hs⟩
  by_cases hm : m = 0
  · subst hm; exact le2_zero _ _
  obtain rfl : s = false := by cases s; rfl; exact absurd (hs rfl) hm
  unfold Format.order at h2
  rw [hr, two_read] at h2
  simp only [Datum.order] at h2
  have hc : signed false m (e - min e (-22)).toNat ≤ signed false 8388608 (-22 - min e (-22)).toNat := by
    rcases Int.lt_or_le (signed false 8388608 (-22 - min e (-22)).toNat) (signed false m (e - min e (-22)).toNat) with h | h
    · rw [cmp_gt h] at h2; exact absurd h2 (by decide)
    · exact h
  unfold signed at hc
  simp only [Bool.false_eq_true, if_false, Nat.shiftLeft_eq, Int.ofNat_le] at hc
  refine ⟨(e - min e (-22)).toNat, 23 + (-22 - min e (-22)).toNat, by omega, ?_⟩
  rw [Nat.pow_add]
  exact hc
end Go.Proofs.Ytkfahacnanlnfaa
