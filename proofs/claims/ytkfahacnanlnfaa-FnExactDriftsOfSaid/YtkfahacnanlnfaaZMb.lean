/- Plain laws of the floats: bounds; a rounding does not pass a power of two. No program in sight. -/
/- Plain laws of the floats: the bounds of sums, products and halves. No program in sight. -/
import Derived.Test.YtkfahacnanlnfaaZRa
namespace Go.Proofs.Ytkfahacnanlnfaa
open Ieee

/-- m * 2^e is at most 2^K. -/
def le2 (m : Nat) (e K : Int) : Prop := ∃ a b : Nat, (a : Int) - b = e - K ∧ m * 2 ^ a ≤ 2 ^ b
theorem le2_at {m a b : Nat} {e K : Int} (h : le2 m e K) (hd : (a : Int) - b = e - K) : m * 2 ^ a ≤ 2 ^ b := by
  obtain ⟨c, d, h1, h2⟩ := h
  rcases Nat.le_total a c with h | h
  · obtain ⟨k, rfl⟩ := Nat.le.dest h
    have : d = b + k := by omega
    subst this
    rw [Nat.pow_add, Nat.pow_add, ← Nat.mul_assoc] at h2
    exact Nat.le_of_mul_le_mul_right h2 (Nat.two_pow_pos k)
  · obtain ⟨k, rfl⟩ := Nat.le.dest h
    have : b = d + k := by omega
    subst this
    rw [Nat.pow_add, Nat.pow_add, ← Nat.mul_assoc]
    exact Nat.mul_le_mul_right _ h2
theorem le2_zero (e K : Int) : le2 0 e K := ⟨(e - K).toNat, (K - e).toNat, by omega, by simp⟩
theorem le2.mono {m : Nat} {e K L : Int} (h : le2 m e K) (hKL : K ≤ L) : le2 m e L := by
  obtain ⟨c, d, h1, h2⟩ := h
  exact ⟨c, d + (L - K).toNat, by omega, Nat.le_trans h2 (Nat.pow_le_pow_right (by decide) (by omega))⟩
theorem le2.mul {m n : Nat} {e f K L : Int} (h : le2 m e K) (h' : le2 n f L) : le2 (m * n) (e + f) (K + L) := by
  obtain ⟨c, d, h1, h2⟩ := h
  obtain ⟨c', d', h1', h2'⟩ := h'
  refine ⟨c + c', d + d', by omega, ?_⟩
  rw [Nat.pow_add, Nat.pow_add, show m * n * (2 ^ c * 2 ^ c') = (m * 2 ^ c) * (n * 2 ^ c') by ac_rfl]
  exact Nat.mul_le_mul h2 h2'
theorem le2.shift {m d : Nat} {e K : Int} (h : le2 m e K) : le2 (m * 2 ^ d) (e - d) K := by
  obtain ⟨a, b, h1, h2⟩ := h
  refine ⟨a, b + d, by omega, ?_⟩
  rw [Nat.pow_add, Nat.mul_assoc, Nat.mul_comm (2 ^ d), ← Nat.mul_assoc]
  exact Nat.mul_le_mul_right _ h2
theorem le2.low {m n : Nat} {e K : Int} (h : le2 m e K) (hn : n ≤ m) : le2 n e K := by
  obtain ⟨a, b, h1, h2⟩ := h
  exact ⟨a, b, h1, Nat.le_trans (Nat.mul_le_mul_right _ hn) h2⟩
theorem signed_abs (s : Bool) (m k : Nat) : (signed s m k).natAbs = m * 2 ^ k := by
  unfold signed
  cases s <;> simp [Nat.shiftLeft_eq] <;> norm_cast
theorem le2_sum {s t : Bool} {m n : Nat} {e f K : Int} (h : le2 m e K) (h' : le2 n f K) :
    le2 (signed s m (e - min e f).toNat + signed t n (f - min e f).toNat).natAbs (min e f) (K + 1) := by
  have e1 := h.shift (d := (e - min e f).toNat)
  have e2 := h'.shift (d := (f - min e f).toNat)
  rw [show e - ((e - min e f).toNat : Int) = min e f by omega] at e1
  rw [show f - ((f - min e f).toNat : Int) = min e f by omega] at e2
  obtain ⟨a, b, hab, h1⟩ := e1
  have h2 := le2_at e2 hab
  refine le2.low (m := m * 2 ^ (e - min e f).toNat + n * 2 ^ (f - min e f).toNat) ⟨a, b + 1, by omega, ?_⟩ ?_
  · rw [Nat.add_mul, Nat.pow_succ]; omega
  · rw [← signed_abs s, ← signed_abs t]; omega

theorem cut_le {s : Bool} {m q d : Nat} (h : m ≤ q * 2 ^ d) : Toward.even.cut s m d ≤ q := by
  rcases Nat.lt_or_ge (m.log2 + 2) d with hd | hd
  · have h1 : m < 2 ^ (m.log2 + 1) := Nat.lt_log2_self
    unfold Toward.cut
    rw [Nat.min_eq_right (by omega)]
    simp only [Nat.one_shiftLeft]
    rw [Nat.div_eq_of_lt (Nat.lt_of_lt_of_le h1 (Nat.pow_le_pow_right (by decide) (by omega))), Nat.mod_eq_of_lt (Nat.lt_of_lt_of_le h1 (Nat.pow_le_pow_right (by decide) (by omega)))]
    have : ¬ 2 ^ (m.log2 + 2) < 2 * m := by rw [Nat.pow_succ]; omega
    simp [this]
  · rw [show Toward.even.cut s m d = Toward.even.cut false m d from rfl, cut_two m d hd]
    rcases Nat.lt_or_ge m (q * 2 ^ d) with h1 | h1
    · have h2 : m / 2 ^ d < q := (Nat.div_lt_iff_lt_mul (Nat.two_pow_pos d)).2 h1
      have h3 : ∀ b : Bool, b.toNat ≤ 1 := by decide
      have := h3 (decide (2 ^ d < 2 * (m % 2 ^ d)) || (2 ^ d == 2 * (m % 2 ^ d) && m / 2 ^ d % 2 == 1))
      omega
    · obtain rfl : m = q * 2 ^ d := Nat.le_antisymm h h1
      have hp := Nat.two_pow_pos d
      rw [Nat.mul_div_cancel _ hp, Nat.mul_mod_left]
      have e0 : (2 ^ d == 2 * 0) = false := by
        rw [Nat.mul_zero, beq_eq_false_iff_ne]; omega
      rw [e0]
      simp
theorem cut_ge {s : Bool} {m q d : Nat} (hd : d ≤ m.log2 + 2) (h : q * 2 ^ d ≤ m) : q ≤ Toward.even.cut s m d := by
  rw [show Toward.even.cut s m d = Toward.even.cut false m d from rfl, cut_two m d hd]
  exact Nat.le_trans ((Nat.le_div_iff_mul_le (Nat.two_pow_pos d)).2 h) (Nat.le_add_right _ _)
/-- What a rung reads as. -/
theorem rung_read (f : Format) (s : Bool) {g k : Nat} (h : k ≤ 2 * f.binade) (hg : g = 0 ∨ f.binade ≤ k) (hi : g * f.binade + k < f.infRung) :
    ∃ (m' d : Nat), f.read (f.word s (g * f.binade + k)) = .number s m' (f.leastPlace + d) ∧ m' * 2 ^ d = k * 2 ^ g := by
  have hp : 0 < f.binade := Nat.two_pow_pos _
  rw [read_word f s (Nat.lt_trans hi f.infRung_lt), if_pos hi]
  by_cases h0 : g * f.binade + k < f.binade
  · rw [if_pos h0]
    have g0 : g = 0 := by
      rcases hg with h | h
      · exact h
      · omega
    subst g0
    exact ⟨_, 0, by simp; rfl, by simp⟩
  · rw [if_neg h0]
    have hk : f.binade ≤ k := by
      rcases hg with rfl | h
      · omega
      · exact h
    rcases Nat.lt_or_ge k (2 * f.binade) with h2 | h2
    · refine ⟨_, _, rfl, ?_⟩
      have e1 : (g * f.binade + k) % f.binade = k - f.binade := by
        rw [show g * f.binade + k = (k - f.binade) + (g + 1) * f.binade by rw [Nat.add_mul]; omega, Nat.add_mul_mod_self_right, Nat.mod_eq_of_lt (by omega)]
      have e2 : (g * f.binade + k) / f.binade = g + 1 := by
        rw [show g * f.binade + k = (k - f.binade) + (g + 1) * f.binade by rw [Nat.add_mul]; omega, Nat.add_mul_div_right _ _ hp, Nat.div_eq_of_lt (by omega)]; omega
      rw [e1, e2]
      congr 1
      omega
    · obtain rfl : k = 2 * f.binade := Nat.le_antisymm h h2
      refine ⟨_, _, rfl, ?_⟩
      have e0 : g * f.binade + 2 * f.binade = (g + 2) * f.binade := by rw [Nat.add_mul]
      rw [e0, Nat.mul_mod_left, Nat.mul_div_cancel _ hp, show g + 2 - 1 = g + 1 by omega, Nat.pow_succ]
      ac_rfl
/-- A rounding does not pass a power of two. -/
theorem nearest_le (f : Format) {s : Bool} {m : Nat} {e K : Int} (h : le2 m e K) (h1 : f.leastPlace ≤ K) (h2 : 2 * f.binade < f.infRung) (h3 : ((K - f.leastPlace).toNat - f.fractionBits + 1) * f.binade < f.infRung) :
    ∃ m' e', f.read (f.nearest s m e) = .number s m' e' ∧ le2 m' e' K := by
  have hp : 0 < f.binade := Nat.two_pow_pos _
  by_cases hm : m = 0
  · subst hm
    refine ⟨0, f.leastPlace, ?_, le2_zero _ _⟩
    have : f.nearest s 0 e = f.word s 0 := by simp [Format.nearest]
    rw [this, read_word f s (Nat.two_pow_pos _), if_pos hp]
  obtain ⟨l1, l2⟩ := log2_bounds hm
  have hlK : e + m.log2 ≤ K := by
    rcases (by omega : K < e + m.log2 ∨ e + m.log2 ≤ K) with hx | hx
    · exfalso
      obtain ⟨a, b, hab, hle⟩ := h
      have : 2 ^ (m.log2 + a) ≤ 2 ^ b := by rw [Nat.pow_add]; exact Nat.le_trans (Nat.mul_le_mul_right _ l1) hle
      have : m.log2 + a ≤ b := (Nat.pow_le_pow_iff_right (by decide)).1 this
      omega
    · exact hx
  unfold Format.nearest
  rw [if_neg hm]
  dsimp only
  obtain ⟨last, hlast⟩ : ∃ l, max (e + (m.log2 : Int) - (f.fractionBits : Int)) f.leastPlace = l := ⟨_, rfl⟩
  rw [hlast]
  obtain ⟨g, hg⟩ : ∃ g, (last - f.leastPlace).toNat = g := ⟨_, rfl⟩
  rw [hg]
  obtain ⟨k, hk⟩ : ∃ k, Toward.even.cut s (m <<< (e - last).toNat) (last - e).toNat = k := ⟨_, rfl⟩
  rw [hk]
  rw [Nat.shiftLeft_eq] at hk
  have hB : f.binade = 2 ^ f.fractionBits := rfl
  -- what is kept
  have key : k ≤ 2 * f.binade ∧ (g = 0 ∨ f.binade ≤ k) ∧ k ≤ 2 ^ (K - last).toNat := by
    rcases Int.le_total last e with hle | hle
    · have e1 : (last - e).toNat = 0 := by omega
      rw [e1, cut_zero] at hk
      subst hk
      obtain ⟨a, ha⟩ : ∃ a, (e - last).toNat = a := ⟨_, rfl⟩
      rw [ha]
      refine ⟨?_, ?_, ?_⟩
      · rw [hB, ← Nat.pow_succ']
        have h5 : m * 2 ^ a ≤ 2 ^ (m.log2 + 1) * 2 ^ a := Nat.mul_le_mul_right _ (Nat.le_of_lt l2)
        rw [← Nat.pow_add] at h5
        exact Nat.le_trans h5 (Nat.pow_le_pow_right (by decide) (by omega))
      · rcases Nat.eq_zero_or_pos g with h6 | h6
        · exact .inl h6
        · refine .inr ?_
          have h5 : 2 ^ m.log2 * 2 ^ a ≤ m * 2 ^ a := Nat.mul_le_mul_right _ l1
          rw [← Nat.pow_add] at h5
          rw [hB]
          exact Nat.le_trans (Nat.pow_le_pow_right (by decide) (by omega)) h5
      · exact le2_at h (by omega)
    · have e1 : (e - last).toNat = 0 := by omega
      rw [e1, Nat.pow_zero, Nat.mul_one] at hk
      obtain ⟨d, hd⟩ : ∃ d, (last - e).toNat = d := ⟨_, rfl⟩
      rw [hd] at hk
      subst hk
      refine ⟨cut_le ?_, ?_, cut_le ?_⟩
      · rw [hB, ← Nat.pow_succ', ← Nat.pow_add]
        exact Nat.le_trans (Nat.le_of_lt l2) (Nat.pow_le_pow_right (by decide) (by omega))
      · rcases Nat.eq_zero_or_pos g with h6 | h6
        · exact .inl h6
        · refine .inr (cut_ge (by omega) ?_)
          rw [hB, ← Nat.pow_add]
          exact Nat.le_trans (Nat.pow_le_pow_right (by decide) (by omega)) l1
      · rw [← Nat.pow_add]
        have := le2_at (a := 0) (b := (K - last).toNat + d) h (by omega)
        simpa using this
  obtain ⟨k1, k2, k3⟩ := key
  have hT : k * 2 ^ g ≤ 2 ^ (K - f.leastPlace).toNat := by
    have : (K - f.leastPlace).toNat = (K - last).toNat + g := by omega
    rw [this, Nat.pow_add]
    exact Nat.mul_le_mul_right _ k3
  obtain ⟨T, hTT⟩ : ∃ T, (K - f.leastPlace).toNat = T := ⟨_, rfl⟩
  rw [hTT] at hT h3
  have hi : g * f.binade + k < f.infRung := by
    rcases k2 with rfl | k2
    · omega
    · have h5 : 2 ^ (f.fractionBits + g) ≤ 2 ^ T := by rw [Nat.pow_add]; exact Nat.le_trans (Nat.mul_le_mul_right _ k2) hT
      have h6 : f.fractionBits + g ≤ T := (Nat.pow_le_pow_iff_right (by decide)).1 h5
      refine Nat.lt_of_le_of_lt ?_ h3
      rcases Nat.lt_or_ge (f.fractionBits + g) T with h7 | h7
      · have : (g + 2) * f.binade ≤ (T - f.fractionBits + 1) * f.binade := Nat.mul_le_mul_right _ (by omega)
        rw [Nat.add_mul] at this
        omega
      · have h8 : k ≤ f.binade := by
          rw [show T = f.fractionBits + g by omega, Nat.pow_add] at hT
          exact Nat.le_of_mul_le_mul_right hT (Nat.two_pow_pos g)
        rw [show T - f.fractionBits + 1 = g + 1 by omega, Nat.add_mul]
        omega
  rw [Nat.min_eq_left (Nat.le_of_lt hi)]
  obtain ⟨m', d, hr, hv⟩ := rung_read f s k1 k2 hi
  refine ⟨m', _, hr, d, T, by omega, ?_⟩
  rw [hv]
  exact hT

/-- A number of at most 2^K. -/
def lim (f : Format) (K : Int) (x : Nat) : Prop := ∃ s m e, f.read x = .number s m e ∧ le2 m e K
theorem lim.mono {f : Format} {K L : Int} {x : Nat} (h : lim f K x) (hKL : K ≤ L) : lim f L x := by
  obtain ⟨s, m, e, h1, h2⟩ := h
  exact ⟨s, m, e, h1, h2.mono hKL⟩
theorem lim.fin {f : Format} {K : Int} {x : Nat} (h : lim f K x) : fin f x = true := by
  obtain ⟨s, m, e, h1, h2⟩ := h
  exact fin_iff.2 ⟨s, m, e, h1⟩
theorem lim_write32 {s : Bool} {m : Nat} {e K : Int} (h : le2 m e K) (h1 : -149 ≤ K) (h2 : K ≤ 127) : lim single K (single.write (.number s m e)) := by
  obtain ⟨m', e', hr, hl⟩ := nearest_le single (s := s) h (by rw [s_least]; exact h1) (by rw [s_bin, s_inf]; omega) (by
    rw [s_bin, s_inf, s_least]
    have : single.fractionBits = 23 := rfl
    rw [this]
    omega)
  exact ⟨s, m', e', hr, hl⟩
theorem lim_write64 {s : Bool} {m : Nat} {e K : Int} (h : le2 m e K) (h1 : -1074 ≤ K) (h2 : K ≤ 1023) : lim double K (double.write (.number s m e)) := by
  obtain ⟨m', e', hr, hl⟩ := nearest_le double (s := s) h (by rw [d_least]; exact h1) (by rw [d_bin, d_inf]; omega) (by
    rw [d_bin, d_inf, d_least]
    have : double.fractionBits = 52 := rfl
    rw [this]
    omega)
  exact ⟨s, m', e', hr, hl⟩
end Go.Proofs.Ytkfahacnanlnfaa
namespace Go.Proofs.Ytkfahacnanlnfaa
open Go.RowKit Ieee

theorem lim_add {a b : Nat} {K : Int} (ha : lim single K a) (hb : lim single K b) (h1 : -149 ≤ K) (h2 : K < 127) : lim single (K + 1) (op32 .add a b) ∧ floatBits .add .f32 a b = some (op32 .add a b) := by
  obtain ⟨s, m, e, ra, la⟩ := ha
  obtain ⟨t, n, f, rb, lb⟩ := hb
  have h : floatBits .add .f32 a b = some (single.write (.number (if signed s m (e - min e f).toNat + signed t n (f - min e f).toNat = 0 then s && t else signed s m (e - min e f).toNat + signed t n (f - min e f).toNat < 0) (signed s m (e - min e f).toNat + signed t n (f - min e f).toNat).natAbs (min e f))) := by
    show single.add a b = _
    unfold Format.add
    rw [ra, rb]
    rfl
  unfold op32
  rw [h]
  exact ⟨lim_write32 (le2_sum la lb) (by omega) (by omega), rfl⟩
theorem lim_sub {a b : Nat} {K : Int} (ha : lim single K a) (hb : lim single K b) (h1 : -149 ≤ K) (h2 : K < 127) : lim single (K + 1) (op32 .sub a b) ∧ floatBits .sub .f32 a b = some (op32 .sub a b) := by
  obtain ⟨s, m, e, ra, la⟩ := ha
  obtain ⟨t, n, f, rb, lb⟩ := hb
  have h : floatBits .sub .f32 a b = some (single.write (.number (if signed s m (e - min e f).toNat + signed (!t) n (f - min e f).toNat = 0 then s && !t else signed s m (e - min e f).toNat + signed (!t) n (f - min e f).toNat < 0) (signed s m (e - min e f).toNat + signed (!t) n (f - min e f).toNat).natAbs (min e f))) := by
    show single.sub a b = _
    unfold Format.sub
    rw [ra, rb]
    rfl
  unfold op32
  rw [h]
  exact ⟨lim_write32 (le2_sum la lb) (by omega) (by omega), rfl⟩
theorem lim_mul {a b : Nat} {K L : Int} (ha : lim single K a) (hb : lim single L b) (h1 : -149 ≤ K + L) (h2 : K + L ≤ 127) : lim single (K + L) (op32 .mul a b) ∧ floatBits .mul .f32 a b = some (op32 .mul a b) := by
  obtain ⟨s, m, e, ra, la⟩ := ha
  obtain ⟨t, n, f, rb, lb⟩ := hb
  have h : floatBits .mul .f32 a b = some (single.write (.number (s ^^ t) (m * n) (e + f))) := by
    show single.mul a b = _
    unfold Format.mul
    rw [ra, rb]
    rfl
  unfold op32
  rw [h]
  exact ⟨lim_write32 (la.mul lb) h1 h2, rfl⟩
theorem lim_cz {f : Nat} {K : Int} (h : lim single K f) : lim single K (cz f) := by
  obtain ⟨s, m, e, ra, la⟩ := h
  obtain ⟨s', h, _⟩ := read_cz ra
  exact ⟨s', m, e, h, la⟩
theorem two_read : single.read 1073741824 = .number false 8388608 (-22) := by decide +kernel
theorem one_read32 : single.read 1065353216 = .number false 8388608 (-23) := by decide +kernel
theorem lim_one : lim single 0 1065353216 := ⟨_, _, _, one_read32, 0, 23, by decide, by decide⟩
/-- Half a number. -/
theorem lim_half {a : Nat} {K : Int} (ha : lim single K a) (h1 : -148 ≤ K) (h2 : K ≤ 127) :
    lim single (K - 1) (op32 .quo a 1073741824) ∧ floatBits .quo .f32 a 1073741824 = some (op32 .quo a 1073741824) ∧ floatBits .quo .f32 (cz a) 1073741824 = some (op32 .quo (cz a) 1073741824) ∧ cz (op32 .quo a 1073741824) = cz (op32 .quo (cz a) 1073741824) := by
  have key : ∀ {b : Nat} {s m e}, single.read b = .number s m e → floatBits .quo .f32 b 1073741824 = some (single.write (.number s (2 * (m * 2 ^ (25 - m.log2 + 0))) (e + 22 - ((25 - m.log2 + 23 : Nat) : Int) - 1))) := by
    intro b s m e hb
    show single.div b 1073741824 = _
    unfold Format.div
    rw [hb, two_read]
    have fb : single.fractionBits = 23 := rfl
    have lg2 : (8388608 : Nat).log2 = 23 := by decide +kernel
    simp only [Datum.quotient, fb, lg2]
    rw [if_neg (by decide)]
    have hm : m.log2 ≤ 23 := by
      rcases Nat.eq_zero_or_pos m with h | h
      · subst h; decide
      · have := (Nat.log2_lt (Nat.ne_of_gt h)).2 (show m < 2 ^ 24 from (num32 hb).1); omega
    have e1 : 23 + 2 + 23 - m.log2 = 25 - m.log2 + 23 := by omega
    have e2 : m <<< (23 + 2 + 23 - m.log2) = m * 2 ^ (25 - m.log2) * 8388608 := by
      rw [e1, Nat.shiftLeft_eq, Nat.pow_add, Nat.mul_assoc]
    rw [e2, Nat.mul_div_cancel _ (by decide), Nat.mul_mod_left, e1]
    have e3 : ((0 : Nat) != 0).toNat = 0 := rfl
    rw [e3]
    simp only [Bool.xor_false, Nat.add_zero, Option.map_some]
    congr 3
  obtain ⟨s, m, e, ra, la⟩ := ha
  obtain ⟨s', rc, hs⟩ := read_cz ra
  have ka := key ra
  have kc := key rc
  have hm : m.log2 ≤ 23 := by
    rcases Nat.eq_zero_or_pos m with h | h
    · subst h; decide
    · have := (Nat.log2_lt (Nat.ne_of_gt h)).2 (show m < 2 ^ 24 from (num32 ra).1); omega
  unfold op32
  rw [ka, kc]
  refine ⟨lim_write32 ?_ (by omega) (by omega), rfl, rfl, ?_⟩
  · have h5 := (show le2 m (e - 1) (K - 1) from by
      obtain ⟨c, d, h1, h2⟩ := la
      exact ⟨c, d, by omega, h2⟩).shift (d := 25 - m.log2 + 1)
    rw [show 2 * (m * 2 ^ (25 - m.log2 + 0)) = m * 2 ^ (25 - m.log2 + 1) by rw [Nat.pow_succ, Nat.add_zero]; ac_rfl, show e + 22 - ((25 - m.log2 + 23 : Nat) : Int) - 1 = e - 1 - ((25 - m.log2 + 1 : Nat) : Int) by omega]
    exact h5
  · simp only [Option.getD_some]
    refine (like_write ?_).1
    rcases hs with rfl | rfl
    · exact .inr ⟨s, s', _, _, by rw [Nat.zero_mul], by rw [Nat.zero_mul]⟩
    · exact .inl rfl
/-- Whether a number is below zero. -/
theorem order_read {b m : Nat} {s : Bool} {e : Int} (h : single.read b = .number s m e) : single.order b 0 = some (if m = 0 then .eq else if s then .lt else .gt) := by
  have hz : single.read 0 = .number false 0 (-149) := by decide +kernel
  unfold Format.order
  rw [hz, h]
  simp only [Datum.order]
  have := num32 h
  have e1 : min e (-149) = -149 := by omega
  rw [e1, signed_zero]
  cases m with
  | zero => rw [signed_zero]; rfl
  | succ m =>
    have hp : 0 < 2 ^ (e - -149).toNat := Nat.two_pow_pos _
    have h0 : 0 < (m + 1) <<< (e - -149).toNat := by rw [Nat.shiftLeft_eq]; exact Nat.mul_pos (by omega) hp
    unfold signed
    rw [if_neg (Nat.succ_ne_zero m)]
    cases s
    · simp only [Bool.false_eq_true, if_false]
      have : compare (((m + 1) <<< (e - -149).toNat : Nat) : Int) 0 = .gt := cmp_gt (by omega)
      rw [this]
    · simp only [if_true]
      have : compare (-(((m + 1) <<< (e - -149).toNat : Nat) : Int)) 0 = .lt := cmp_lt (by omega)
      rw [this]
/-- A number that is not above 2 and not below 0 is at most 2. -/
theorem lim_two {c : Nat} (hf : fin32 c = true) (h0 : (single.order c 0 == some .lt) = false) (h2 : (single.order c 1073741824 == some .gt) = false) : lim single 1 c ∧ ∀ s m e, single.read c = .number s m e → s = true → m = 0 := by
  obtain ⟨s, m, e, hr⟩ := fin_iff.1 hf
  rw [order_read hr] at h0
  have hs : s = true → m = 0 := by
    rintro rfl
    by_cases hm : m = 0
    · exact hm
    · rw [if_neg hm] at h0; exact absurd h0 (by decide)
  refine ⟨⟨s, m, e, hr, ?_⟩, fun s' m' e' h => by rw [hr] at h; cases h; exact hs⟩
  by_cases hm : m = 0
  · subst hm; exact le2_zero _ _
  obtain rfl : s = false := by cases s; rfl; exact absurd (hs rfl) hm
  unfold Format.order at h2
  rw [hr, two_read] at h2
  simp only [Datum.order] at h2
  have hc : signed false m (e - min e (-22)).toNat ≤ signed false 8388608 (-22 - min e (-22)).toNat := by
    rcases Int.lt_or_le (signed false 8388608 (-22 - min e (-22)).toNat) (signed false m (e - min e (-22)).toNat) with h | h
    · rw [cmp_gt h] at h2; exact absurd h2 (by decide)
    · exact h
  unfold signed at hc
  simp only [Bool.false_eq_true, if_false, Nat.shiftLeft_eq, Int.ofNat_le] at hc
  refine ⟨(e - min e (-22)).toNat, 23 + (-22 - min e (-22)).toNat, by omega, ?_⟩
  rw [Nat.pow_add]
  exact hc
end Go.Proofs.Ytkfahacnanlnfaa
