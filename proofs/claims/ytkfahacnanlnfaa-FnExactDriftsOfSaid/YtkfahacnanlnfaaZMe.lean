/- Tables: bounds; the reference's product and its pulses. -/
/- Plain laws of the floats: quotients; the root from below; parts of a renewed table. No program in sight. -/
/- Plain laws of the floats: the parts of a renewed table are at most 2. No program in sight. -/
import Derived.Test.YtkfahacnanlnfaaZC
import Derived.Test.YtkfahacnanlnfaaZEd
import Derived.Test.YtkfahacnanlnfaaZWc
import Derived.Test.YtkfahacnanlnfaaZEg
namespace Go.Proofs.Ytkfahacnanlnfaa
open Go.RowKit Ieee

def limT (K : Int) (t : T8) : Prop := two K t.a t.b ∧ two K t.c t.d ∧ two K t.e t.f ∧ two K t.g t.h
def purT (t : T8) : Prop := rowOk t.a t.b t.c t.d ∧ rowOk t.e t.f t.g t.h
def tmT (x y : T8) : T8 := ⟨eRe x.a x.b y.a y.b x.c x.d y.e y.f, eIm x.a x.b y.a y.b x.c x.d y.e y.f, eRe x.a x.b y.c y.d x.c x.d y.g y.h, eIm x.a x.b y.c y.d x.c x.d y.g y.h,
  eRe x.e x.f y.a y.b x.g x.h y.e y.f, eIm x.e x.f y.a y.b x.g x.h y.e y.f, eRe x.e x.f y.c y.d x.g x.h y.g y.h, eIm x.e x.f y.c y.d x.g x.h y.g y.h⟩
theorem two.mono {K L : Int} {a b : Nat} (h : two K a b) (hK : K ≤ L) : two L a b := ⟨h.1.mono hK, h.2.mono hK⟩
theorem limT.mono {K L : Int} {t : T8} (h : limT K t) (hK : K ≤ L) : limT L t := ⟨h.1.mono hK, h.2.1.mono hK, h.2.2.1.mono hK, h.2.2.2.mono hK⟩
theorem tmT_lim {x y : T8} {K : Int} (hx : purT x) (hy : limT K y) (h1 : -149 ≤ K) (h2 : K < 125) : limT (K + 1) (tmT x y) :=
  ⟨ent_ok hx.1 hy.1 hy.2.2.1 h1 h2, ent_ok hx.1 hy.2.1 hy.2.2.2 h1 h2, ent_ok hx.2 hy.1 hy.2.2.1 h1 h2, ent_ok hx.2 hy.2.1 hy.2.2.2 h1 h2⟩
theorem entOk_of {a b c d p q r s : Nat} {K : Int} (h : rowOk a b p q) (h' : two K c d) (g' : two K r s) (h1 : -149 ≤ K) (h2 : K < 125) : EntOk a b c d p q r s (eRe a b c d p q r s) (eIm a b c d p q r s) := by
  obtain ⟨m1, ⟨l1, l2⟩, _⟩ := mul_ok h.1 h' h1 (by omega)
  obtain ⟨m2, ⟨l3, l4⟩, _⟩ := mul_ok h.2.1 g' h1 (by omega)
  exact ⟨_, _, _, _, fun w => l01Times_any a b c d w h.1.1.fin h.1.2.fin h'.1.fin h'.2.fin (lim_ng h.1.2).fin m1, fun w => l01Times_any p q r s w h.2.1.1.fin h.2.1.2.fin g'.1.fin g'.2.fin (lim_ng h.2.1.2).fin m2,
    fun w => l01Add_any _ _ _ _ w l1.fin l2.fin l3.fin l4.fin⟩
theorem l03Times_any {K : Int} (x y : T8) (w : World) (hx : purT x) (hy : limT K y) (h1 : -149 ≤ K) (h2 : K < 125) : Calls Try.prog 95 #[x.val, y.val] w (MadeT (tmT x y) w) :=
  times_walk x y (tmT x y) w (entOk_of hx.1 hy.1 hy.2.2.1 h1 h2) (entOk_of hx.1 hy.2.1 hy.2.2.2 h1 h2) (entOk_of hx.2 hy.1 hy.2.2.1 h1 h2) (entOk_of hx.2 hy.2.1 hy.2.2.2 h1 h2)
/-- The table of a pulse. -/
def plT (p : Pl.Pu) : T8 := if p.b then adjT (about p.a (hv p.h.toNat).1 (hv p.h.toNat).2) else about p.a (hv p.h.toNat).1 (hv p.h.toNat).2
theorem zr0 : zr single 0 := zr_of (show single.read 0 = .number false 0 (-149) by decide +kernel)
theorem lim0 {K : Int} : lim single K 0 := ⟨false, 0, -149, by decide +kernel, le2_zero _ _⟩
theorem about_pur (axis : Int) {c s : Nat} (hc : lim single 0 c) (hs : lim single 0 s) : purT (about axis c s) ∧ purT (adjT (about axis c s)) := by
  have z := zr0
  have nz := zr_ng zr0
  have nnz := zr_ng (zr_ng zr0)
  have l0 : lim single 0 0 := lim0
  have ln := lim_ng l0
  have lnn := lim_ng ln
  have hn := lim_ng hs
  have hnn := lim_ng hn
  unfold about
  split
  · exact ⟨⟨⟨⟨hc, ln⟩, ⟨ln, hn⟩, .inl ⟨.inr nz, .inl nz⟩⟩, ⟨⟨l0, hn⟩, ⟨hc, l0⟩, .inl ⟨.inl z, .inr z⟩⟩⟩,
      ⟨⟨⟨hc, lnn⟩, ⟨l0, hnn⟩, .inl ⟨.inr nnz, .inl z⟩⟩, ⟨⟨ln, hnn⟩, ⟨hc, ln⟩, .inl ⟨.inl nz, .inr nz⟩⟩⟩⟩
  · split
    · exact ⟨⟨⟨⟨hc, ln⟩, ⟨hn, ln⟩, .inl ⟨.inr nz, .inr nz⟩⟩, ⟨⟨hs, ln⟩, ⟨hc, l0⟩, .inl ⟨.inr nz, .inr z⟩⟩⟩,
        ⟨⟨⟨hc, lnn⟩, ⟨hs, lnn⟩, .inl ⟨.inr nnz, .inr nnz⟩⟩, ⟨⟨hn, lnn⟩, ⟨hc, ln⟩, .inl ⟨.inr nnz, .inr nz⟩⟩⟩⟩
    · exact ⟨⟨⟨⟨hc, hn⟩, ⟨ln, ln⟩, .inr (.inl ⟨nz, nz⟩)⟩, ⟨⟨l0, ln⟩, ⟨hc, hs⟩, .inr (.inr ⟨z, nz⟩)⟩⟩,
        ⟨⟨⟨hc, hnn⟩, ⟨l0, lnn⟩, .inr (.inl ⟨z, nnz⟩)⟩, ⟨⟨ln, lnn⟩, ⟨hc, hn⟩, .inr (.inr ⟨nz, nnz⟩)⟩⟩⟩
theorem plT_pur (p : Pl.Pu) (h : p.h.toNat ≤ 24) : purT (plT p) := by
  obtain ⟨⟨_, _, hc⟩, ⟨_, _, hs⟩⟩ := hv_ok _ h
  unfold plT
  split
  · exact (about_pur p.a hc hs).2
  · exact (about_pur p.a hc hs).1
end Go.Proofs.Ytkfahacnanlnfaa
namespace Go.Proofs.Ytkfahacnanlnfaa
open Go.RowKit Ieee

/-- A quotient's bound. -/
theorem le2_quo {m N : Nat} {i j K J : Int} (hm : m ≠ 0) (hN : N ≠ 0) (h : le2 m i K) (h' : ge2 N j J) (more : Nat) (hmore : 25 + N.log2 = m.log2 + more) :
    le2 (2 * (m <<< more / N) + (m <<< more % N != 0).toNat) (i - j - more - 1) (K - J) := by
  obtain ⟨a1, b1, e1, h1⟩ := h
  obtain ⟨a2, b2, e2, h2⟩ := h'
  rw [Nat.shiftLeft_eq]
  obtain ⟨D, hD⟩ : ∃ D, m * 2 ^ more = D := ⟨_, rfl⟩
  rw [hD]
  have hND : N ≤ D := by
    obtain ⟨l1, _⟩ := log2_bounds hm
    obtain ⟨_, l4⟩ := log2_bounds hN
    have : 2 ^ (m.log2 + more) ≤ D := by rw [← hD, Nat.pow_add]; exact Nat.mul_le_mul_right _ l1
    rw [← hmore] at this
    have h5 : 2 ^ (N.log2 + 1) ≤ 2 ^ (25 + N.log2) := Nat.pow_le_pow_right (by decide) (by omega)
    omega
  have key : D * 2 ^ (a1 + b2) ≤ N * 2 ^ (b1 + more + a2) := by
    have h5 : m * 2 ^ a1 * 2 ^ b2 ≤ 2 ^ b1 * (N * 2 ^ a2) := Nat.mul_le_mul h1 h2
    have h6 := Nat.mul_le_mul_right (2 ^ more) h5
    rw [← hD, Nat.pow_add, Nat.pow_add, Nat.pow_add]
    calc m * 2 ^ more * (2 ^ a1 * 2 ^ b2) = m * 2 ^ a1 * 2 ^ b2 * 2 ^ more := by ac_rfl
      _ ≤ 2 ^ b1 * (N * 2 ^ a2) * 2 ^ more := h6
      _ = N * (2 ^ b1 * 2 ^ more * 2 ^ a2) := by ac_rfl
  have hAB : a1 + b2 ≤ b1 + more + a2 := by
    have : N * 2 ^ (a1 + b2) ≤ N * 2 ^ (b1 + more + a2) := Nat.le_trans (Nat.mul_le_mul_right _ hND) key
    exact (Nat.pow_le_pow_iff_right (by decide)).1 (Nat.le_of_mul_le_mul_left this (by omega))
  obtain ⟨T, hT⟩ : ∃ T, b1 + more + a2 = a1 + b2 + T := ⟨b1 + more + a2 - (a1 + b2), by omega⟩
  have e5 : N * 2 ^ (a1 + b2 + T) = N * 2 ^ T * 2 ^ (a1 + b2) := by rw [Nat.pow_add 2 (a1 + b2) T]; ac_rfl
  rw [hT, e5] at key
  have key := Nat.le_of_mul_le_mul_right key (Nat.two_pow_pos _)
  refine ⟨0, T + 1, by omega, ?_⟩
  rw [Nat.pow_zero, Nat.mul_one, Nat.pow_succ]
  have hNp : 0 < N := by omega
  by_cases hr : D % N = 0
  · have h0 : (D % N != 0).toNat = 0 := by rw [hr]; rfl
    rw [h0]
    have : D / N ≤ 2 ^ T := by
      rw [Nat.div_le_iff_le_mul hNp]
      rw [Nat.mul_comm] at key
      omega
    omega
  · have h0 : (D % N != 0).toNat = 1 := by
      have : (D % N != 0) = true := by simpa using hr
      rw [this]; rfl
    rw [h0]
    have hlt : D < N * 2 ^ T := by
      rcases Nat.lt_or_ge D (N * 2 ^ T) with h | h
      · exact h
      · exfalso
        have : D = N * 2 ^ T := Nat.le_antisymm key h
        rw [this, Nat.mul_mod_right] at hr
        exact hr rfl
    have : D / N < 2 ^ T := by
      rw [Nat.div_lt_iff_lt_mul hNp, Nat.mul_comm]
      exact hlt
    omega
theorem log_lt24 {x m : Nat} {s : Bool} {e : Int} (h : single.read x = .number s m e) : m.log2 ≤ 23 := by
  rcases Nat.eq_zero_or_pos m with h0 | h0
  · subst h0; decide
  · have := (Nat.log2_lt (Nat.ne_of_gt h0)).2 (show m < 2 ^ 24 from (num32 h).1); omega
/-- A quotient of numbers. -/
theorem quo_ok {x n m N : Nat} {s : Bool} {i j K J : Int} (hx : single.read x = .number s m i) (hn : single.read n = .number false N j) (hN : N ≠ 0) (h : le2 m i K) (h' : ge2 N j J) (h1 : -149 ≤ K - J) (h2 : K - J ≤ 127) :
    floatBits .quo .f32 x n = some (op32 .quo x n) ∧ lim single (K - J) (op32 .quo x n) ∧ ∀ y, lk single x y → floatBits .quo .f32 y n = some (op32 .quo y n) ∧ lk single (op32 .quo x n) (op32 .quo y n) := by
  have key : ∀ {b : Nat} {s : Bool}, single.read b = .number s m i → floatBits .quo .f32 b n = some (single.write (.number s (2 * (m <<< (25 + N.log2 - m.log2) / N) + (m <<< (25 + N.log2 - m.log2) % N != 0).toNat) (i - j - ((25 + N.log2 - m.log2 : Nat) : Int) - 1))) := by
    intro b s hb
    show single.div b n = _
    unfold Format.div
    rw [hb, hn]
    have fb : single.fractionBits = 23 := rfl
    simp only [Datum.quotient, fb]
    rw [if_neg hN]
    simp only [Bool.xor_false, Option.map_some]
  have hl := log_lt24 hx
  have hb : le2 (2 * (m <<< (25 + N.log2 - m.log2) / N) + (m <<< (25 + N.log2 - m.log2) % N != 0).toNat) (i - j - ((25 + N.log2 - m.log2 : Nat) : Int) - 1) (K - J) := by
    by_cases hm : m = 0
    · subst hm
      rw [Nat.zero_shiftLeft, Nat.zero_div, Nat.zero_mod]
      exact le2_zero _ _
    · exact le2_quo hm hN h h' _ (by omega)
  have kx := key hx
  unfold op32
  rw [kx]
  refine ⟨rfl, lim_write32 hb h1 h2, fun y hy => ?_⟩
  obtain ⟨s', hr', hs⟩ := hy.read hx
  rw [key hr']
  simp only [Option.getD_some]
  refine ⟨trivial, lk_write ?_⟩
  rcases hs with rfl | rfl
  · exact .inr ⟨s, s', _, _, by rw [Nat.zero_shiftLeft, Nat.zero_div, Nat.zero_mod]; rfl, by rw [Nat.zero_shiftLeft, Nat.zero_div, Nat.zero_mod]; rfl⟩
  · exact .inl rfl
/-- The root from below. -/
theorem rtv_ge {x m : Nat} {e J : Int} (hx : single.read x = .number false m e) (hm : m ≠ 0) (h : ge2 m e (2 * J)) (h1 : -149 ≤ J) : ∃ m' e', single.read (rtv x) = .number false m' e' ∧ m' ≠ 0 ∧ ge2 m' e' J := by
  obtain ⟨k, n, r, hF, hr⟩ := frame_ex hm (num32 hx).1 e
  obtain ⟨hw, _, k1, k2, v1, v2, v3⟩ := rtv_is hx hm hF hr
  obtain ⟨t, ht, rfl, n1, n2⟩ := hF
  have hJ : J + k ≤ 24 := by
    rcases (by omega : J + k ≤ 24 ∨ 25 ≤ J + k) with h5 | h5
    · exact h5
    · exfalso
      have h6 := ge2_at (a := t) (b := (2 * J + 2 * k).toNat) h (by omega)
      have h7 : 2 ^ 50 ≤ 2 ^ (2 * J + 2 * k).toNat := Nat.pow_le_pow_right (by decide) (by omega)
      omega
  rw [hw]
  generalize evenOf (m * 2 ^ t) r = v at *
  have hi : (150 - k).toNat * single.binade + v / 2 < single.infRung := by rw [s_bin, s_inf]; omega
  obtain ⟨m', d, hr', hv⟩ := rung_read single false (g := (150 - k).toNat) (k := v / 2) (by rw [s_bin]; omega) (.inr (by rw [s_bin]; omega)) hi
  have hwd : single.word false ((150 - k).toNat * single.binade + v / 2) = rootW k v := by rw [s_bin]; rfl
  rw [hwd] at hr'
  have hg : ge2 m' (single.leastPlace + d) J := by
    refine ⟨d, (J + 149).toNat, by rw [s_least]; omega, ?_⟩
    rw [hv]
    have h8 : 2 ^ (J + 149).toNat ≤ 2 ^ 23 * 2 ^ (150 - k).toNat := by rw [← Nat.pow_add]; exact Nat.pow_le_pow_right (by decide) (by omega)
    exact Nat.le_trans h8 (Nat.mul_le_mul_right _ (by omega))
  exact ⟨m', _, hr', ge2_pos hg, hg⟩
end Go.Proofs.Ytkfahacnanlnfaa
namespace Go.Proofs.Ytkfahacnanlnfaa
open Go.RowKit Ieee

/-- Not below 0, and at most 2^K. -/
def NN (f : Format) (K : Int) (x : Nat) : Prop := ∃ m e, f.read x = .number false m e ∧ le2 m e K
/-- At least 2^J. -/
def GE (f : Format) (J : Int) (x : Nat) : Prop := ∃ m e, f.read x = .number false m e ∧ ge2 m e J
/-- Of a magnitude of at least 2^J. -/
def MG (f : Format) (J : Int) (x : Nat) : Prop := ∃ s m e, f.read x = .number s m e ∧ ge2 m e J
theorem NN.lim {f : Format} {K : Int} {x : Nat} (h : NN f K x) : lim f K x := by
  obtain ⟨m, e, h1, h2⟩ := h; exact ⟨false, m, e, h1, h2⟩
theorem write32_both {s : Bool} {m : Nat} {e K : Int} (h : le2 m e K) (h1 : -149 ≤ K) (h2 : K ≤ 127) : ∃ m' e', single.read (single.write (.number s m e)) = .number s m' e' ∧ le2 m' e' K ∧ ∀ J, -149 ≤ J → ge2 m e J → ge2 m' e' J := by
  obtain ⟨m', e', hr, hl, hg⟩ := nearest_both single (s := s) h (by rw [s_least]; exact h1) (by rw [s_bin, s_inf]; omega) (by
    rw [s_bin, s_inf, s_least]
    have : single.fractionBits = 23 := rfl
    rw [this]
    omega)
  exact ⟨m', e', hr, hl, fun J hJ => hg J (by rw [s_least]; exact hJ)⟩
theorem write64_both {s : Bool} {m : Nat} {e K : Int} (h : le2 m e K) (h1 : -1074 ≤ K) (h2 : K ≤ 1023) : ∃ m' e', double.read (double.write (.number s m e)) = .number s m' e' ∧ le2 m' e' K ∧ ∀ J, -1074 ≤ J → ge2 m e J → ge2 m' e' J := by
  obtain ⟨m', e', hr, hl, hg⟩ := nearest_both double (s := s) h (by rw [d_least]; exact h1) (by rw [d_bin, d_inf]; omega) (by
    rw [d_bin, d_inf, d_least]
    have : double.fractionBits = 52 := rfl
    rw [this]
    omega)
  exact ⟨m', e', hr, hl, fun J hJ => hg J (by rw [d_least]; exact hJ)⟩
theorem ge2.mul {m n : Nat} {e f K L : Int} (h : ge2 m e K) (h' : ge2 n f L) : ge2 (m * n) (e + f) (K + L) := by
  obtain ⟨c, d, h1, h2⟩ := h
  obtain ⟨c', d', h1', h2'⟩ := h'
  refine ⟨c + c', d + d', by omega, ?_⟩
  rw [Nat.pow_add, Nat.pow_add, show m * n * (2 ^ c * 2 ^ c') = (m * 2 ^ c) * (n * 2 ^ c') by ac_rfl]
  exact Nat.mul_le_mul h2 h2'
theorem ge2.shift {m d : Nat} {e K : Int} (h : ge2 m e K) : ge2 (m * 2 ^ d) (e - d) K := by
  obtain ⟨a, b, h1, h2⟩ := h
  refine ⟨a, b + d, by omega, ?_⟩
  rw [Nat.pow_add, Nat.mul_assoc, Nat.mul_comm (2 ^ d), ← Nat.mul_assoc]
  exact Nat.mul_le_mul_right _ h2
theorem ge2.up {m n : Nat} {e K : Int} (h : ge2 m e K) (hn : m ≤ n) : ge2 n e K := by
  obtain ⟨a, b, h1, h2⟩ := h
  exact ⟨a, b, h1, Nat.le_trans h2 (Nat.mul_le_mul_right _ hn)⟩
theorem MG_wide {a : Nat} {J : Int} (h : MG single J a) : MG double J (wide a) := by
  obtain ⟨s, m, e, hr, hg⟩ := h
  obtain ⟨k, _, hr', _⟩ := (wide_num hr).2.2 (ge2_pos hg)
  exact ⟨s, _, _, hr', hg.shift⟩
/-- A square. -/
theorem sq_nn {x : Nat} {K : Int} (h : lim double K x) (h1 : -1074 ≤ K + K) (h2 : K + K ≤ 1023) : NN double (K + K) (dm x x) ∧ ∀ J, -1074 ≤ J + J → MG double J x → GE double (J + J) (dm x x) := by
  obtain ⟨s, m, e, ra, la⟩ := h
  have h : double.mul x x = some (double.write (.number (s ^^ s) (m * m) (e + e))) := by
    unfold Format.mul
    rw [ra]
    rfl
  have hs : (s ^^ s) = false := by cases s <;> rfl
  rw [hs] at h
  obtain ⟨m', e', hr, hl, hg⟩ := write64_both (s := false) (la.mul la) h1 h2
  have e1 : dm x x = double.write (.number false (m * m) (e + e)) := by unfold dm; rw [h]; rfl
  rw [e1]
  refine ⟨⟨m', e', hr, hl⟩, fun J hJ ⟨s2, m2, e2, hr2, hg2⟩ => ⟨m', e', hr, hg _ hJ ?_⟩⟩
  rw [ra] at hr2
  injection hr2 with _ p q
  rw [p, q]
  exact hg2.mul hg2
theorem signed_false (m k : Nat) : signed false m k = ((m * 2 ^ k : Nat) : Int) := by
  unfold signed; simp [Nat.shiftLeft_eq]
theorem sum_nn {m n : Nat} {e f K : Int} (la : le2 m e K) (lb : le2 n f K) : ∃ M E, Datum.sum (.number false m e) (.number false n f) = some (.number false M E) ∧ le2 M E (K + 1) ∧ ∀ J, ge2 m e J ∨ ge2 n f J → ge2 M E J := by
  refine ⟨m * 2 ^ (e - min e f).toNat + n * 2 ^ (f - min e f).toNat, min e f, ?_, ?_, fun J hJ => ?_⟩
  · unfold Datum.sum
    simp only [signed_false]
    rw [← Int.natCast_add, Int.natAbs_natCast]
    generalize m * 2 ^ (e - min e f).toNat + n * 2 ^ (f - min e f).toNat = T
    have h0 : decide ((T : Int) < 0) = false := by simp
    rw [h0]
    by_cases hT : (T : Int) = 0
    · rw [if_pos hT]; rfl
    · rw [if_neg hT]
  · have := le2_sum (s := false) (t := false) la lb
    rw [signed_false, signed_false, ← Int.natCast_add, Int.natAbs_natCast] at this
    exact this
  · rcases hJ with h | h
    · have h5 := h.shift (d := (e - min e f).toNat)
      rw [show e - ((e - min e f).toNat : Int) = min e f by omega] at h5
      exact h5.up (Nat.le_add_right _ _)
    · have h5 := h.shift (d := (f - min e f).toNat)
      rw [show f - ((f - min e f).toNat : Int) = min e f by omega] at h5
      exact h5.up (Nat.le_add_left _ _)
theorem da_nn {x y : Nat} {K : Int} (hx : NN double K x) (hy : NN double K y) (h1 : -1074 ≤ K) (h2 : K < 1023) : NN double (K + 1) (da x y) ∧ ∀ J, -1074 ≤ J → GE double J x ∨ GE double J y → GE double J (da x y) := by
  obtain ⟨m, e, ra, la⟩ := hx
  obtain ⟨n, f, rb, lb⟩ := hy
  obtain ⟨M, E, hs, hl, hg⟩ := sum_nn la lb
  have h : double.add x y = some (double.write (.number false M E)) := by
    unfold Format.add
    rw [ra, rb, hs]
    rfl
  obtain ⟨m', e', hr, hl', hg'⟩ := write64_both (s := false) hl (by omega) (by omega)
  have e1 : da x y = double.write (.number false M E) := by unfold da; rw [h]; rfl
  rw [e1]
  refine ⟨⟨m', e', hr, hl'⟩, fun J hJ hxy => ⟨m', e', hr, hg' J hJ (hg J ?_)⟩⟩
  rcases hxy with ⟨m2, e2, h3, h4⟩ | ⟨m2, e2, h3, h4⟩
  · rw [ra] at h3; injection h3 with _ p q; rw [p, q]; exact .inl h4
  · rw [rb] at h3; injection h3 with _ p q; rw [p, q]; exact .inr h4
theorem add_nn {x y : Nat} {K : Int} (hx : NN single K x) (hy : NN single K y) (h1 : -149 ≤ K) (h2 : K < 127) : NN single (K + 1) (op32 .add x y) ∧ ∀ J, -149 ≤ J → GE single J x ∨ GE single J y → GE single J (op32 .add x y) := by
  obtain ⟨m, e, ra, la⟩ := hx
  obtain ⟨n, f, rb, lb⟩ := hy
  obtain ⟨M, E, hs, hl, hg⟩ := sum_nn la lb
  have h : floatBits .add .f32 x y = some (single.write (.number false M E)) := by
    show single.add x y = _
    unfold Format.add
    rw [ra, rb, hs]
    rfl
  obtain ⟨m', e', hr, hl', hg'⟩ := write32_both (s := false) hl (by omega) (by omega)
  have e1 : op32 .add x y = single.write (.number false M E) := by unfold op32; rw [h]; rfl
  rw [e1]
  refine ⟨⟨m', e', hr, hl'⟩, fun J hJ hxy => ⟨m', e', hr, hg' J hJ (hg J ?_)⟩⟩
  rcases hxy with ⟨m2, e2, h3, h4⟩ | ⟨m2, e2, h3, h4⟩
  · rw [ra] at h3; injection h3 with _ p q; rw [p, q]; exact .inl h4
  · rw [rb] at h3; injection h3 with _ p q; rw [p, q]; exact .inr h4
theorem nw_nn {v : Nat} {K : Int} (hv : NN double K v) (h1 : -149 ≤ K) (h2 : K ≤ 127) : NN single K (nw v) ∧ ∀ J, -149 ≤ J → GE double J v → GE single J (nw v) := by
  obtain ⟨m, e, hr, hl⟩ := hv
  obtain ⟨m', e', hr', hl', hg'⟩ := write32_both (s := false) hl h1 h2
  rw [(nw_num hr hl h1 h2).2.1]
  refine ⟨⟨m', e', hr', hl'⟩, fun J hJ ⟨m2, e2, h3, h4⟩ => ⟨m', e', hr', hg' J hJ ?_⟩⟩
  rw [hr] at h3; injection h3 with _ p q; rw [p, q]; exact h4
/-- The square of a complex number. -/
theorem sqr_nn {a b : Nat} {K : Int} (h : two K a b) (h1 : -74 ≤ K) (h2 : K ≤ 62) : NN single (K + K + 1) (exV a a b b) ∧ ∀ J, -149 ≤ J + J → MG single J a ∨ MG single J b → GE single (J + J) (exV a a b b) := by
  obtain ⟨s1, g1⟩ := sq_nn (lim_wide h.1) (by omega) (by omega)
  obtain ⟨s2, g2⟩ := sq_nn (lim_wide h.2) (by omega) (by omega)
  obtain ⟨s3, g3⟩ := da_nn s1 s2 (by omega) (by omega)
  obtain ⟨s4, g4⟩ := nw_nn s3 (by omega) (by omega)
  exact ⟨s4, fun J hJ hab => g4 _ hJ (g3 _ (by omega) (hab.imp (fun h => g1 J (by omega) (MG_wide h)) (fun h => g2 J (by omega) (MG_wide h))))⟩
def rq (a b c d : Nat) : Nat := op32 .add (exV a a b b) (exV c c d d)
theorem rq_nn {a b c d : Nat} {K : Int} (h : two K a b) (h' : two K c d) (h1 : -74 ≤ K) (h2 : K ≤ 62) : NN single (K + K + 2) (rq a b c d) ∧ ∀ J, -149 ≤ J + J → (MG single J a ∨ MG single J b) ∨ (MG single J c ∨ MG single J d) → GE single (J + J) (rq a b c d) := by
  obtain ⟨s1, g1⟩ := sqr_nn h h1 h2
  obtain ⟨s2, g2⟩ := sqr_nn h' h1 h2
  obtain ⟨s3, g3⟩ := add_nn s1 s2 (by omega) (by omega)
  have e1 : K + K + 1 + 1 = K + K + 2 := by omega
  rw [e1] at s3
  exact ⟨s3, fun J hJ hab => g3 _ hJ (hab.imp (g1 J hJ) (g2 J hJ))⟩
theorem root0_pos {x m : Nat} {e : Int} (h : single.read x = .number false m e) (hm : m ≠ 0) : root0 x = rtv x := by
  unfold root0
  rw [h]
  cases m with
  | zero => exact absurd rfl hm
  | succ m => rfl
/-- What dividing by the root does. -/
def PartOk (n x : Nat) : Prop := floatBits .quo .f32 x n = some (op32 .quo x n) ∧ lim single 1 (op32 .quo x n) ∧ ∀ y, lk single x y → floatBits .quo .f32 y n = some (op32 .quo y n) ∧ lk single (op32 .quo x n) (op32 .quo y n)
theorem part_ok {q x : Nat} {K : Int} (hx : lim single K x) (hq : ∃ m e, single.read q = .number false m e ∧ m ≠ 0) (hg : ∀ J, -149 ≤ J + J → MG single J x → GE single (J + J) q) : PartOk (rtv q) x := by
  obtain ⟨mq, eq, hqr, hq0⟩ := hq
  have hqe := (num32 hqr).2.1
  have gq : ge2 mq eq (2 * (-75)) := ⟨(eq + 150).toNat, 0, by omega, by
    have := Nat.two_pow_pos (eq + 150).toNat
    exact Nat.le_trans (show 2 ^ 0 ≤ 1 * 1 by decide) (Nat.mul_le_mul (by omega) this)⟩
  obtain ⟨s, m, e, hr, _⟩ := hx
  have he := (num32 hr).2.1
  by_cases hm : m = 0
  · subst hm
    obtain ⟨N, j, hN, hN0, hJ⟩ := rtv_ge hqr hq0 gq (by decide)
    obtain ⟨r1, r2, r3⟩ := quo_ok (K := -74) hr hN hN0 (le2_zero _ _) hJ (by decide) (by decide)
    exact ⟨r1, r2.mono (by decide), r3⟩
  · obtain ⟨l1, l2⟩ := log2_bounds hm
    have lx : le2 m e (m.log2 + e + 1) := ⟨0, m.log2 + 1, by omega, by rw [Nat.pow_zero, Nat.mul_one]; exact Nat.le_of_lt l2⟩
    have gx : ge2 m e (m.log2 + e) := ⟨0, m.log2, by omega, by rw [Nat.pow_zero, Nat.mul_one]; exact l1⟩
    have hl := log_lt24 hr
    have he2 := (num32 hr).2.2.1
    rcases (by omega : -149 ≤ (m.log2 + e) + (m.log2 + e) ∨ (m.log2 + e) + 1 + 75 ≤ (1 : Int)) with hc | hc
    · obtain ⟨m2, e2, h3, h4⟩ := hg (m.log2 + e) hc ⟨s, m, e, hr, gx⟩
      rw [hqr] at h3
      injection h3 with _ p q
      rw [← p, ← q, show (m.log2 : Int) + e + (m.log2 + e) = 2 * (m.log2 + e) by omega] at h4
      obtain ⟨N, j, hN, hN0, hJ⟩ := rtv_ge hqr hq0 h4 (by omega)
      obtain ⟨r1, r2, r3⟩ := quo_ok hr hN hN0 lx hJ (by omega) (by omega)
      exact ⟨r1, r2.mono (by omega), r3⟩
    · obtain ⟨N, j, hN, hN0, hJ⟩ := rtv_ge hqr hq0 gq (by decide)
      obtain ⟨r1, r2, r3⟩ := quo_ok hr hN hN0 lx hJ (by omega) (by omega)
      exact ⟨r1, r2.mono (by omega), r3⟩
/-- The root of a table's row is 0, or the parts are numbers when divided by it. -/
theorem renew_parts {a b c d : Nat} {K : Int} (h : two K a b) (h' : two K c d) (h1 : -74 ≤ K) (h2 : K ≤ 62) :
    lim single (K + K + 2) (rq a b c d) ∧ ((root0 (rq a b c d) = 0 ∧ zr single (rq a b c d)) ∨ (root0 (rq a b c d) = rtv (rq a b c d) ∧ (∃ m e, single.read (rq a b c d) = .number false m e ∧ m ≠ 0) ∧ PartOk (rtv (rq a b c d)) a ∧ PartOk (rtv (rq a b c d)) b ∧ PartOk (rtv (rq a b c d)) c ∧ PartOk (rtv (rq a b c d)) d)) := by
  obtain ⟨n1, g1⟩ := rq_nn h h' h1 h2
  refine ⟨n1.lim, ?_⟩
  obtain ⟨m, e, hr, hl⟩ := n1
  by_cases hm : m = 0
  · subst hm
    exact .inl ⟨by unfold root0; rw [hr], zr_of hr⟩
  · have hq : ∃ m e, single.read (rq a b c d) = .number false m e ∧ m ≠ 0 := ⟨m, e, hr, hm⟩
    exact .inr ⟨root0_pos hr hm, hq, part_ok h.1 hq (fun J hJ hx => g1 J hJ (.inl (.inl hx))), part_ok h.2 hq (fun J hJ hx => g1 J hJ (.inl (.inr hx))),
      part_ok h'.1 hq (fun J hJ hx => g1 J hJ (.inr (.inl hx))), part_ok h'.2 hq (fun J hJ hx => g1 J hJ (.inr (.inr hx)))⟩
end Go.Proofs.Ytkfahacnanlnfaa
