/- Tables: bounds; the reference's product and its pulses. -/
/- Plain laws of the floats: quotients; the root from below; parts of a renewed table. No program in sight. -/
import Derived.Test.YtkfahacnanlnfaaZC
import Derived.Test.YtkfahacnanlnfaaZMc
import Derived.Test.YtkfahacnanlnfaaZEg
namespace Go.Proofs.Ytkfahacnanlnfaa
open Go.RowKit Ieee

def limT (K : Int) (t : T8) : Prop := two K t.a t.b ∧ two K t.c t.d ∧ two K t.e t.f ∧ two K t.g t.h
def purT (t : T8) : Prop := rowOk t.a t.b t.c t.d ∧ rowOk t.e t.f t.g t.h
def tmT (x y : T8) : T8 := ⟨eRe x.a x.b y.a y.b x.c x.d y.e y.f, eIm x.a x.b y.a y.b x.c x.d y.e y.f, eRe x.a x.b y.c y.d x.c x.d y.g y.h, eIm x.a x.b y.c y.d x.c x.d y.g y.h,
  eRe x.e x.f y.a y.b x.g x.h y.e y.f, eIm x.e x.f y.a y.b x.g x.h y.e y.f, eRe x.e x.f y.c y.d x.g x.h y.g y.h, eIm x.e x.f y.c y.d x.g x.h y.g y.h⟩
theorem two.mono {K L : Int} {a b : Nat} (h : two K a b) (hK : K ≤ L) : two L a b := ⟨h.1.mono hK, h.2.mono hK⟩
theorem limT.mono {K L : Int} {t : T8} (h : limT K t) (hK : K ≤ L) : limT L t := ⟨h.1.mono hK, h.2.1.mono hK, h.2.2.1.mono hK, h.2.2.2.mono hK⟩
theorem tmT_lim {x y : T8} {K : Int} (hx : purT x) (hy : limT K y) (h1 : -149 ≤ K) (h2 : K < 125) : limT (K + 1) (tmT x y) :=
  ⟨ent_ok hx.1 hy.1 hy.2.2.1 h1 h2, ent_ok hx.1 hy.2.1 hy.2.2.2 h1 h2, ent_ok hx.2 hy.1 hy.2.2.1 h1 h2, ent_ok hx.2 hy.2.1 hy.2.2.2 h1 h2⟩
theorem entOk_of {a b c d p q r s : Nat} {K : Int} (h : rowOk a b p q) (h' : two K c d) (g' : two K r s) (h1 : -149 ≤ K) (h2 : K < 125) : EntOk a b c d p q r s (eRe a b c d p q r s) (eIm a b c d p q r s) := by
  obtain ⟨m1, ⟨l1, l2⟩, _⟩ := mul_ok h.1 h' h1 (by omega)
  obtain ⟨m2, ⟨l3, l4⟩, _⟩ := mul_ok h.2.1 g' h1 (by omega)
  exact ⟨_, _, _, _, fun w => l01Times_any a b c d w h.1.1.fin h.1.2.fin h'.1.fin h'.2.fin (lim_ng h.1.2).fin m1, fun w => l01Times_any p q r s w h.2.1.1.fin h.2.1.2.fin g'.1.fin g'.2.fin (lim_ng h.2.1.2).fin m2,
    fun w => l01Add_any _ _ _ _ w l1.fin l2.fin l3.fin l4.fin⟩
theorem l03Times_any {K : Int} (x y : T8) (w : World) (hx : purT x) (hy : limT K y) (h1 : -149 ≤ K) (h2 : K < 125) : Calls Try.prog 95 #[x.val, y.val] w (MadeT (tmT x y) w) :=
  times_walk x y (tmT x y) w (entOk_of hx.1 hy.1 hy.2.2.1 h1 h2) (entOk_of hx.1 hy.2.1 hy.2.2.2 h1 h2) (entOk_of hx.2 hy.1 hy.2.2.1 h1 h2) (entOk_of hx.2 hy.2.1 hy.2.2.2 h1 h2)
/-- The table of a pulse. -/
def plT (p : Pl.Pu) : T8 := if p.b then adjT (about p.a (hv p.h.toNat).1 (hv p.h.toNat).2) else about p.a (hv p.h.toNat).1 (hv p.h.toNat).2
theorem zr0 : zr single 0 := zr_of (show single.read 0 = .number false 0 (-149) by decide +kernel)
theorem lim0 {K : Int} : lim single K 0 := ⟨false, 0, -149, by decide +kernel, le2_zero _ _⟩
theorem about_pur (axis : Int) {c s : Nat} (hc : lim single 0 c) (hs : lim single 0 s) : purT (about axis c s) ∧ purT (adjT (about axis c s)) := by
  have z := zr0
  have nz := zr_ng zr0
  have nnz := zr_ng (zr_ng zr0)
  have l0 : lim single 0 0 := lim0
  have ln := lim_ng l0
  have lnn := lim_ng ln
  have hn := lim_ng hs
  have hnn := lim_ng hn
  unfold about
  split
  · exact ⟨⟨⟨⟨hc, ln⟩, ⟨ln, hn⟩, .inl ⟨.inr nz, .inl nz⟩⟩, ⟨⟨l0, hn⟩, ⟨hc, l0⟩, .inl ⟨.inl z, .inr z⟩⟩⟩,
      ⟨⟨⟨hc, lnn⟩, ⟨l0, hnn⟩, .inl ⟨.inr nnz, .inl z⟩⟩, ⟨⟨ln, hnn⟩, ⟨hc, ln⟩, .inl ⟨.inl nz, .inr nz⟩⟩⟩⟩
  · split
    · exact ⟨⟨⟨⟨hc, ln⟩, ⟨hn, ln⟩, .inl ⟨.inr nz, .inr nz⟩⟩, ⟨⟨hs, ln⟩, ⟨hc, l0⟩, .inl ⟨.inr nz, .inr z⟩⟩⟩,
        ⟨⟨⟨hc, lnn⟩, ⟨hs, lnn⟩, .inl ⟨.inr nnz, .inr nnz⟩⟩, ⟨⟨hn, lnn⟩, ⟨hc, ln⟩, .inl ⟨.inr nnz, .inr nz⟩⟩⟩⟩
    · exact ⟨⟨⟨⟨hc, hn⟩, ⟨ln, ln⟩, .inr (.inl ⟨nz, nz⟩)⟩, ⟨⟨l0, ln⟩, ⟨hc, hs⟩, .inr (.inr ⟨z, nz⟩)⟩⟩,
        ⟨⟨⟨hc, hnn⟩, ⟨l0, lnn⟩, .inr (.inl ⟨z, nnz⟩)⟩, ⟨⟨ln, lnn⟩, ⟨hc, hn⟩, .inr (.inr ⟨nz, nnz⟩)⟩⟩⟩
theorem plT_pur (p : Pl.Pu) (h : p.h.toNat ≤ 24) : purT (plT p) := by
  obtain ⟨⟨_, _, hc⟩, ⟨_, _, hs⟩⟩ := hv_ok _ h
  unfold plT
  split
  · exact (about_pur p.a hc hs).2
  · exact (about_pur p.a hc hs).1
end Go.Proofs.Ytkfahacnanlnfaa
namespace Go.Proofs.Ytkfahacnanlnfaa
open Go.RowKit Ieee

/-- A quotient's bound. -/
theorem le2_quo {m N : Nat} {i j K J : Int} (hm : m ≠ 0) (hN : N ≠ 0) (h : le2 m i K) (h' : ge2 N j J) (more : Nat) (hmore : 25 + N.log2 = m.log2 + more) :
    le2 (2 * (m <<< more / N) + (m <<< more % N != 0).toNat) (i - j - more - 1) (K - J) := by
  obtain ⟨a1, b1, e1, h1⟩ := h
  obtain ⟨a2, b2, e2, h2⟩ := h'
  rw [Nat.shiftLeft_eq]
  obtain ⟨D, hD⟩ : ∃ D, m * 2 ^ more = D := ⟨_, rfl⟩
  rw [hD]
  have hND : N ≤ D := by
    obtain ⟨l1, _⟩ := log2_bounds hm
    obtain ⟨_, l4⟩ := log2_bounds hN
    have : 2 ^ (m.log2 + more) ≤ D := by rw [← hD, Nat.pow_add]; exact Nat.mul_le_mul_right _ l1
    rw [← hmore] at this
    have h5 : 2 ^ (N.log2 + 1) ≤ 2 ^ (25 + N.log2) := Nat.pow_le_pow_right (by decide) (by omega)
    omega
  have key : D * 2 ^ (a1 + b2) ≤ N * 2 ^ (b1 + more + a2) := by
    have h5 : m * 2 ^ a1 * 2 ^ b2 ≤ 2 ^ b1 * (N * 2 ^ a2) := Nat.mul_le_mul h1 h2
    have h6 := Nat.mul_le_mul_right (2 ^ more) h5
    rw [← hD, Nat.pow_add, Nat.pow_add, Nat.pow_add]
    calc m * 2 ^ more * (2 ^ a1 * 2 ^ b2) = m * 2 ^ a1 * 2 ^ b2 * 2 ^ more := by ac_rfl
      _ ≤ 2 ^ b1 * (N * 2 ^ a2) * 2 ^ more := h6
      _ = N * (2 ^ b1 * 2 ^ more * 2 ^ a2) := by ac_rfl
  have hAB : a1 + b2 ≤ b1 + more + a2 := by
    have : N * 2 ^ (a1 + b2) ≤ N * 2 ^ (b1 + more + a2) := Nat.le_trans (Nat.mul_le_mul_right _ hND) key
    exact (Nat.pow_le_pow_iff_right (by decide)).1 (Nat.le_of_mul_le_mul_left this (by omega))
  obtain ⟨T, hT⟩ : ∃ T, b1 + more + a2 = a1 + b2 + T := ⟨b1 + more + a2 - (a1 + b2), by omega⟩
  have e5 : N * 2 ^ (a1 + b2 + T) = N * 2 ^ T * 2 ^ (a1 + b2) := by rw [Nat.pow_add 2 (a1 + b2) T]; ac_rfl
  rw [hT, e5] at key
  have key := Nat.le_of_mul_le_mul_right key (Nat.two_pow_pos _)
  refine ⟨0, T + 1, by omega, ?_⟩
  rw [Nat.pow_zero, Nat.mul_one, Nat.pow_succ]
  have hNp : 0 < N := by omega
  by_cases hr : D % N = 0
  · have h0 : (D % N != 0).toNat = 0 := by rw [hr]; rfl
    rw [h0]
    have : D / N ≤ 2 ^ T := by
      rw [Nat.div_le_iff_le_mul hNp]
      rw [Nat.mul_comm] at key
      omega
    omega
  · have h0 : (D % N != 0).toNat = 1 := by
      have : (D % N != 0) = true := by simpa using hr
      rw [this]; rfl
    rw [h0]
    have hlt : D < N * 2 ^ T := by
      rcases Nat.lt_or_ge D (N * 2 ^ T) with h | h
      · exact h
      · exfalso
        have : D = N * 2 ^ T := Nat.le_antisymm key h
        rw [this, Nat.mul_mod_right] at hr
        exact hr rfl
    have : D / N < 2 ^ T := by
      rw [Nat.div_lt_iff_lt_mul hNp, Nat.mul_comm]
      exact hlt
    omega
theorem log_lt24 {x m : Nat} {s : Bool} {e : Int} (h : single.read x = .number s m e) : m.log2 ≤ 23 := by
  rcases Nat.eq_zero_or_pos m with h0 | h0
  · subst h0; decide
  · have := (Nat.log2_lt (Nat.ne_of_gt h0)).2 (show m < 2 ^ 24 from (num32 h).1); omega
/-- A quotient of numbers. -/
theorem quo_ok {x n m N : Nat} {s : Bool} {i j K J : Int} (hx : single.read x = .number s m i) (hn : single.read n = .number false N j) (hN : N ≠ 0) (h : le2 m i K) (h' : ge2 N j J) (h1 : -149 ≤ K - J) (h2 : K - J ≤ 127) :
    floatBits .quo .f32 x n = some (op32 .quo x n) ∧ lim single (K - J) (op32 .quo x n) ∧ ∀ y, lk single x y → floatBits .quo .f32 y n = some (op32 .quo y n) ∧ lk single (op32 .quo x n) (op32 .quo y n) := by
  have key : ∀ {b : Nat} {s : Bool}, single.read b = .number s m i → floatBits .quo .f32 b n = some (single.write (.number s (2 * (m <<< (25 + N.log2 - m.log2) / N) + (m <<< (25 + N.log2 - m.log2) % N != 0).toNat) (i - j - ((25 + N.log2 - m.log2 : Nat) : Int) - 1))) := by
    intro b s hb
    show single.div b n = _
    unfold Format.div
    rw [hb, hn]
    have fb : single.fractionBits = 23 := rfl
    simp only [Datum.quotient, fb]
    rw [if_neg hN]
    simp only [Bool.xor_false, Option.map_some]
  have hl := log_lt24 hx
  have hb : le2 (2 * (m <<< (25 + N.log2 - m.log2) / N) + (m <<< (25 + N.log2 - m.log2) % N != 0).toNat) (i - j - ((25 + N.log2 - m.log2 : Nat) : Int) - 1) (K - J) := by
    by_cases hm : m = 0
    · subst hm
      rw [Nat.zero_shiftLeft, Nat.zero_div, Nat.zero_mod]
      exact le2_zero _ _
    · exact le2_quo hm hN h h' _ (by omega)
  have kx := key hx
  unfold op32
  rw [kx]
  refine ⟨rfl, lim_write32 hb h1 h2, fun y hy => ?_⟩
  obtain ⟨s', hr', hs⟩ := hy.read hx
  rw [key hr']
  simp only [Option.getD_some]
  refine ⟨trivial, lk_write ?_⟩
  rcases hs with rfl | rfl
  · exact .inr ⟨s, s', _, _, by rw [Nat.zero_shiftLeft, Nat.zero_div, Nat.zero_mod]; rfl, by rw [Nat.zero_shiftLeft, Nat.zero_div, Nat.zero_mod]; rfl⟩
  · exact .inl rfl
/-- The root from below. -/
theorem rtv_ge {x m : Nat} {e J : Int} (hx : single.read x = .number false m e) (hm : m ≠ 0) (h : ge2 m e (2 * J)) (h1 : -149 ≤ J) : ∃ m' e', single.read (rtv x) = .number false m' e' ∧ m' ≠ 0 ∧ ge2 m' e' J := by
  obtain ⟨k, n, r, hF, hr⟩ := frame_ex hm (num32 hx).1 e
  obtain ⟨hw, _, k1, k2, v1, v2, v3⟩ := rtv_is hx hm hF hr
  obtain ⟨t, ht, rfl, n1, n2⟩ := hF
  have hJ : J + k ≤ 24 := by
    rcases (by omega : J + k ≤ 24 ∨ 25 ≤ J + k) with h5 | h5
    · exact h5
    · exfalso
      have h6 := ge2_at (a := t) (b := (2 * J + 2 * k).toNat) h (by omega)
      have h7 : 2 ^ 50 ≤ 2 ^ (2 * J + 2 * k).toNat := Nat.pow_le_pow_right (by decide) (by omega)
      omega
  rw [hw]
  generalize evenOf (m * 2 ^ t) r = v at *
  have hi : (150 - k).toNat * single.binade + v / 2 < single.infRung := by rw [s_bin, s_inf]; omega
  obtain ⟨m', d, hr', hv⟩ := rung_read single false (g := (150 - k).toNat) (k := v / 2) (by rw [s_bin]; omega) (.inr (by rw [s_bin]; omega)) hi
  have hwd : single.word false ((150 - k).toNat * single.binade + v / 2) = rootW k v := by rw [s_bin]; rfl
  rw [hwd] at hr'
  have hg : ge2 m' (single.leastPlace + d) J := by
    refine ⟨d, (J + 149).toNat, by rw [s_least]; omega, ?_⟩
    rw [hv]
    have h8 : 2 ^ (J + 149).toNat ≤ 2 ^ 23 * 2 ^ (150 - k).toNat := by rw [← Nat.pow_add]; exact Nat.pow_le_pow_right (by decide) (by omega)
    exact Nat.le_trans h8 (Nat.mul_le_mul_right _ (by omega))
  exact ⟨m', _, hr', ge2_pos hg, hg⟩
end Go.Proofs.Ytkfahacnanlnfaa
