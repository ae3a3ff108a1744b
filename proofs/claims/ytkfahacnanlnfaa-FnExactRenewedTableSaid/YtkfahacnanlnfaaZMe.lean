/- Plain laws of the floats: the parts of a renewed table are at most 2. No program in sight. -/
import Derived.Test.YtkfahacnanlnfaaZWc
import Derived.Test.YtkfahacnanlnfaaZMd
namespace Go.Proofs.Ytkfahacnanlnfaa
open Go.RowKit Ieee

/-- Not below 0, and at most 2^K. -/
def NN (f : Format) (K : Int) (x : Nat) : Prop := ∃ m e, f.read x = .number false m e ∧ le2 m e K
/-- At least 2^J. -/
def GE (f : Format) (J : Int) (x : Nat) : Prop := ∃ m e, f.read x = .number false m e ∧ ge2 m e J
/-- Of a magnitude of at least 2^J. -/
def MG (f : Format) (J : Int) (x : Nat) : Prop := ∃ s m e, f.read x = .number s m e ∧ ge2 m e J
theorem NN.lim {f : Format} {K : Int} {x : Nat} (h : NN f K x) : lim f K x := by
  obtain ⟨m, e, h1, h2⟩ := h; exact ⟨false, m, e, h1, h2⟩
theorem write32_both {s : Bool} {m : Nat} {e K : Int} (h : le2 m e K) (h1 : -149 ≤ K) (h2 : K ≤ 127) : ∃ m' e', single.read (single.write (.number s m e)) = .number s m' e' ∧ le2 m' e' K ∧ ∀ J, -149 ≤ J → ge2 m e J → ge2 m' e' J := by
  obtain ⟨m', e', hr, hl, hg⟩ := nearest_both single (s := s) h (by rw [s_least]; exact h1) (by rw [s_bin, s_inf]; omega) (by
    rw [s_bin, s_inf, s_least]
    have : single.fractionBits = 23 := rfl
    rw [this]
    omega)
  exact ⟨m', e', hr, hl, fun J hJ => hg J (by rw [s_least]; exact hJ)⟩
theorem write64_both {s : Bool} {m : Nat} {e K : Int} (h : le2 m e K) (h1 : -1074 ≤ K) (h2 : K ≤ 1023) : ∃ m' e', double.read (double.write (.number s m e)) = .number s m' e' ∧ le2 m' e' K ∧ ∀ J, -1074 ≤ J → ge2 m e J → ge2 m' e' J := by
  obtain ⟨m', e', hr, hl, hg⟩ := nearest_both double (s := s) h (by rw [d_least]; exact h1) (by rw [d_bin, d_inf]; omega) (by
    rw [d_bin, d_inf, d_least]
    have : double.fractionBits = 52 := rfl
    rw [this]
    omega)
  exact ⟨m', e', hr, hl, fun J hJ => hg J (by rw [d_least]; exact hJ)⟩
theorem ge2.mul {m n : Nat} {e f K L : Int} (h : ge2 m e K) (h' : ge2 n f L) : ge2 (m * n) (e + f) (K + L) := by
  obtain ⟨c, d, h1, h2⟩ := h
  obtain ⟨c', d', h1', h2'⟩ := h'
  refine ⟨c + c', d + d', by omega, ?_⟩
  rw [Nat.pow_add, Nat.pow_add, show m * n * (2 ^ c * 2 ^ c') = (m * 2 ^ c) * (n * 2 ^ c') by ac_rfl]
  exact Nat.mul_le_mul h2 h2'
theorem ge2.shift {m d : Nat} {e K : Int} (h : ge2 m e K) : ge2 (m * 2 ^ d) (e - d) K := by
  obtain ⟨a, b, h1, h2⟩ := h
  refine ⟨a, b + d, by omega, ?_⟩
  rw [Nat.pow_add, Nat.mul_assoc, Nat.mul_comm (2 ^ d), ← Nat.mul_assoc]
  exact Nat.mul_le_mul_right _ h2
theorem ge2.up {m n : Nat} {e K : Int} (h : ge2 m e K) (hn : m ≤ n) : ge2 n e K := by
  obtain ⟨a, b, h1, h2⟩ := h
  exact ⟨a, b, h1, Nat.le_trans h2 (Nat.mul_le_mul_right _ hn)⟩
theorem MG_wide {a : Nat} {J : Int} (h : MG single J a) : MG double J (wide a) := by
  obtain ⟨s, m, e, hr, hg⟩ := h
  obtain ⟨k, _, hr', _⟩ := (wide_num hr).2.2 (ge2_pos hg)
  exact ⟨s, _, _, hr', hg.shift⟩
/-- A square. -/
theorem sq_nn {x : Nat} {K : Int} (h : lim double K x) (h1 : -1074 ≤ K + K) (h2 : K + K ≤ 1023) : NN double (K + K) (dm x x) ∧ ∀ J, -1074 ≤ J + J → MG double J x → GE double (J + J) (dm x x) := by
  obtain ⟨s, m, e, ra, la⟩ := h
  have h : double.mul x x = some (double.write (.number (s ^^ s) (m * m) (e + e))) := by
    unfold Format.mul
    rw [ra]
    rfl
  have hs : (s ^^ s) = false := by cases s <;> rfl
  rw [hs] at h
  obtain ⟨m', e', hr, hl, hg⟩ := write64_both (s := false) (la.mul la) h1 h2
  have e1 : dm x x = double.write (.number false (m * m) (e + e)) := by unfold dm; rw [h]; rfl
  rw [e1]
  refine ⟨⟨m', e', hr, hl⟩, fun J hJ ⟨s2, m2, e2, hr2, hg2⟩ => ⟨m', e', hr, hg _ hJ ?_⟩⟩
  rw [ra] at hr2
  injection hr2 with _ p q
  rw [p, q]
  exact hg2.mul hg2
theorem signed_false (m k : Nat) : signed false m k = ((m * 2 ^ k : Nat) : Int) := by
  unfold signed; simp [Nat.shiftLeft_eq]
theorem sum_nn {m n : Nat} {e f K : Int} (la : le2 m e K) (lb : le2 n f K) : ∃ M E, Datum.sum (.number false m e) (.number false n f) = some (.number false M E) ∧ le2 M E (K + 1) ∧ ∀ J, ge2 m e J ∨ ge2 n f J → ge2 M E J := by
  refine ⟨m * 2 ^ (e - min e f).toNat + n * 2 ^ (f - min e f).toNat, min e f, ?_, ?_, fun J hJ => ?_⟩
  · unfold Datum.sum
    simp only [signed_false]
    rw [← Int.natCast_add, Int.natAbs_natCast]
    generalize m * 2 ^ (e - min e f).toNat + n * 2 ^ (f - min e f).toNat = T
    have h0 : decide ((T : Int) < 0) = false := by simp
    rw [h0]
    by_cases hT : (T : Int) = 0
    · rw [if_pos hT]; rfl
    · rw [if_neg hT]
  · have := le2_sum (s := false) (t := false) la lb
    rw [signed_false, signed_false, ← Int.natCast_add, Int.natAbs_natCast] at this
    exact this
  · rcases hJ with h | h
    · have h5 := h.shift (d := (e - min e f).toNat)
      rw [show e - ((e - min e f).toNat : Int) = min e f by omega] at h5
      exact h5.up (Nat.le_add_right _ _)
    · have h5 := h.shift (d := (f - min e f).toNat)
      rw [show f - ((f - min e f).toNat : Int) = min e f by omega] at h5
      exact h5.up (Nat.le_add_left _ _)
theorem da_nn {x y : Nat} {K : Int} (hx : NN double K x) (hy : NN double K y) (h1 : -1074 ≤ K) (h2 : K < 1023) : NN double (K + 1) (da x y) ∧ ∀ J, -1074 ≤ J → GE double J x ∨ GE double J y → GE double J (da x y) := by
  obtain ⟨m, e, ra, la⟩ := hx
  obtain ⟨n, f, rb, lb⟩ := hy
  obtain ⟨M, E, hs, hl, hg⟩ := sum_nn la lb
  have h : double.add x y = some (double.write (.number false M E)) := by
    unfold Format.add
    rw [ra, rb, hs]
    rfl
  obtain ⟨m', e', hr, hl', hg'⟩ := write64_both (s := false) hl (by omega) (by omega)
  have e1 : da x y = double.write (.number false M E) := by unfold da; rw [h]; rfl
  rw [e1]
  refine ⟨⟨m', e', hr, hl'⟩, fun J hJ hxy => ⟨m', e', hr, hg' J hJ (hg J ?_)⟩⟩
  rcases hxy with ⟨m2, e2, h3, h4⟩ | ⟨m2, e2, h3, h4⟩
  · rw [ra] at h3; injection h3 with _ p q; rw [p, q]; exact .inl h4
  · rw [rb] at h3; injection h3 with _ p q; rw [p, q]; exact .inr h4
theorem add_nn {x y : Nat} {K : Int} (hx : NN single K x) (hy : NN single K y) (h1 : -149 ≤ K) (h2 : K < 127) : NN single (K + 1) (op32 .add x y) ∧ ∀ J, -149 ≤ J → GE single J x ∨ GE single J y → GE single J (op32 .add x y) := by
  obtain ⟨m, e, ra, la⟩ := hx
  obtain ⟨n, f, rb, lb⟩ := hy
  obtain ⟨M, E, hs, hl, hg⟩ := sum_nn la lb
  have h : floatBits .add .f32 x y = some (single.write (.number false M E)) := by
    show single.add x y = _
    unfold Format.add
    rw [ra, rb, hs]
    rfl
  obtain ⟨m', e', hr, hl', hg'⟩ := write32_both (s := false) hl (by omega) (by omega)
  have e1 : op32 .add x y = single.write (.number false M E) := by unfold op32; rw [h]; rfl
  rw [e1]
  refine ⟨⟨m', e', hr, hl'⟩, fun J hJ hxy => ⟨m', e', hr, hg' J hJ (hg J ?_)⟩⟩
  rcases hxy with ⟨m2, e2, h3, h4⟩ | ⟨m2, e2, h3, h4⟩
  · rw [ra] at h3; injection h3 with _ p q; rw [p, q]; exact .inl h4
  · rw [rb] at h3; injection h3 with _ p q; rw [p, q]; exact .inr h4
theorem nw_nn {v : Nat} {K : Int} (hv : NN double K v) (h1 : -149 ≤ K) (h2 : K ≤ 127) : NN single K (nw v) ∧ ∀ J, -149 ≤ J → GE double J v → GE single J (nw v) := by
  obtain ⟨m, e, hr, hl⟩ := hv
  obtain ⟨m', e', hr', hl', hg'⟩ := write32_both (s := false) hl h1 h2
  rw [(nw_num hr hl h1 h2).2.1]
  refine ⟨⟨m', e', hr', hl'⟩, fun J hJ ⟨m2, e2, h3, h4⟩ => ⟨m', e', hr', hg' J hJ ?_⟩⟩
  rw [hr] at h3; injection h3 with _ p q; rw [p, q]; exact h4
/-- The square of a complex number. -/
theorem sqr_nn {a b : Nat} {K : Int} (h : two K a b) (h1 : -74 ≤ K) (h2 : K ≤ 62) : NN single (K + K + 1) (exV a a b b) ∧ ∀ J, -149 ≤ J + J → MG single J a ∨ MG single J b → GE single (J + J) (exV a a b b) := by
  obtain ⟨s1, g1⟩ := sq_nn (lim_wide h.1) (by omega) (by omega)
  obtain ⟨s2, g2⟩ := sq_nn (lim_wide h.2) (by omega) (by omega)
  obtain ⟨s3, g3⟩ := da_nn s1 s2 (by omega) (by omega)
  obtain ⟨s4, g4⟩ := nw_nn s3 (by omega) (by omega)
  exact ⟨s4, fun J hJ hab => g4 _ hJ (g3 _ (by omega) (hab.imp (fun h => g1 J (by omega) (MG_wide h)) (fun h => g2 J (by omega) (MG_wide h))))⟩
def rq (a b c d : Nat) : Nat := op32 .add (exV a a b b) (exV c c d d)
theorem rq_nn {a b c d : Nat} {K : Int} (h : two K a b) (h' : two K c d) (h1 : -74 ≤ K) (h2 : K ≤ 62) : NN single (K + K + 2) (rq a b c d) ∧ ∀ J, -149 ≤ J + J → (MG single J a ∨ MG single J b) ∨ (MG single J c ∨ MG single J d) → GE single (J + J) (rq a b c d) := by
  obtain ⟨s1, g1⟩ := sqr_nn h h1 h2
  obtain ⟨s2, g2⟩ := sqr_nn h' h1 h2
  obtain ⟨s3, g3⟩ := add_nn s1 s2 (by omega) (by omega)
  have e1 : K + K + 1 + 1 = K + K + 2 := by omega
  rw [e1] at s3
  exact ⟨s3, fun J hJ hab => g3 _ hJ (hab.imp (g1 J hJ) (g2 J hJ))⟩
theorem root0_pos {x m : Nat} {e : Int} (h : single.read x = .number false m e) (hm : m ≠ 0) : root0 x = rtv x := by
  unfold root0
  rw [h]
  cases m with
  | zero => exact absurd rfl hm
  | succ m => rfl
/-- What dividing by the root does. -/
def PartOk (n x : Nat) : Prop := floatBits .quo .f32 x n = some (op32 .quo x n) ∧ lim single 1 (op32 .quo x n) ∧ ∀ y, lk single x y → floatBits .quo .f32 y n = some (op32 .quo y n) ∧ lk single (op32 .quo x n) (op32 .quo y n)
theorem part_ok {q x : Nat} {K : Int} (hx : lim single K x) (hq : ∃ m e, single.read q = .number false m e ∧ m ≠ 0) (hg : ∀ J, -149 ≤ J + J → MG single J x → GE single (J + J) q) : PartOk (rtv q) x := by
  obtain ⟨mq, eq, hqr, hq0⟩ := hq
  have hqe := (num32 hqr).2.1
  have gq : ge2 mq eq (2 * (-75)) := ⟨(eq + 150).toNat, 0, by omega, by
    have := Nat.two_pow_pos (eq + 150).toNat
    exact Nat.le_trans (show 2 ^ 0 ≤ 1 * 1 by decide) (Nat.mul_le_mul (by omega) this)⟩
  obtain ⟨s, m, e, hr, _⟩ := hx
  have he := (num32 hr).2.1
  by_cases hm : m = 0
  · subst hm
    obtain ⟨N, j, hN, hN0, hJ⟩ := rtv_ge hqr hq0 gq (by decide)
    obtain ⟨r1, r2, r3⟩ := quo_ok (K := -74) hr hN hN0 (le2_zero _ _) hJ (by decide) (by decide)
    exact ⟨r1, r2.mono (by decide), r3⟩
  · obtain ⟨l1, l2⟩ := log2_bounds hm
    have lx : le2 m e (m.log2 + e + 1) := ⟨0, m.log2 + 1, by omega, by rw [Nat.pow_zero, Nat.mul_one]; exact Nat.le_of_lt l2⟩
    have gx : ge2 m e (m.log2 + e) := ⟨0, m.log2, by omega, by rw [Nat.pow_zero, Nat.mul_one]; exact l1⟩
    have hl := log_lt24 hr
    have he2 := (num32 hr).2.2.1
    rcases (by omega : -149 ≤ (m.log2 + e) + (m.log2 + e) ∨ (m.log2 + e) + 1 + 75 ≤ (1 : Int)) with hc | hc
    · obtain ⟨m2, e2, h3, h4⟩ := hg (m.log2 + e) hc ⟨s, m, e, hr, gx⟩
      rw [hqr] at h3
      injection h3 with _ p q
      rw [← p, ← q, show (m.log2 : Int) + e + (m.log2 + e) = 2 * (m.log2 + e) by omega] at h4
      obtain ⟨N, j, hN, hN0, hJ⟩ := rtv_ge hqr hq0 h4 (by omega)
      obtain ⟨r1, r2, r3⟩ := quo_ok hr hN hN0 lx hJ (by omega) (by omega)
      exact ⟨r1, r2.mono (by omega), r3⟩
    · obtain ⟨N, j, hN, hN0, hJ⟩ := rtv_ge hqr hq0 gq (by decide)
      obtain ⟨r1, r2, r3⟩ := quo_ok hr hN hN0 lx hJ (by omega) (by omega)
      exact ⟨r1, r2.mono (by omega), r3⟩
/-- The root of a table's row is 0, or the parts are numbers when divided by it. -/
theorem renew_parts {a b c d : Nat} {K : Int} (h : two K a b) (h' : two K c d) (h1 : -74 ≤ K) (h2 : K ≤ 62) :
    lim single (K + K + 2) (rq a b c d) ∧ ((root0 (rq a b c d) = 0 ∧ zr single (rq a b c d)) ∨ (root0 (rq a b c d) = rtv (rq a b c d) ∧ (∃ m e, single.read (rq a b c d) = .number false m e ∧ m ≠ 0) ∧ PartOk (rtv (rq a b c d)) a ∧ PartOk (rtv (rq a b c d)) b ∧ PartOk (rtv (rq a b c d)) c ∧ PartOk (rtv (rq a b c d)) d)) := by
  obtain ⟨n1, g1⟩ := rq_nn h h' h1 h2
  refine ⟨n1.lim, ?_⟩
  obtain ⟨m, e, hr, hl⟩ := n1
  by_cases hm : m = 0
  · subst hm
    exact .inl ⟨by unfold root0; rw [hr], zr_of hr⟩
  · have hq : ∃ m e, single.read (rq a b c d) = .number false m e ∧ m ≠ 0 := ⟨m, e, hr, hm⟩
    exact .inr ⟨root0_pos hr hm, hq, part_ok h.1 hq (fun J hJ hx => g1 J hJ (.inl (.inl hx))), part_ok h.2 hq (fun J hJ hx => g1 J hJ (.inl (.inr hx))),
      part_ok h'.1 hq (fun J hJ hx => g1 J hJ (.inr (.inl hx))), part_ok h'.2 hq (fun J hJ hx => g1 J hJ (.inr (.inr hx)))⟩
end Go.Proofs.Ytkfahacnanlnfaa
