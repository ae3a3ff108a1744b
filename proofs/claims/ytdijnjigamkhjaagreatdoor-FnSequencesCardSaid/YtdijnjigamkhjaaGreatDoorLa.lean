/- The source of draws: of any state, within 2^38 steps two draws that lie two apart are both no multiples of three. No program in sight. -/
import Derived.Lib.Hide
namespace Go.Proofs.YtdijnjigamkhjaaGreatDoor

/-- n steps by f. -/
def itf (f : Nat → Nat) : Nat → Nat → Nat
  | 0, h => h
  | n + 1, h => itf f n (f h)
theorem itf_add (f : Nat → Nat) (m n h : Nat) : itf f (m + n) h = itf f n (itf f m h) := by
  induction m generalizing h with
  | zero => rw [Nat.zero_add]; rfl
  | succ m ih => rw [Nat.succ_add]; exact ih (f h)
theorem itf_succ (f : Nat → Nat) (n h : Nat) : itf f (n + 1) h = f (itf f n h) := by rw [itf_add]; rfl
theorem itf_lt (f : Nat → Nat) (B : Nat) (hf : ∀ h, f h < B) {h : Nat} (hh : h < B) (n : Nat) : itf f n h < B := by
  induction n generalizing h with
  | zero => exact hh
  | succ n ih => exact ih (hf h)
theorem itf_one (f : Nat → Nat) (h : Nat) : itf f 1 h = f h := rfl
/-- One step of the source. -/
def st (h : Nat) : Nat := (6364136223846793005 * h + 1442695040888963407) % 18446744073709551616
/-- n steps. -/
def it (n h : Nat) : Nat := itf st n h
theorem it_add (m n h : Nat) : it (m + n) h = it n (it m h) := itf_add st m n h
theorem it_zero (h : Nat) : it 0 h = h := rfl
theorem it_succ (n h : Nat) : it (n + 1) h = st (it n h) := itf_succ st n h
theorem it_one (h : Nat) : it 1 h = st h := itf_one st h
theorem st_lt (h : Nat) : st h < 18446744073709551616 := Nat.mod_lt _ (by decide)
theorem it_lt {h : Nat} (hh : h < 18446744073709551616) (n : Nat) : it n h < 18446744073709551616 := itf_lt st _ st_lt hh n
/-! Steps by powers of two. -/
def aff (p : Nat × Nat) (h : Nat) : Nat := (p.1 * h + p.2) % 18446744073709551616
def dbl (p : Nat × Nat) : Nat × Nat := (p.1 * p.1 % 18446744073709551616, (p.1 * p.2 + p.2) % 18446744073709551616)
def pw : Nat → Nat × Nat
  | 0 => (6364136223846793005, 1442695040888963407)
  | k + 1 => dbl (pw k)
theorem aff_dbl (p : Nat × Nat) (h : Nat) : aff p (aff p h) = aff (dbl p) h := by
  unfold aff dbl
  dsimp only
  have e1 : (p.1 * ((p.1 * h + p.2) % 18446744073709551616) + p.2) % 18446744073709551616 = (p.1 * (p.1 * h + p.2) + p.2) % 18446744073709551616 := by
    rw [Nat.add_mod, Nat.mul_mod, Nat.mod_mod, ← Nat.mul_mod, ← Nat.add_mod]
  have e2 : (p.1 * p.1 % 18446744073709551616 * h + (p.1 * p.2 + p.2) % 18446744073709551616) % 18446744073709551616 = (p.1 * p.1 * h + (p.1 * p.2 + p.2)) % 18446744073709551616 := by
    rw [Nat.add_mod, Nat.mul_mod, Nat.mod_mod, Nat.mod_mod, ← Nat.mul_mod, ← Nat.add_mod]
  rw [e1, e2, Nat.mul_add, Nat.mul_assoc, Nat.add_assoc]
theorem it_pow (k h : Nat) : it (2 ^ k) h = aff (pw k) h := by
  induction k generalizing h with
  | zero =>
    rw [Nat.pow_zero, it_one]
    rfl
  | succ k ih =>
    have e : 2 ^ (k + 1) = 2 ^ k + 2 ^ k := by rw [Nat.pow_succ]; omega
    rw [e, it_add, ih, ih, aff_dbl]
    rfl
theorem pw1 : pw 1 = (7520897724310334953, 1876011003808476466) := by decide +kernel
theorem pw26 : pw 26 = (16938562998715285505, 4382386631181598720) := by decide +kernel
theorem pw33 : pw 33 = (5255321193111617537, 11001931093778628608) := by decide +kernel
theorem it2 (X : Nat) : it 2 X = (7520897724310334953 * X + 1876011003808476466) % 18446744073709551616 := by
  have := it_pow 1 X
  rw [pw1] at this
  exact this
theorem it26 (X : Nat) : it 67108864 X = (16938562998715285505 * X + 4382386631181598720) % 18446744073709551616 := by
  have := it_pow 26 X
  rw [pw26] at this
  exact this
theorem it33 (X : Nat) : it 8589934592 X = (5255321193111617537 * X + 11001931093778628608) % 18446744073709551616 := by
  have := it_pow 33 X
  rw [pw33] at this
  exact this
/-! The draw by three. -/
/-- A third of the draw, mod 2^31. -/
def uu (X : Nat) : Nat := X / 8589934592 * 715827883 % 2147483648
/-- By how much it moves behind 2^33 steps. -/
def mm (X : Nat) : Nat := (611799908 * (X % 8589934592) + 1280793349) % 2147483648 * 715827883 % 2147483648
theorem uu_lt (X : Nat) : uu X < 2147483648 := Nat.mod_lt _ (by decide)
theorem mm_lt (X : Nat) : mm X < 2147483648 := Nat.mod_lt _ (by decide)
theorem third {T b r : Nat} (hT : T = 3 * b + r) (hr : r < 3) (h : T < 2147483648) : T * 715827883 % 2147483648 = b + r * 715827883 := by
  have e : T * 715827883 = (b + r * 715827883) + 2147483648 * b := by omega
  rw [e, Nat.add_mul_mod_self_left]
  exact Nat.mod_eq_of_lt (by omega)
theorem hit_iff {X : Nat} (hX : X < 18446744073709551616) : X / 8589934592 % 3 = 0 ↔ 3 * uu X < 2147483648 := by
  have hT : X / 8589934592 < 2147483648 := by omega
  unfold uu
  generalize X / 8589934592 = T at *
  have h3 := third (T := T) (b := T / 3) (r := T % 3) (by omega) (by omega) hT
  rw [h3]
  omega
theorem mulmod (x : Nat) : x % 2147483648 * 715827883 % 2147483648 = x * 715827883 % 2147483648 := by
  rw [Nat.mul_mod, Nat.mod_mod, ← Nat.mul_mod]
theorem up33 (T L : Nat) (hL : L < 8589934592) : (5255321193111617537 * (8589934592 * T + L) + 11001931093778628608) % 18446744073709551616 / 8589934592 = (T + (611799908 * L + 1280793349)) % 2147483648 := by
  obtain ⟨Q, hQ⟩ : ∃ Q, T + (611799908 * L + 1280793349) + 2147483648 * (2447199632 * T) = Q := ⟨_, rfl⟩
  have e : 5255321193111617537 * (8589934592 * T + L) + 11001931093778628608 = 8589934592 * Q + L := by omega
  have e2 : (T + (611799908 * L + 1280793349)) % 2147483648 = Q % 2147483648 := by rw [← hQ, Nat.add_mul_mod_self_left]
  rw [e, e2]
  clear e e2 hQ
  have e3 : 8589934592 * Q + L = (8589934592 * (Q % 2147483648) + L) + 18446744073709551616 * (Q / 2147483648) := by omega
  rw [e3, Nat.add_mul_mod_self_left]
  omega
theorem uu33 (X : Nat) : uu (it 8589934592 X) = (uu X + mm X) % 2147483648 := by
  rw [it33]
  unfold uu mm
  obtain ⟨T, L, hL, hX⟩ : ∃ T L, L < 8589934592 ∧ X = 8589934592 * T + L := ⟨X / 8589934592, X % 8589934592, Nat.mod_lt _ (by decide), by omega⟩
  have e1 : X / 8589934592 = T := by omega
  have e2 : X % 8589934592 = L := by omega
  rw [e1, e2, hX, up33 T L hL, mulmod, mulmod, Nat.add_mul, Nat.add_mod]
theorem mm33 (X : Nat) : mm (it 8589934592 X) = mm X := by
  rw [it33]
  unfold mm
  have e : (5255321193111617537 * X + 11001931093778628608) % 18446744073709551616 % 8589934592 = X % 8589934592 := by omega
  rw [e]
theorem ap33 (k X : Nat) : uu (it (8589934592 * k) X) = (uu X + k * mm X) % 2147483648 ∧ mm (it (8589934592 * k) X) = mm X := by
  induction k with
  | zero =>
    rw [Nat.mul_zero, Nat.zero_mul, Nat.add_zero]
    exact ⟨(Nat.mod_eq_of_lt (uu_lt X)).symm, rfl⟩
  | succ k ih =>
    rw [Nat.mul_succ, it_add]
    refine ⟨?_, (mm33 _).trans ih.2⟩
    rw [uu33, ih.1, ih.2, Nat.succ_mul, Nat.mod_add_mod, Nat.add_assoc]
theorem par2 (X : Nat) : it 2 X % 2 = X % 2 := by rw [it2]; omega
theorem par26 (X : Nat) : it 67108864 X % 2 = X % 2 := by rw [it26]; omega
theorem low26 (Z : Nat) : (611799908 * (Z % 18446744073709551616 % 8589934592) + 1280793349) % 2147483648 = (611799908 * Z + 1280793349) % 2147483648 := by
  have e : Z % 18446744073709551616 % 8589934592 = Z % 8589934592 := by omega
  rw [e]
  have e2 : 611799908 * Z + 1280793349 = (611799908 * (Z % 8589934592) + 1280793349) + 2147483648 * (2447199632 * (Z / 8589934592)) := by omega
  rw [e2, Nat.add_mul_mod_self_left]
theorem low0 (X : Nat) : (611799908 * (X % 8589934592) + 1280793349) % 2147483648 = (611799908 * X + 1280793349) % 2147483648 := by
  have e2 : 611799908 * X + 1280793349 = (611799908 * (X % 8589934592) + 1280793349) + 2147483648 * (2447199632 * (X / 8589934592)) := by omega
  rw [e2, Nat.add_mul_mod_self_left]
theorem mm_eq (X : Nat) : mm X = (611799908 * X + 1280793349) * 715827883 % 2147483648 := by
  unfold mm
  rw [low0, mulmod]
theorem mm26 (X : Nat) : mm (it 67108864 X) = (mm X + (if X % 2 = 0 then 7 else 3) * 268435456) % 2147483648 := by
  rw [it26]
  unfold mm
  rw [low26, low0, mulmod, mulmod]
  obtain ⟨Y, p, hp, rfl⟩ : ∃ Y p, p < 2 ∧ X = 2 * Y + p := ⟨X / 2, X % 2, Nat.mod_lt _ (by decide), by omega⟩
  have e0 : (2 * Y + p) % 2 = p := by omega
  rw [e0, Nat.mod_add_mod]
  rcases (show p = 0 ∨ p = 1 by omega) with rfl | rfl
  · rw [if_pos rfl]
    have e : (611799908 * (16938562998715285505 * (2 * Y + 0) + 4382386631181598720) + 1280793349) * 715827883 = ((611799908 * (2 * Y + 0) + 1280793349) * 715827883 + 7 * 268435456) + 2147483648 * (6908674192727912643037978619 * Y + 893714579675278957526464631) := by omega
    rw [e, Nat.add_mul_mod_self_left]
  · rw [if_neg (by decide)]
    have e : (611799908 * (16938562998715285505 * (2 * Y + 1) + 4382386631181598720) + 1280793349) * 715827883 = ((611799908 * (2 * Y + 1) + 1280793349) * 715827883 + 3 * 268435456) + 2147483648 * (6908674192727912643037978619 * Y + 4348051676039235279045453941) := by omega
    rw [e, Nat.add_mul_mod_self_left]
/-- Behind j times 2^26 steps. -/
theorem mm26j (j X : Nat) : mm (it (67108864 * j) X) = (mm X + j * ((if X % 2 = 0 then 7 else 3) * 268435456)) % 2147483648 ∧ it (67108864 * j) X % 2 = X % 2 := by
  induction j with
  | zero =>
    rw [Nat.mul_zero, Nat.zero_mul, Nat.add_zero]
    exact ⟨(Nat.mod_eq_of_lt (mm_lt X)).symm, rfl⟩
  | succ j ih =>
    rw [Nat.mul_succ, it_add]
    refine ⟨?_, (par26 _).trans ih.2⟩
    rw [mm26, ih.1, ih.2, Nat.mod_add_mod, Nat.add_assoc, Nat.succ_mul]
/-! Two rotations. -/
theorem rot_next (U M k : Nat) : (U + (k + 1) * M) % 2147483648 = ((U + k * M) % 2147483648 + M) % 2147483648 := by
  rw [Nat.mod_add_mod, Nat.add_assoc, Nat.succ_mul]
/-- A rotation that does not move far is now outside for two. -/
theorem slow {V : Nat → Nat} {M : Nat} (hV : ∀ k, V k < 2147483648) (hn : ∀ k, V (k + 1) = (V k + M) % 2147483648) (hlo : 67108864 ≤ M) (hhi : M ≤ 2080374784) (hM : 3 * M < 2147483648 ∨ 4294967296 < 3 * M)
    (h2 : ∀ k, k ≤ 23 → 3 * V k < 2147483648 ∨ 3 * V (k + 1) < 2147483648) : False := by
  obtain ⟨k0, hk0, hh⟩ : ∃ k0, k0 ≤ 1 ∧ 3 * V k0 < 2147483648 := by
    rcases h2 0 (by omega) with h | h
    · exact ⟨0, by omega, h⟩
    · exact ⟨1, by omega, h⟩
  rcases hM with hM | hM
  · have key : ∀ m, m ≤ 11 → 3 * V (k0 + m) < 2147483648 ∧ m * 67108864 ≤ V (k0 + m) := by
      intro m
      induction m with
      | zero => exact fun _ => ⟨hh, by rw [Nat.zero_mul]; exact Nat.zero_le _⟩
      | succ m ih =>
        intro hm
        obtain ⟨i1, i2⟩ := ih (by omega)
        have n1 := hn (k0 + m)
        have n2 := hn (k0 + m + 1)
        have h3 := h2 (k0 + m + 1) (by omega)
        rw [show k0 + (m + 1) = k0 + m + 1 by omega]
        omega
    have := key 11 (by omega)
    omega
  · have key : ∀ m, m ≤ 11 → 3 * (V (k0 + m) + m * 67108864) < 2147483648 := by
      intro m
      induction m with
      | zero => intro _; simpa using hh
      | succ m ih =>
        intro hm
        have i1 := ih (by omega)
        have n1 := hn (k0 + m)
        have n2 := hn (k0 + m + 1)
        have h3 := h2 (k0 + m + 1) (by omega)
        have hb := hV (k0 + m + 1)
        rw [show k0 + (m + 1) = k0 + m + 1 by omega]
        omega
    have := key 11 (by omega)
    omega
set_option maxRecDepth 100000 in
/-- A rotation that is inside at every other place. -/
theorem other {V : Nat → Nat} {M : Nat} (hn : ∀ k, V (k + 1) = (V k + M) % 2147483648) (h1 : 2147483648 ≤ 3 * M) (h2 : 3 * M ≤ 4294967296) (hd : M ≤ 1006632960 ∨ 1140850688 ≤ M)
    {k0 : Nat} (hk0 : k0 ≤ 1) (hh : 3 * V k0 < 2147483648) (ha : ∀ k, k ≤ 22 → 3 * V k < 2147483648 → 3 * V (k + 2) < 2147483648) : False := by
  have key0 : ∀ m, m ≤ 6 → 3 * V (k0 + 2 * m) < 2147483648 := by
    intro m
    induction m with
    | zero => exact fun _ => hh
    | succ m ih =>
      intro hm
      have := ha (k0 + 2 * m) (by omega) (ih (by omega))
      rwa [show k0 + 2 * (m + 1) = k0 + 2 * m + 2 by omega]
  rcases hd with hd | hd
  · have key : ∀ m, m ≤ 6 → 3 * (V (k0 + 2 * m) + m * 134217728) < 2147483648 := by
      intro m
      induction m with
      | zero => intro _; simpa using hh
      | succ m ih =>
        intro hm
        have i1 := ih (by omega)
        have n1 := hn (k0 + 2 * m)
        have n2 := hn (k0 + 2 * m + 1)
        have h3 := key0 (m + 1) hm
        rw [show k0 + 2 * (m + 1) = k0 + 2 * m + 1 + 1 by omega] at h3 ⊢
        omega
    have := key 6 (by omega)
    omega
  · have key : ∀ m, m ≤ 6 → m * 134217728 ≤ V (k0 + 2 * m) := by
      intro m
      induction m with
      | zero => intro _; rw [Nat.zero_mul]; exact Nat.zero_le _
      | succ m ih =>
        intro hm
        have i1 := ih (by omega)
        have n1 := hn (k0 + 2 * m)
        have n2 := hn (k0 + 2 * m + 1)
        have h0 := key0 m (by omega)
        have h3 := key0 (m + 1) hm
        rw [show k0 + 2 * (m + 1) = k0 + 2 * m + 1 + 1 by omega] at h3 ⊢
        refine Nat.le_of_not_lt fun hcon => ?_
        omega
    have g1 := key 6 (Nat.le_refl _)
    have g2 := key0 6 (Nat.le_refl _)
    generalize V (k0 + 2 * 6) = z at g1 g2
    have g3 : 805306368 ≤ z := g1
    omega
/-- Of 25 places at least one is outside for both. -/
theorem window {U0 M0 U2 M2 : Nat} (hM2 : M2 < 2147483648) (h1 : 2147483648 ≤ 3 * M0) (h2 : 3 * M0 ≤ 4294967296) (hlo : 67108864 ≤ M2) (hhi : M2 ≤ 2080374784)
    (hnb : ¬ (1006632960 < M0 ∧ M0 < 1140850688 ∧ 1006632960 < M2 ∧ M2 < 1140850688)) : ∃ k, k ≤ 24 ∧ ¬ 3 * ((U0 + k * M0) % 2147483648) < 2147483648 ∧ ¬ 3 * ((U2 + k * M2) % 2147483648) < 2147483648 := by
  obtain ⟨V, hV⟩ : ∃ V : Nat → Nat, V = fun k => (U0 + k * M0) % 2147483648 := ⟨_, rfl⟩
  obtain ⟨W, hW⟩ : ∃ W : Nat → Nat, W = fun k => (U2 + k * M2) % 2147483648 := ⟨_, rfl⟩
  have nV : ∀ k, V (k + 1) = (V k + M0) % 2147483648 := fun k => by rw [hV]; exact rot_next U0 M0 k
  have nW : ∀ k, W (k + 1) = (W k + M2) % 2147483648 := fun k => by rw [hW]; exact rot_next U2 M2 k
  have lV : ∀ k, V k < 2147483648 := fun k => by rw [hV]; exact Nat.mod_lt _ (by decide)
  have lW : ∀ k, W k < 2147483648 := fun k => by rw [hW]; exact Nat.mod_lt _ (by decide)
  suffices h : ∃ k, k ≤ 24 ∧ ¬ 3 * V k < 2147483648 ∧ ¬ 3 * W k < 2147483648 by rw [hV, hW] at h; exact h
  clear hV hW
  refine Classical.byContradiction fun hno => ?_
  have hall : ∀ k, k ≤ 24 → 3 * V k < 2147483648 ∨ 3 * W k < 2147483648 := by
    intro k hk
    refine Classical.byContradiction fun h => hno ⟨k, hk, ?_, ?_⟩
    · exact fun h' => h (.inl h')
    · exact fun h' => h (.inr h')
  have adjV : ∀ k, 3 * V k < 2147483648 → ¬ 3 * V (k + 1) < 2147483648 := by
    intro k hk
    have := nV k
    have := lV k
    omega
  have noW : ∀ k, k ≤ 23 → 3 * W k < 2147483648 ∨ 3 * W (k + 1) < 2147483648 := by
    intro k hk
    rcases hall k (by omega) with h | h
    · exact .inr ((hall (k + 1) (by omega)).resolve_left (adjV k h))
    · exact .inl h
  by_cases hin : 3 * M2 < 2147483648 ∨ 4294967296 < 3 * M2
  · exact slow lW nW hlo hhi hin noW
  · have adjW : ∀ k, 3 * W k < 2147483648 → ¬ 3 * W (k + 1) < 2147483648 := by
      intro k hk
      have := nW k
      have := lW k
      omega
    have a2V : ∀ k, k ≤ 22 → 3 * V k < 2147483648 → 3 * V (k + 2) < 2147483648 := by
      intro k hk h
      have w1 := (hall (k + 1) (by omega)).resolve_left (adjV k h)
      exact (hall (k + 2) (by omega)).resolve_right (adjW (k + 1) w1)
    have a2W : ∀ k, k ≤ 22 → 3 * W k < 2147483648 → 3 * W (k + 2) < 2147483648 := by
      intro k hk h
      have w1 := (hall (k + 1) (by omega)).resolve_right (adjW k h)
      exact (hall (k + 2) (by omega)).resolve_left (adjV (k + 1) w1)
    by_cases hc : M0 ≤ 1006632960 ∨ 1140850688 ≤ M0
    · rcases hall 0 (by omega) with h | h
      · exact other nV h1 h2 hc (k0 := 0) (by omega) h a2V
      · exact other nV h1 h2 hc (k0 := 1) (by omega) ((hall 1 (by omega)).resolve_right (adjW 0 h)) a2V
    · have hd : M2 ≤ 1006632960 ∨ 1140850688 ≤ M2 := by omega
      rcases hall 0 (by omega) with h | h
      · exact other nW (by omega) (by omega) hd (k0 := 1) (by omega) ((hall 1 (by omega)).resolve_left (adjV 0 h)) a2W
      · exact other nW (by omega) (by omega) hd (k0 := 0) (by omega) h a2W
theorem shift8 (M i : Nat) (hi : i < 8) : (M + (i + 1) % 8 * 268435456) % 2147483648 = ((M + i * 268435456) % 2147483648 + 268435456) % 2147483648 := by
  rw [Nat.mod_add_mod]
  by_cases h : i = 7
  · subst h
    have e : M + 7 * 268435456 + 268435456 = M + 2147483648 := Nat.add_assoc M _ _
    rw [e, Nat.add_mod_right]
    have e2 : (7 + 1) % 8 * 268435456 = 0 := rfl
    rw [e2, Nat.add_zero]
  · rw [Nat.mod_eq_of_lt (show i + 1 < 8 by omega), Nat.succ_mul, ← Nat.add_assoc]
theorem third8 (M0 : Nat) (h0 : M0 < 2147483648) : ∃ i, i < 8 ∧ 805306368 ≤ (M0 + i * 268435456) % 2147483648 ∧ (M0 + i * 268435456) % 2147483648 < 1073741824 := by
  obtain ⟨c, r, hr, hM⟩ : ∃ c r, r < 268435456 ∧ M0 = 268435456 * c + r := ⟨M0 / 268435456, M0 % 268435456, Nat.mod_lt _ (by decide), by omega⟩
  by_cases hc : c ≤ 3
  · refine ⟨3 - c, by omega, ?_⟩
    have e : M0 + (3 - c) * 268435456 = 805306368 + r := by omega
    rw [e, Nat.mod_eq_of_lt (by omega)]
    exact ⟨by omega, by omega⟩
  · refine ⟨11 - c, by omega, ?_⟩
    have e : M0 + (11 - c) * 268435456 = 805306368 + r + 2147483648 := by omega
    rw [e, Nat.add_mod_right, Nat.mod_eq_of_lt (by omega)]
    exact ⟨by omega, by omega⟩
/-- What a base must be. -/
def Good (A B : Nat) : Prop := 2147483648 ≤ 3 * A ∧ 3 * A ≤ 4294967296 ∧ 67108864 ≤ B ∧ B ≤ 2080374784 ∧ ¬ (1006632960 < A ∧ A < 1140850688 ∧ 1006632960 < B ∧ B < 1140850688)
theorem good_next {A B : Nat} (h1 : 805306368 ≤ A) (h2 : A < 1073741824) (hB : B < 2147483648) (hg : ¬ Good A B) : Good ((A + 268435456) % 2147483648) ((B + 268435456) % 2147483648) := by
  have e : (A + 268435456) % 2147483648 = A + 268435456 := Nat.mod_eq_of_lt (by omega)
  rw [e]
  obtain ⟨C, hC, hC2⟩ : ∃ C, (B + 268435456) % 2147483648 = C ∧ (C = B + 268435456 ∨ C + 2147483648 = B + 268435456) := ⟨_, rfl, by omega⟩
  rw [hC]
  unfold Good at *
  have hCl : C < 2147483648 := by rw [← hC]; exact Nat.mod_lt _ (by decide)
  clear hC e
  refine ⟨Nat.le_of_not_lt fun h => ?_, Nat.le_of_not_lt fun h => ?_, Nat.le_of_not_lt fun h => ?_, Nat.le_of_not_lt fun h => ?_, fun h => ?_⟩
  all_goals omega
/-- One of eight bases serves. -/
theorem base8 (M0 M2 : Nat) (h0 : M0 < 2147483648) : ∃ i, i < 8 ∧ Good ((M0 + i * 268435456) % 2147483648) ((M2 + i * 268435456) % 2147483648) := by
  obtain ⟨i, hi, h1, h2⟩ := third8 M0 h0
  by_cases hg : Good ((M0 + i * 268435456) % 2147483648) ((M2 + i * 268435456) % 2147483648)
  · exact ⟨i, hi, hg⟩
  · refine ⟨(i + 1) % 8, Nat.mod_lt _ (by decide), ?_⟩
    rw [shift8 M0 i hi, shift8 M2 i hi]
    exact good_next h1 h2 (Nat.mod_lt _ (by decide)) hg
/-- **Of any state: within 2^38 steps there is an even place such that neither its draw nor the one two behind is a multiple of three.** -/
theorem lcg_ends (X : Nat) (hX : X < 18446744073709551616) : ∃ n, n < 274877906944 ∧ n % 2 = 0 ∧ it n X / 8589934592 % 3 ≠ 0 ∧ it (n + 2) X / 8589934592 % 3 ≠ 0 := by
  obtain ⟨i, hi, b1, b2, b3, b4, b5⟩ := base8 (mm X) (mm (it 2 X)) (mm_lt _)
  obtain ⟨j, hj, e0, e2⟩ : ∃ j, j < 8 ∧ mm (it (67108864 * j) X) = (mm X + i * 268435456) % 2147483648 ∧ mm (it (67108864 * j) (it 2 X)) = (mm (it 2 X) + i * 268435456) % 2147483648 := by
    have m0 := fun j => (mm26j j X).1
    have m2 := fun j => (mm26j j (it 2 X)).1
    rw [par2] at m2
    generalize mm X = A at *
    generalize mm (it 2 X) = B at *
    have back : ∀ (o C : Nat), (o * o) % 8 = 1 → (C + (o * i % 8) * (o * 268435456)) % 2147483648 = (C + i * 268435456) % 2147483648 := by
      intro o C ho
      have q1 : (o * i % 8) * (o * 268435456) = (o * (o * i % 8)) * 268435456 := by
        rw [← Nat.mul_assoc, Nat.mul_comm (o * i % 8) o]
      have q2 : (o * (o * i % 8)) % 8 = i % 8 := by
        rw [Nat.mul_mod, Nat.mod_mod, ← Nat.mul_mod, ← Nat.mul_assoc, Nat.mul_mod, ho, Nat.one_mul, Nat.mod_mod]
      rw [q1]
      generalize o * (o * i % 8) = z at q2
      omega
    by_cases hp : X % 2 = 0
    · rw [if_pos hp] at m0 m2
      exact ⟨7 * i % 8, Nat.mod_lt _ (by decide), (m0 _).trans (back 7 _ (by decide)), (m2 _).trans (back 7 _ (by decide))⟩
    · rw [if_neg hp] at m0 m2
      exact ⟨3 * i % 8, Nat.mod_lt _ (by decide), (m0 _).trans (back 3 _ (by decide)), (m2 _).trans (back 3 _ (by decide))⟩
  rw [← e0] at b1 b2 b5
  rw [← e2] at b3 b4 b5
  obtain ⟨k, hk, w0, w2⟩ := window (U0 := uu (it (67108864 * j) X)) (U2 := uu (it (67108864 * j) (it 2 X))) (mm_lt _) b1 b2 b3 b4 b5
  rw [← (ap33 k _).1] at w0 w2
  have c0 : it (67108864 * j + 8589934592 * k) X = it (8589934592 * k) (it (67108864 * j) X) := it_add _ _ _
  have c2 : it (67108864 * j + 8589934592 * k + 2) X = it (8589934592 * k) (it (67108864 * j) (it 2 X)) := by
    rw [Nat.add_comm, it_add, it_add]
  refine ⟨67108864 * j + 8589934592 * k, by omega, by omega, ?_, ?_⟩
  · rw [c0]
    exact fun h => w0 ((hit_iff (it_lt (it_lt hX _) _)).1 h)
  · rw [c2]
    exact fun h => w2 ((hit_iff (it_lt (it_lt (it_lt hX _) _) _)).1 h)
#print axioms lcg_ends
end Go.Proofs.YtdijnjigamkhjaaGreatDoor
