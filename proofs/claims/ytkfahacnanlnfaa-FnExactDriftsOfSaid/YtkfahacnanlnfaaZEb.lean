/- Plain laws of the floats: the sum of two products, found in double precision; zeros' signs do not matter. No program in sight. -/
/- Plain laws: entries of products of tables. No program in sight. -/
import Derived.Test.YtkfahacnanlnfaaZMb
namespace Go.Proofs.Ytkfahacnanlnfaa
open Go.RowKit Ieee

def zr (f : Format) (x : Nat) : Prop := ∃ s, f.read x = .number s 0 f.leastPlace
/-- The same word, or both zeros. -/
def lk (f : Format) (x y : Nat) : Prop := x = y ∨ (zr f x ∧ zr f y)
theorem lk.rfl {f : Format} {x : Nat} : lk f x x := .inl (Eq.refl x)
theorem zero_place {f : Format} {x : Nat} {s : Bool} {e : Int} (h : f.read x = .number s 0 e) : e = f.leastPlace := by
  unfold Format.read at h
  have hp : 0 < f.binade := Nat.two_pow_pos _
  dsimp only at h
  split at h
  · injection h with _ h1 h2; exact h2.symm
  · split at h
    · injection h with _ h1 h2; omega
    · split at h <;> cases h
theorem zr_of {f : Format} {x : Nat} {s : Bool} {e : Int} (h : f.read x = .number s 0 e) : zr f x := ⟨s, by rw [h, zero_place h]⟩
theorem zr_word0 (f : Format) (s : Bool) : zr f (f.word s 0) := ⟨s, by rw [read_word f s (Nat.two_pow_pos _), if_pos (show 0 < f.binade from Nat.two_pow_pos _)]⟩
theorem lk_write {f : Format} {d d' : Datum} (h : like d d') : lk f (f.write d) (f.write d') := by
  rcases h with rfl | ⟨s, s', e, e', rfl, rfl⟩
  · exact .rfl
  · rw [write_zero, write_zero]; exact .inr ⟨zr_word0 f s, zr_word0 f s'⟩
theorem lk.read {f : Format} {x y : Nat} (h : lk f x y) {s : Bool} {m : Nat} {i : Int} (hx : f.read x = .number s m i) : ∃ s', f.read y = .number s' m i ∧ (m = 0 ∨ s' = s) := by
  rcases h with rfl | ⟨⟨a, ha⟩, ⟨b, hb⟩⟩
  · exact ⟨s, hx, .inr (Eq.refl s)⟩
  · rw [ha] at hx
    injection hx with h1 h2 h3
    subst h1 h2 h3
    exact ⟨b, hb, .inl (Eq.refl 0)⟩
theorem lk_cz {x : Nat} (h : fin32 x = true) : lk single x (cz x) := by
  obtain ⟨s, m, e, hr⟩ := fin_iff.1 h
  cases m with
  | zero =>
    have hz : cz x = 0 := by unfold cz; rw [hr]; rfl
    rw [hz]
    exact .inr ⟨zr_of hr, zr_of (show single.read 0 = .number false 0 (-149) by decide +kernel)⟩
  | succ m =>
    have hz : cz x = x := by unfold cz; rw [hr]; rfl
    rw [hz]; exact .rfl
theorem lk.cz {x y : Nat} (h : lk single x y) : cz x = cz y := by
  rcases h with rfl | ⟨⟨a, ha⟩, ⟨b, hb⟩⟩
  · rfl
  · unfold Go.Proofs.Ytkfahacnanlnfaa.cz; rw [ha, hb]; exact Eq.refl 0
theorem lk.lim {f : Format} {K : Int} {x y : Nat} (h : lk f x y) (hx : lim f K x) : lim f K y := by
  obtain ⟨s, m, e, hr, hl⟩ := hx
  obtain ⟨s', hr', _⟩ := h.read hr
  exact ⟨s', m, e, hr', hl⟩

theorem op_lk {f : Format} {x y x' y' : Nat} {s t : Bool} {m n : Nat} {i j : Int} (h : lk f x y) (h' : lk f x' y') (hx : f.read x = .number s m i) (hx' : f.read x' = .number t n j) :
    (∃ d d', f.add x x' = some (f.write d) ∧ f.add y y' = some (f.write d') ∧ like d d') ∧ (∃ d d', f.sub x x' = some (f.write d) ∧ f.sub y y' = some (f.write d') ∧ like d d') ∧ (∃ d d', f.mul x x' = some (f.write d) ∧ f.mul y y' = some (f.write d') ∧ like d d') := by
  obtain ⟨s', hy, hs⟩ := h.read hx
  obtain ⟨t', hy', ht⟩ := h'.read hx'
  refine ⟨?_, ?_, ?_⟩
  · obtain ⟨d, d', h1, h2, h3, _⟩ := sum_like (i := i) (j := j) hs ht
    refine ⟨d, d', ?_, ?_, h3⟩
    · unfold Format.add; rw [hx, hx', h1]; rfl
    · unfold Format.add; rw [hy, hy', h2]; rfl
  · obtain ⟨d, d', h1, h2, h3, _⟩ := sum_like (t := !t) (t' := !t') (i := i) (j := j) hs (ht.imp id (fun h => by rw [h]))
    refine ⟨d, d', ?_, ?_, h3⟩
    · unfold Format.sub; rw [hx, hx']; show (Datum.sum _ (.number (!t) n j)).map _ = _; rw [h1]; rfl
    · unfold Format.sub; rw [hy, hy']; show (Datum.sum _ (.number (!t') n j)).map _ = _; rw [h2]; rfl
  · obtain ⟨d, d', h1, h2, h3, _⟩ := product_like (i := i) (j := j) hs ht
    refine ⟨d, d', ?_, ?_, h3⟩
    · unfold Format.mul; rw [hx, hx', h1]; rfl
    · unfold Format.mul; rw [hy, hy', h2]; rfl

/-! Double precision. -/
theorem lim_wide {a : Nat} {K : Int} (h : lim single K a) : lim double K (wide a) := by
  obtain ⟨s, m, e, hr, hl⟩ := h
  obtain ⟨_, h0, h1⟩ := wide_num hr
  by_cases hm : m = 0
  · exact ⟨s, 0, -1074, h0 hm, le2_zero _ _⟩
  · obtain ⟨k, _, hr', _⟩ := h1 hm
    exact ⟨s, _, _, hr', hl.shift⟩
theorem lk_wide {x y : Nat} (h : lk single x y) : lk double (wide x) (wide y) := by
  rcases h with rfl | ⟨⟨a, ha⟩, ⟨b, hb⟩⟩
  · exact .rfl
  · exact .inr ⟨zr_of ((wide_num ha).2.1 (Eq.refl 0)), zr_of ((wide_num hb).2.1 (Eq.refl 0))⟩
theorem zr_wide {x : Nat} (h : zr single x) : zr double (wide x) := by
  obtain ⟨a, ha⟩ := h
  exact zr_of ((wide_num ha).2.1 (Eq.refl 0))
/-- The product in double precision. -/
def dm (x y : Nat) : Nat := (double.mul x y).getD 0
def da (x y : Nat) : Nat := (double.add x y).getD 0
theorem dm_lim {x y : Nat} {K L : Int} (hx : lim double K x) (hy : lim double L y) (h1 : -1074 ≤ K + L) (h2 : K + L ≤ 1023) :
    double.mul x y = some (dm x y) ∧ lim double (K + L) (dm x y) ∧ (zr double x ∨ zr double y → zr double (dm x y)) := by
  obtain ⟨s, m, e, ra, la⟩ := hx
  obtain ⟨t, n, f, rb, lb⟩ := hy
  have h : double.mul x y = some (double.write (.number (s ^^ t) (m * n) (e + f))) := by
    unfold Format.mul
    rw [ra, rb]
    rfl
  unfold dm
  rw [h]
  refine ⟨rfl, lim_write64 (la.mul lb) h1 h2, fun hz => ?_⟩
  have h0 : m * n = 0 := by
    rcases hz with ⟨a, ha⟩ | ⟨a, ha⟩
    · rw [ra] at ha; injection ha with _ h; rw [h, Nat.zero_mul]
    · rw [rb] at ha; injection ha with _ h; rw [h, Nat.mul_zero]
  rw [h0, Option.getD_some, write_zero]
  exact zr_word0 _ _
theorem le2_sum0 {s t : Bool} {m : Nat} {e f K : Int} (h : le2 m e K) :
    le2 (signed s m (e - min e f).toNat + signed t 0 (f - min e f).toNat).natAbs (min e f) K ∧ le2 (signed t 0 (f - min f e).toNat + signed s m (e - min f e).toNat).natAbs (min f e) K := by
  rw [signed_zero, signed_zero, Int.add_zero, Int.zero_add, signed_abs, signed_abs]
  have e1 := h.shift (d := (e - min e f).toNat)
  have e2 := h.shift (d := (e - min f e).toNat)
  rw [show e - ((e - min e f).toNat : Int) = min e f by omega] at e1
  rw [show e - ((e - min f e).toNat : Int) = min f e by omega] at e2
  exact ⟨e1, e2⟩
theorem da_lim {x y : Nat} {K : Int} (hx : lim double K x) (hy : lim double K y) (h1 : -1074 ≤ K) (h2 : K < 1023) :
    double.add x y = some (da x y) ∧ lim double (K + 1) (da x y) := by
  obtain ⟨s, m, e, ra, la⟩ := hx
  obtain ⟨t, n, f, rb, lb⟩ := hy
  have h : double.add x y = some (double.write (.number (if signed s m (e - min e f).toNat + signed t n (f - min e f).toNat = 0 then s && t else signed s m (e - min e f).toNat + signed t n (f - min e f).toNat < 0) (signed s m (e - min e f).toNat + signed t n (f - min e f).toNat).natAbs (min e f))) := by
    unfold Format.add
    rw [ra, rb]
    rfl
  unfold da
  rw [h]
  exact ⟨rfl, lim_write64 (le2_sum la lb) (by omega) (by omega)⟩
theorem da_lim0 {x y : Nat} {K : Int} (hx : lim double K x) (hy : lim double K y) (hz : zr double x ∨ zr double y) (h1 : -1074 ≤ K) (h2 : K < 1023) :
    lim double K (da x y) := by
  obtain ⟨s, m, e, ra, la⟩ := hx
  obtain ⟨t, n, f, rb, lb⟩ := hy
  have h : double.add x y = some (double.write (.number (if signed s m (e - min e f).toNat + signed t n (f - min e f).toNat = 0 then s && t else signed s m (e - min e f).toNat + signed t n (f - min e f).toNat < 0) (signed s m (e - min e f).toNat + signed t n (f - min e f).toNat).natAbs (min e f))) := by
    unfold Format.add
    rw [ra, rb]
    rfl
  unfold da
  rw [h]
  refine lim_write64 ?_ (by omega) (by omega)
  rcases hz with ⟨a, ha⟩ | ⟨a, ha⟩
  · rw [ra] at ha; injection ha with _ h0 _; subst h0; exact (le2_sum0 lb).2
  · rw [rb] at ha; injection ha with _ h0 _; subst h0; exact (le2_sum0 la).1
/-- A word of double precision in single precision. -/
def nw (v : Nat) : Nat := (floatToFloatBits .f64 v .f32).getD 0
theorem nw_num {v m : Nat} {s : Bool} {e K : Int} (hr : double.read v = .number s m e) (hl : le2 m e K) (h1 : -149 ≤ K) (h2 : K ≤ 127) :
    floatToFloatBits .f64 v .f32 = some (single.write (.number s m e)) ∧ nw v = single.write (.number s m e) ∧ lim single K (nw v) := by
  have hw := lim_write32 (s := s) hl h1 h2
  have hd : FloatKind.decode .f64 v = .number s m e := hr
  have hne : FloatKind.f64 ≠ FloatKind.f32 := by decide
  have hv : floatToFloatBits .f64 v .f32 = some (single.write (.number s m e)) := by
    unfold floatToFloatBits
    rw [if_neg hne, hd]
    simp only
    have : (FloatKind.decode .f32 (FloatKind.encode .f32 (.number s m e))).isInfinity = false := by
      show (single.read (single.write (.number s m e))).isInfinity = false
      obtain ⟨s', m', e', h, _⟩ := hw
      rw [h]; rfl
    rw [this]; rfl
  have e1 : nw v = single.write (.number s m e) := by unfold nw; rw [hv]; rfl
  rw [e1]
  exact ⟨hv, rfl, hw⟩
theorem lk_nw {x y : Nat} {K : Int} (h : lk double x y) (hx : lim double K x) (h1 : -149 ≤ K) (h2 : K ≤ 127) : lk single (nw x) (nw y) := by
  obtain ⟨s, m, e, hr, hl⟩ := hx
  obtain ⟨s', hr', hs⟩ := h.read hr
  rw [(nw_num hr hl h1 h2).2.1, (nw_num hr' hl h1 h2).2.1]
  refine lk_write ?_
  rcases hs with rfl | rfl
  · exact .inr ⟨_, _, _, _, rfl, rfl⟩
  · exact .inl rfl
/-- a b + c d. -/
def exV (a b c d : Nat) : Nat := nw (da (dm (wide a) (wide b)) (dm (wide c) (wide d)))
/-- What the steps to it answer. -/
def ExRun (a b c d : Nat) : Prop := double.mul (wide a) (wide b) = some (dm (wide a) (wide b)) ∧ double.mul (wide c) (wide d) = some (dm (wide c) (wide d)) ∧
  double.add (dm (wide a) (wide b)) (dm (wide c) (wide d)) = some (da (dm (wide a) (wide b)) (dm (wide c) (wide d))) ∧ floatToFloatBits .f64 (da (dm (wide a) (wide b)) (dm (wide c) (wide d))) .f32 = some (exV a b c d)
theorem ex_ok {a b c d : Nat} {K L K' L' M : Int} (ha : lim single K a) (hb : lim single L b) (hc : lim single K' c) (hd : lim single L' d) (h1 : K + L ≤ M) (h2 : K' + L' ≤ M) (h3 : -149 ≤ K + L) (h4 : -149 ≤ K' + L') (h5 : M < 127) :
    ExRun a b c d ∧ lim single (M + 1) (exV a b c d) ∧ ((zr single a ∨ zr single b) ∨ (zr single c ∨ zr single d) → lim single M (exV a b c d)) := by
  obtain ⟨r1, l1, z1⟩ := dm_lim (lim_wide ha) (lim_wide hb) (by omega) (by omega)
  obtain ⟨r2, l2, z2⟩ := dm_lim (lim_wide hc) (lim_wide hd) (by omega) (by omega)
  obtain ⟨r3, l3⟩ := da_lim (l1.mono h1) (l2.mono h2) (by omega) (by omega)
  have l3' := l3
  obtain ⟨s, m, e, hr, hl⟩ := l3
  obtain ⟨r4, e4, l4⟩ := nw_num hr hl (by omega) (by omega)
  refine ⟨⟨r1, r2, r3, ?_⟩, l4, fun hz => ?_⟩
  · show _ = some (nw _); rw [r4, e4]
  · have l5 := da_lim0 (l1.mono h1) (l2.mono h2) (hz.imp (fun h => z1 (h.imp zr_wide zr_wide)) (fun h => z2 (h.imp zr_wide zr_wide))) (by omega) (by omega)
    obtain ⟨s, m, e, hr, hl⟩ := l5
    exact (nw_num hr hl (by omega) (by omega)).2.2
theorem dm_lk {x y x' y' : Nat} {K L : Int} (h : lk double x y) (h' : lk double x' y') (hx : lim double K x) (hx' : lim double L x') : lk double (dm x x') (dm y y') := by
  obtain ⟨s, m, e, hr, _⟩ := hx
  obtain ⟨t, n, f, hr', _⟩ := hx'
  obtain ⟨_, _, d, d', h1, h2, h3⟩ := op_lk h h' hr hr'
  unfold dm
  rw [h1, h2]
  exact lk_write h3
theorem da_lk {x y x' y' : Nat} {K L : Int} (h : lk double x y) (h' : lk double x' y') (hx : lim double K x) (hx' : lim double L x') : lk double (da x x') (da y y') := by
  obtain ⟨s, m, e, hr, _⟩ := hx
  obtain ⟨t, n, f, hr', _⟩ := hx'
  obtain ⟨⟨d, d', h1, h2, h3⟩, _⟩ := op_lk h h' hr hr'
  unfold da
  rw [h1, h2]
  exact lk_write h3
theorem ex_lk {a b c d a' b' c' d' : Nat} {K L K' L' M : Int} (ha : lim single K a) (hb : lim single L b) (hc : lim single K' c) (hd : lim single L' d) (h1 : K + L ≤ M) (h2 : K' + L' ≤ M) (h3 : -149 ≤ K + L) (h4 : -149 ≤ K' + L') (h5 : M < 127)
    (la : lk single a a') (lb : lk single b b') (lc : lk single c c') (ld : lk single d d') : lk single (exV a b c d) (exV a' b' c' d') := by
  obtain ⟨r1, l1, z1⟩ := dm_lim (lim_wide ha) (lim_wide hb) (by omega) (by omega)
  obtain ⟨r2, l2, z2⟩ := dm_lim (lim_wide hc) (lim_wide hd) (by omega) (by omega)
  obtain ⟨r3, l3⟩ := da_lim (l1.mono h1) (l2.mono h2) (by omega) (by omega)
  exact lk_nw (da_lk (dm_lk (lk_wide la) (lk_wide lb) (lim_wide ha) (lim_wide hb)) (dm_lk (lk_wide lc) (lk_wide ld) (lim_wide hc) (lim_wide hd)) l1 l2) l3 (by omega) (by omega)
theorem op32_lk {x y x' y' : Nat} {K L : Int} (h : lk single x y) (h' : lk single x' y') (hx : lim single K x) (hx' : lim single L x') :
    lk single (op32 .add x x') (op32 .add y y') ∧ lk single (op32 .sub x x') (op32 .sub y y') := by
  obtain ⟨s, m, e, hr, _⟩ := hx
  obtain ⟨t, n, f, hr', _⟩ := hx'
  obtain ⟨⟨d, d', h1, h2, h3⟩, ⟨d2, d2', h12, h22, h32⟩, _⟩ := op_lk h h' hr hr'
  constructor
  · have e1 : op32 .add x x' = single.write d := by unfold op32; show (single.add x x').getD 0 = _; rw [h1]; rfl
    have e2 : op32 .add y y' = single.write d' := by unfold op32; show (single.add y y').getD 0 = _; rw [h2]; rfl
    rw [e1, e2]; exact lk_write h3
  · have e1 : op32 .sub x x' = single.write d2 := by unfold op32; show (single.sub x x').getD 0 = _; rw [h12]; rfl
    have e2 : op32 .sub y y' = single.write d2' := by unfold op32; show (single.sub y y').getD 0 = _; rw [h22]; rfl
    rw [e1, e2]; exact lk_write h32
end Go.Proofs.Ytkfahacnanlnfaa
namespace Go.Proofs.Ytkfahacnanlnfaa
open Go.RowKit Ieee

/-- The word with the other sign. -/
def ng (x : Nat) : Nat := x ^^^ 2147483648
theorem ng_read {x m : Nat} {s : Bool} {e : Int} (h : single.read x = .number s m e) : single.read (ng x) = .number (!s) m e := by
  have h1 : ng x % 2147483648 = x % 2147483648 := by
    unfold ng
    have := Nat.xor_mod_two_pow (a := x) (b := 2147483648) (n := 31)
    rw [show (2 : Nat) ^ 31 = 2147483648 by decide] at this
    rw [this]
    have e : 2147483648 % 2147483648 = 0 := by decide
    rw [e, Nat.xor_zero]
  have h2 : ng x / 2147483648 = x / 2147483648 ^^^ 1 := by
    unfold ng
    have := Nat.xor_div_two_pow (a := x) (b := 2147483648) (n := 31)
    rw [show (2 : Nat) ^ 31 = 2147483648 by decide] at this
    rw [this]
  have h3 : ∀ y : Nat, ((y ^^^ 1) % 2 == 1) = !(y % 2 == 1) := by
    intro y
    have := Nat.xor_mod_two_pow (a := y) (b := 1) (n := 1)
    rw [show (2 : Nat) ^ 1 = 2 by decide] at this
    rw [this]
    rcases Nat.mod_two_eq_zero_or_one y with h | h <;> rw [h] <;> decide
  have h4 : single.signWeight = 2147483648 := s_sign
  have key : ∀ y, single.read y = (if y % 2147483648 < single.binade then .number (y / 2147483648 % 2 == 1) (y % 2147483648) single.leastPlace
      else if y % 2147483648 < single.infRung then .number (y / 2147483648 % 2 == 1) (single.binade + y % 2147483648 % single.binade) (single.leastPlace + (y % 2147483648 / single.binade - 1 : Nat))
      else if y % 2147483648 = single.infRung then .infinity (y / 2147483648 % 2 == 1) else .nan (y / 2147483648 % 2 == 1) (y % 2147483648 - single.infRung)) := by
    intro y
    unfold Format.read
    rw [h4]
  rw [key] at h ⊢
  rw [h1, h2, h3]
  split at h
  · rename_i h0
    injection h with a b c
    rw [← a, ← b, ← c, if_pos h0]
  · rename_i h0
    rw [if_neg h0]
    split at h
    · rename_i h0
      injection h with a b c
      rw [← a, ← b, ← c, if_pos h0]
    · split at h <;> cases h
theorem lim_ng {x : Nat} {K : Int} (h : lim single K x) : lim single K (ng x) := by
  obtain ⟨s, m, e, hr, hl⟩ := h
  exact ⟨_, m, e, ng_read hr, hl⟩
theorem zr_ng {x : Nat} (h : zr single x) : zr single (ng x) := by
  obtain ⟨s, hr⟩ := h
  exact ⟨_, ng_read hr⟩
theorem lk_ng {x y : Nat} (h : lk single x y) : lk single (ng x) (ng y) := by
  rcases h with rfl | ⟨h1, h2⟩
  · exact .rfl
  · exact .inr ⟨zr_ng h1, zr_ng h2⟩

/-- An entry of a product: the sum of two products of complex numbers. -/
def eRe (a b c d p q r s : Nat) : Nat := op32 .add (exV a c (ng b) d) (exV p r (ng q) s)
def eIm (a b c d p q r s : Nat) : Nat := op32 .add (exV a d b c) (exV p s q r)
/-- Both parts are at most 1. -/
def uni (a b : Nat) : Prop := lim single 0 a ∧ lim single 0 b
def two (K : Int) (c d : Nat) : Prop := lim single K c ∧ lim single K d
/-- A row of a pulse's table: each entry is real or imaginary, or the other one is 0. -/
def rowOk (a b p q : Nat) : Prop := uni a b ∧ uni p q ∧ (((zr single a ∨ zr single b) ∧ (zr single p ∨ zr single q)) ∨ (zr single p ∧ zr single q) ∨ (zr single a ∧ zr single b))
/-- The steps of a product of complex numbers are numbers. -/
def MulOk (a b c d : Nat) : Prop := ExRun a c (ng b) d ∧ ExRun a d b c ∧ fin32 (exV a c (ng b) d) = true ∧ fin32 (exV a d b c) = true
theorem da_zr {x y : Nat} (hx : zr double x) (hy : zr double y) : zr double (da x y) := by
  obtain ⟨s, ra⟩ := hx
  obtain ⟨t, rb⟩ := hy
  have h : ∃ u e, double.add x y = some (double.write (.number u 0 e)) := by
    refine ⟨s && t, double.leastPlace, ?_⟩
    unfold Format.add
    rw [ra, rb]
    unfold Datum.sum
    simp only [signed_zero]
    rfl
  obtain ⟨u, e, h⟩ := h
  unfold da
  rw [h, Option.getD_some, write_zero]
  exact zr_word0 _ _
theorem nw_zr {x : Nat} (hx : zr double x) : zr single (nw x) := by
  obtain ⟨s, hr⟩ := hx
  rw [(nw_num (K := 0) hr (le2_zero _ _) (by decide) (by decide)).2.1, write_zero]
  exact zr_word0 _ _
theorem ex_zr {a b c d : Nat} {K L : Int} (ha : zr single a) (hb : lim single K b) (hc : zr single c) (hd : lim single L d) (h1 : -1074 ≤ K) (h2 : K ≤ 1023) (h3 : -1074 ≤ L) (h4 : L ≤ 1023) : zr single (exV a b c d) := by
  have l0 : ∀ {x : Nat}, zr single x → lim single 0 x := fun ⟨s, h⟩ => ⟨s, 0, _, h, le2_zero _ _⟩
  obtain ⟨_, _, z1⟩ := dm_lim (lim_wide (l0 ha)) (lim_wide hb) (by omega) (by omega)
  obtain ⟨_, _, z2⟩ := dm_lim (lim_wide (l0 hc)) (lim_wide hd) (by omega) (by omega)
  exact nw_zr (da_zr (z1 (.inl (zr_wide ha))) (z2 (.inl (zr_wide hc))))
theorem lim_add0 {x y : Nat} {K : Int} (hx : lim single K x) (hy : lim single K y) (hz : zr single x ∨ zr single y) (h1 : -149 ≤ K) (h2 : K ≤ 127) : lim single K (op32 .add x y) := by
  obtain ⟨s, m, e, ra, la⟩ := hx
  obtain ⟨t, n, f, rb, lb⟩ := hy
  have h : floatBits .add .f32 x y = some (single.write (.number (if signed s m (e - min e f).toNat + signed t n (f - min e f).toNat = 0 then s && t else signed s m (e - min e f).toNat + signed t n (f - min e f).toNat < 0) (signed s m (e - min e f).toNat + signed t n (f - min e f).toNat).natAbs (min e f))) := by
    show single.add x y = _
    unfold Format.add
    rw [ra, rb]
    rfl
  unfold op32
  rw [h]
  refine lim_write32 ?_ (by omega) (by omega)
  rcases hz with ⟨a, ha⟩ | ⟨a, ha⟩
  · rw [ra] at ha; injection ha with _ h0 _; subst h0; exact (le2_sum0 lb).2
  · rw [rb] at ha; injection ha with _ h0 _; subst h0; exact (le2_sum0 la).1
theorem mul_ok {a b c d : Nat} {K : Int} (h : uni a b) (h' : two K c d) (h1 : -149 ≤ K) (h2 : K < 126) : MulOk a b c d ∧ two (K + 1) (exV a c (ng b) d) (exV a d b c) ∧
    (zr single a ∨ zr single b → two K (exV a c (ng b) d) (exV a d b c)) ∧ (zr single a ∧ zr single b → zr single (exV a c (ng b) d) ∧ zr single (exV a d b c)) := by
  obtain ⟨ha, hb⟩ := h
  obtain ⟨hc, hd⟩ := h'
  obtain ⟨r1, l1, z1⟩ := ex_ok (M := K) ha hc (lim_ng hb) hd (by omega) (by omega) (by omega) (by omega) (by omega)
  obtain ⟨r2, l2, z2⟩ := ex_ok (M := K) ha hd hb hc (by omega) (by omega) (by omega) (by omega) (by omega)
  refine ⟨⟨r1, r2, l1.fin, l2.fin⟩, ⟨l1, l2⟩, fun hz => ⟨z1 (hz.imp .inl (fun h => .inl (zr_ng h))), z2 (hz.imp .inl (fun h => .inl h))⟩, fun hz => ⟨ex_zr hz.1 hc (zr_ng hz.2) hd (by omega) (by omega) (by omega) (by omega), ex_zr hz.1 hd hz.2 hc (by omega) (by omega) (by omega) (by omega)⟩⟩
theorem mul_lk {a b c d a' b' c' d' : Nat} {K : Int} (h : uni a b) (h' : two K c d) (h1 : -149 ≤ K) (h2 : K < 126) (la : lk single a a') (lb : lk single b b') (lc : lk single c c') (ld : lk single d d') :
    lk single (exV a c (ng b) d) (exV a' c' (ng b') d') ∧ lk single (exV a d b c) (exV a' d' b' c') :=
  ⟨ex_lk (M := K) h.1 h'.1 (lim_ng h.2) h'.2 (by omega) (by omega) (by omega) (by omega) (by omega) la lc (lk_ng lb) ld,
   ex_lk (M := K) h.1 h'.2 h.2 h'.1 (by omega) (by omega) (by omega) (by omega) (by omega) la ld lb lc⟩
/-- An entry grows to at most the double. -/
theorem ent_ok {a b c d p q r s : Nat} {K : Int} (h : rowOk a b p q) (h' : two K c d) (g' : two K r s) (h1 : -149 ≤ K) (h2 : K < 125) :
    two (K + 1) (eRe a b c d p q r s) (eIm a b c d p q r s) := by
  obtain ⟨ha, hp, hc⟩ := h
  obtain ⟨_, l1, p1, z1⟩ := mul_ok ha h' h1 (by omega)
  obtain ⟨_, l2, p2, z2⟩ := mul_ok hp g' h1 (by omega)
  rcases hc with ⟨c1, c2⟩ | hz | hz
  · exact ⟨(lim_add (p1 c1).1 (p2 c2).1 h1 (by omega)).1, (lim_add (p1 c1).2 (p2 c2).2 h1 (by omega)).1⟩
  · exact ⟨lim_add0 l1.1 l2.1 (.inr (z2 hz).1) (by omega) (by omega), lim_add0 l1.2 l2.2 (.inr (z2 hz).2) (by omega) (by omega)⟩
  · exact ⟨lim_add0 l1.1 l2.1 (.inl (z1 hz).1) (by omega) (by omega), lim_add0 l1.2 l2.2 (.inl (z1 hz).2) (by omega) (by omega)⟩
/-- The program's entry, where no failure is kept. -/
theorem ent_lk {a b c d p q r s a' b' c' d' p' q' r' s' : Nat} {K : Int} (h : uni a b) (h' : two K c d) (g : uni p q) (g' : two K r s) (h1 : -149 ≤ K) (h2 : K < 125)
    (la : lk single a a') (lb : lk single b b') (lc : lk single c c') (ld : lk single d d') (lp : lk single p p') (lq : lk single q q') (lr : lk single r r') (ls : lk single s s') :
    cz (op32 .add (cz (exV a' c' (ng b') d')) (cz (exV p' r' (ng q') s'))) = cz (eRe a b c d p q r s) ∧ cz (op32 .add (cz (exV a' d' b' c')) (cz (exV p' s' q' r'))) = cz (eIm a b c d p q r s) := by
  obtain ⟨⟨_, _, f1, f2⟩, ⟨l1, l2⟩, _⟩ := mul_ok h h' h1 (by omega)
  obtain ⟨⟨_, _, f3, f4⟩, ⟨l3, l4⟩, _⟩ := mul_ok g g' h1 (by omega)
  obtain ⟨k1, k2⟩ := mul_lk h h' h1 (by omega) la lb lc ld
  obtain ⟨k3, k4⟩ := mul_lk g g' h1 (by omega) lp lq lr ls
  rw [← k1.cz, ← k2.cz, ← k3.cz, ← k4.cz]
  exact ⟨((op32_lk (lk_cz f1) (lk_cz f3) l1 l3).1.cz).symm, ((op32_lk (lk_cz f2) (lk_cz f4) l2 l4).1.cz).symm⟩
end Go.Proofs.Ytkfahacnanlnfaa
