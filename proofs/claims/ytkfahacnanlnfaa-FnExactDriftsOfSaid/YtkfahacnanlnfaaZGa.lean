/- Plain laws of the floats: sizes, the greatest of three. No program in sight. -/
import Derived.Test.YtkfahacnanlnfaaZEb
namespace Go.Proofs.Ytkfahacnanlnfaa
open Go.RowKit Ieee

/-! A word that is written and read comes back. -/
theorem word_lt {s : Bool} {r : Nat} (h : r < 2147483648) : single.word s r < 4294967296 := by
  unfold Format.word
  rw [s_sign]
  cases s <;> simp <;> omega
theorem op32_lt {o : BinOp} (ho : o = .add ∨ o = .sub) {a b : Nat} (ha : fin32 a = true) (hb : fin32 b = true) : op32 o a b < 4294967296 := by
  obtain ⟨s, m, e, ra⟩ := fin_iff.1 ha
  obtain ⟨t, n, f, rb⟩ := fin_iff.1 hb
  have key : ∀ (u : Bool) (k : Nat) (g : Int), single.write (.number u k g) < 4294967296 := by
    intro u k g
    obtain ⟨r, hr, h⟩ := nearest_rung single u k g
    show single.nearest u k g < _
    rw [h]
    exact word_lt (by rw [s_inf] at hr; omega)
  rcases ho with rfl | rfl
  · unfold op32
    show (single.add a b).getD 0 < _
    unfold Format.add
    rw [ra, rb]
    exact key _ _ _
  · unfold op32
    show (single.sub a b).getD 0 < _
    unfold Format.sub
    rw [ra, rb]
    exact key _ _ _
theorem cut_exact' (s : Bool) (m d : Nat) (hm : m ≠ 0) : Toward.even.cut s (m * 2 ^ d) d = m := by
  have h : Toward.even.cut s (m * 2 ^ d) d = Toward.even.cut false (m * 2 ^ d) d := rfl
  rw [h, cut_exact m d d hm (Nat.le_refl _), Nat.sub_self, Nat.pow_zero, Nat.mul_one]
theorem log2_mul_pow {m : Nat} (hm : m ≠ 0) (j : Nat) : (m * 2 ^ j).log2 = m.log2 + j := by
  have hp : 0 < 2 ^ j := Nat.two_pow_pos j
  have hne : m * 2 ^ j ≠ 0 := Nat.mul_ne_zero hm (by omega)
  obtain ⟨l1, l2⟩ := log2_bounds hm
  rw [Nat.log2_eq_iff hne]
  constructor
  · rw [Nat.pow_add]; exact Nat.mul_le_mul_right _ l1
  · rw [show m.log2 + j + 1 = m.log2 + 1 + j by omega, Nat.pow_add]; exact Nat.mul_lt_mul_of_pos_right l2 hp
theorem rung_back {r b q t I : Nat} (h : b * q + t = r) (h1 : 1 ≤ q) (h2 : r < I) : min ((q - 1) * b + (b + t)) I = r := by
  obtain ⟨p, rfl⟩ : ∃ p, q = p + 1 := ⟨q - 1, by omega⟩
  have e : (p + 1 - 1) * b + (b + t) = r := by
    rw [← h, Nat.mul_succ, Nat.add_sub_cancel, Nat.mul_comm p b, Nat.add_assoc]
  rw [e]
  exact Nat.min_eq_left (Nat.le_of_lt h2)
theorem write_back {x m : Nat} {s : Bool} {e : Int} (hx : single.read x = .number s m e) (hlt : x < 4294967296) (hm : m ≠ 0) (j : Nat) : single.nearest s (m * 2 ^ j) (e - j) = x := by
  have hp : 0 < 2 ^ j := Nat.two_pow_pos j
  have hne : m * 2 ^ j ≠ 0 := Nat.mul_ne_zero hm (by omega)
  have hfb : (single.fractionBits : Int) = 23 := rfl
  -- what x is
  have hx' := hx
  unfold Format.read at hx'
  rw [s_sign, s_bin, s_inf, s_least] at hx'
  have hw : x = single.word s (x % 2147483648) := by
    have hs : (x / 2147483648 % 2 == 1) = s := by
      dsimp only at hx'
      split at hx'
      · injection hx'
      · split at hx'
        · injection hx'
        · split at hx' <;> cases hx'
    unfold Format.word
    rw [s_sign]
    cases s with
    | true => rw [if_pos rfl]; simp at hs; omega
    | false => rw [if_neg (by decide)]; simp at hs; omega
  obtain ⟨r, hr⟩ : ∃ r, x % 2147483648 = r := ⟨_, rfl⟩
  rw [hr] at hx' hw
  have hcase : (e = -149 ∧ m = r ∧ m < 8388608) ∨ (8388608 ≤ r ∧ r < 2139095040 ∧ m = 8388608 + r % 8388608 ∧ e = -149 + (r / 8388608 - 1 : Nat)) := by
    dsimp only at hx'
    split at hx'
    · injection hx' with h1 h2 h3
      exact .inl ⟨h3.symm, h2.symm, by omega⟩
    · split at hx'
      · injection hx' with h1 h2 h3
        exact .inr ⟨by omega, by omega, h2.symm, h3.symm⟩
      · split at hx' <;> cases hx'
  have hlog : m.log2 ≤ 23 ∧ (m.log2 < 23 → e = -149) ∧ -149 ≤ e := by
    rcases hcase with ⟨h1, h2, h3⟩ | ⟨h1, h2, h3, h4⟩
    · have : m.log2 < 23 := (Nat.log2_lt hm).2 (by omega)
      exact ⟨by omega, fun _ => h1, by omega⟩
    · have e1 : m.log2 = 23 := (Nat.log2_eq_iff hm).2 ⟨by omega, by omega⟩
      exact ⟨by omega, fun h => by omega, by omega⟩
  unfold Format.nearest
  rw [if_neg hne]
  dsimp only
  rw [log2_mul_pow hm, s_least, hfb]
  have hlast : max (e - (j : Int) + ((m.log2 + j : Nat) : Int) - 23) (-149) = e := by
    rcases (by omega : m.log2 = 23 ∨ m.log2 < 23) with h | h
    · omega
    · have := hlog.2.1 h; omega
  rw [hlast]
  have e1 : (e - (j : Int) - e).toNat = 0 := by omega
  have e2 : (e - (e - (j : Int))).toNat = j := by omega
  rw [e1, e2, Nat.shiftLeft_zero, cut_exact' s m j hm, s_bin, s_inf]
  rw [hw]
  congr 1
  rcases hcase with ⟨h1, h2, h3⟩ | ⟨h1, h2, h3, h4⟩
  · have : (e - -149).toNat = 0 := by omega
    rw [this]; omega
  · have h6 : (e - -149).toNat = r / 8388608 - 1 := by rw [h4]; omega
    have h5 : 1 ≤ r / 8388608 := (Nat.le_div_iff_mul_le (by decide)).2 (by omega)
    rw [h6, h3]
    exact rung_back (Nat.div_add_mod r 8388608) h5 h2
theorem sub_form {x y m n : Nat} {s t : Bool} {e f : Int} (hx : single.read x = .number s m e) (hy : single.read y = .number t n f) :
    op32 .sub x y = single.write (.number (if signed s m (e - min e f).toNat + signed (!t) n (f - min e f).toNat = 0 then s && !t else signed s m (e - min e f).toNat + signed (!t) n (f - min e f).toNat < 0) (signed s m (e - min e f).toNat + signed (!t) n (f - min e f).toNat).natAbs (min e f)) := by
  unfold op32
  show (single.sub x y).getD 0 = _
  unfold Format.sub
  rw [hx, hy]
  rfl
theorem sub_zero {x m : Nat} {s : Bool} {e : Int} (hx : single.read x = .number s m e) (hlt : x < 4294967296) : cz (op32 .sub x 0) = cz x := by
  have h0 : single.read 0 = .number false 0 (-149) := by decide +kernel
  have he := (num32 hx).2.1
  have hsub := sub_form hx h0
  rw [hsub, signed_zero, Int.add_zero, signed_abs]
  have hmin : min e (-149) = -149 := by omega
  rw [hmin]
  obtain ⟨j, hj⟩ : ∃ j : Nat, (e - -149).toNat = j := ⟨_, rfl⟩
  rw [hj]
  by_cases hm : m = 0
  · subst hm
    rw [Nat.zero_mul, write_zero, cz_word0]
    unfold cz; rw [hx]; rfl
  · have hp : 0 < 2 ^ j := Nat.two_pow_pos j
    have hne : m * 2 ^ j ≠ 0 := Nat.mul_ne_zero hm (by omega)
    have hs : (if signed s m j = 0 then s && !false else decide (signed s m j < 0)) = s := by
      have h2 : signed s m j = if s then -((m * 2 ^ j : Nat) : Int) else ((m * 2 ^ j : Nat) : Int) := by
        unfold signed; rw [Nat.shiftLeft_eq]
      rw [h2]
      clear h2 hsub
      generalize m * 2 ^ j = M at *
      cases s with
      | true =>
        show (if -(M : Int) = 0 then true && !false else decide (-(M : Int) < 0)) = true
        rw [if_neg (by omega)]
        exact decide_eq_true (by omega)
      | false =>
        show (if (M : Int) = 0 then false && !false else decide ((M : Int) < 0)) = false
        rw [if_neg (by omega)]
        exact decide_eq_false (by omega)
    have hb := write_back hx hlt hm j
    rw [show e - (j : Int) = -149 by omega] at hb
    show cz (single.nearest _ _ _) = _
    rw [hs, hb]

/-! Numbers that are not below 0. -/
def nnf (x : Nat) : Prop := ∃ s m e, single.read x = .number s m e ∧ (m = 0 ∨ s = false)
/-- The value, in the least unit. -/
def vl (x : Nat) : Nat := match single.read x with | .number _ m i => m * 2 ^ (i + 149).toNat | _ => 0
theorem vl_of {x m : Nat} {s : Bool} {e : Int} (h : single.read x = .number s m e) : vl x = m * 2 ^ (e + 149).toNat := by unfold vl; rw [h]
theorem nn_signed {m k : Nat} {s : Bool} (h : m = 0 ∨ s = false) : signed s m k = ((m * 2 ^ k : Nat) : Int) := by
  rcases h with rfl | rfl
  · rw [signed_zero]; simp
  · unfold signed; rw [if_neg (by decide), Nat.shiftLeft_eq]
theorem ord_vl {x y : Nat} (hx : nnf x) (hy : nnf y) : single.order x y = some (compare ((vl x : Nat) : Int) ((vl y : Nat) : Int)) := by
  obtain ⟨s, m, i, hx, hs⟩ := hx
  obtain ⟨t, n, j, hy, ht⟩ := hy
  rw [vl_of hx, vl_of hy]
  have h1 := (num32 hx).2.1
  have h2 := (num32 hy).2.1
  unfold Format.order
  rw [hx, hy]
  show some (compare (signed s m (i - min i j).toNat) (signed t n (j - min i j).toNat)) = _
  rw [nn_signed hs, nn_signed ht]
  have e1 : m * 2 ^ (i + 149).toNat = m * 2 ^ (i - min i j).toNat * 2 ^ (min i j + 149).toNat := by
    rw [Nat.mul_assoc, ← Nat.pow_add]; congr 2; omega
  have e2 : n * 2 ^ (j + 149).toNat = n * 2 ^ (j - min i j).toNat * 2 ^ (min i j + 149).toNat := by
    rw [Nat.mul_assoc, ← Nat.pow_add]; congr 2; omega
  rw [e1, e2, cmp_scale (Nat.two_pow_pos _)]
theorem vl_zero {x m : Nat} {s : Bool} {e : Int} (h : single.read x = .number s m e) : vl x = 0 ↔ m = 0 := by
  rw [vl_of h]
  have hp : 0 < 2 ^ (e + 149).toNat := Nat.two_pow_pos _
  constructor
  · intro h; rcases Nat.mul_eq_zero.1 h with h | h
    · exact h
    · omega
  · rintro rfl; simp
theorem nnf.cz {x : Nat} (h : nnf x) : nnf (cz x) ∧ vl (cz x) = vl x ∧ (vl x = 0 → Go.Proofs.Ytkfahacnanlnfaa.cz x = 0) ∧ (single.read (Go.Proofs.Ytkfahacnanlnfaa.cz x)).neg = false := by
  obtain ⟨s, m, e, hr, hs⟩ := h
  have h0 : single.read 0 = .number false 0 (-149) := by decide +kernel
  cases m with
  | zero =>
    have hz : Go.Proofs.Ytkfahacnanlnfaa.cz x = 0 := by unfold Go.Proofs.Ytkfahacnanlnfaa.cz; rw [hr]; rfl
    rw [hz]
    refine ⟨⟨_, _, _, h0, .inl rfl⟩, ?_, fun _ => rfl, by rw [h0]; rfl⟩
    rw [vl_of h0, vl_of hr, Nat.zero_mul, Nat.zero_mul]
  | succ m =>
    obtain rfl : s = false := by rcases hs with h | h; omega; exact h
    have hz : Go.Proofs.Ytkfahacnanlnfaa.cz x = x := by unfold Go.Proofs.Ytkfahacnanlnfaa.cz; rw [hr]; rfl
    rw [hz]
    refine ⟨⟨_, _, _, hr, .inr rfl⟩, rfl, fun h => ?_, by rw [hr]; rfl⟩
    have := (vl_zero hr).1 h
    omega
/-- The greater of two, as the language has it. -/
def mx (x y : Nat) : Nat := match single.order x y with | some .gt => x | some .eq => if (single.read x).neg then y else x | _ => y
theorem mx_nn {x y : Nat} (hx : nnf x) (hy : nnf y) : mx (cz x) (cz y) = if vl y ≤ vl x then cz x else cz y := by
  obtain ⟨h1, h2, h3, h4⟩ := hx.cz
  obtain ⟨h5, h6, h7, h8⟩ := hy.cz
  unfold mx
  rw [ord_vl h1 h5, h2, h6]
  rcases Nat.lt_trichotomy (vl x) (vl y) with h | h | h
  · rw [cmp_lt (by omega)]
    dsimp only
    rw [if_neg (by omega)]
  · have : compare ((vl x : Nat) : Int) ((vl y : Nat) : Int) = .eq := by rw [h]; simp
    rw [this]
    dsimp only
    rw [h4, if_pos (show vl y ≤ vl x by omega)]; rfl
  · rw [cmp_gt (by omega)]
    dsimp only
    rw [if_pos (by omega)]
theorem gt_nn {x y : Nat} (hx : nnf x) (hy : nnf y) : (single.order y x == some .gt) = decide (vl x < vl y) := by
  rw [ord_vl hy hx]
  rcases Nat.lt_trichotomy (vl x) (vl y) with h | h | h
  · rw [cmp_gt (by omega), decide_eq_true h]; rfl
  · rw [h]
    have : compare ((vl y : Nat) : Int) ((vl y : Nat) : Int) = .eq := by simp
    rw [this, decide_eq_false (by omega)]; rfl
  · rw [cmp_lt (by omega), decide_eq_false (by omega)]; rfl
/-- The absolute value, as the reference finds it. -/
def szR (x : Nat) : Nat := if (single.order x 0 == some .lt) = true then ng x else x
theorem szR_nn {x : Nat} (hf : fin32 x = true) : nnf (szR x) ∧ fin32 (szR x) = true := by
  obtain ⟨s, m, e, hr⟩ := fin_iff.1 hf
  have ho := order_read hr
  unfold szR
  rw [ho]
  cases m with
  | zero => exact ⟨⟨s, 0, e, hr, .inl rfl⟩, hf⟩
  | succ m =>
    cases s with
    | true => exact ⟨⟨false, _, e, ng_read hr, .inr rfl⟩, fin_iff.2 ⟨_, _, _, ng_read hr⟩⟩
    | false => exact ⟨⟨false, _, e, hr, .inr rfl⟩, hf⟩
def ab (x : Nat) : Nat := cz (szR x)
theorem ab_cz {x : Nat} (hf : fin32 x = true) : ab (cz x) = ab x := by
  obtain ⟨s, m, e, hr⟩ := fin_iff.1 hf
  cases m with
  | zero =>
    have hz : cz x = 0 := by unfold cz; rw [hr]; rfl
    have h1 : ab x = 0 := by unfold ab szR; rw [order_read hr]; exact hz
    rw [hz, h1]
    decide +kernel
  | succ m =>
    have hz : cz x = x := by unfold cz; rw [hr]; rfl
    rw [hz]
theorem size_mx {x : Nat} (hf : fin32 x = true) : mx (cz x) (cz (ng x)) = ab x := by
  obtain ⟨s, m, e, hr⟩ := fin_iff.1 hf
  have hn := ng_read hr
  unfold ab szR
  rw [order_read hr]
  cases m with
  | zero =>
    have hz : cz x = 0 := by unfold cz; rw [hr]; rfl
    have hz' : cz (ng x) = 0 := by unfold cz; rw [hn]; rfl
    rw [hz']
    simp only [if_pos]
    rw [show (if (some Ordering.eq == some Ordering.lt) = true then ng x else x) = x from rfl, hz]
    decide +kernel
  | succ m =>
    have hz : cz x = x := by unfold cz; rw [hr]; rfl
    have hz' : cz (ng x) = ng x := by unfold cz; rw [hn]; rfl
    rw [hz, hz', if_neg (Nat.succ_ne_zero m)]
    have hp : 0 < (m + 1) * 2 ^ (e - min e e).toNat := Nat.mul_pos (Nat.succ_pos m) (Nat.two_pow_pos _)
    have hord : single.order x (ng x) = some (compare (signed s (m + 1) (e - min e e).toNat) (signed (!s) (m + 1) (e - min e e).toNat)) := by
      unfold Format.order; rw [hr, hn]; rfl
    unfold mx
    rw [hord]
    cases s with
    | true =>
      have h1 : signed true (m + 1) (e - min e e).toNat = -(((m + 1) * 2 ^ (e - min e e).toNat : Nat) : Int) := by unfold signed; rw [if_pos rfl, Nat.shiftLeft_eq]
      have h2 : signed (!true) (m + 1) (e - min e e).toNat = (((m + 1) * 2 ^ (e - min e e).toNat : Nat) : Int) := by unfold signed; rw [if_neg (by decide), Nat.shiftLeft_eq]
      rw [h1, h2, cmp_lt (by omega)]
      exact hz'.symm
    | false =>
      have h1 : signed false (m + 1) (e - min e e).toNat = (((m + 1) * 2 ^ (e - min e e).toNat : Nat) : Int) := by unfold signed; rw [if_neg (by decide), Nat.shiftLeft_eq]
      have h2 : signed (!false) (m + 1) (e - min e e).toNat = -(((m + 1) * 2 ^ (e - min e e).toNat : Nat) : Int) := by unfold signed; rw [if_pos (by decide), Nat.shiftLeft_eq]
      rw [h1, h2, cmp_gt (by omega)]
      exact hz.symm
/-- The greatest of three absolute values, as the reference finds it. -/
def selA (a b : Nat) : Nat := if (single.order (szR b) (szR a) == some .gt) = true then szR b else szR a
def selR (a b c : Nat) : Nat := if (single.order (szR c) (selA a b) == some .gt) = true then szR c else selA a b
theorem selA_nn {a b : Nat} (ha : fin32 a = true) (hb : fin32 b = true) : nnf (selA a b) ∧ fin32 (selA a b) = true := by
  unfold selA; split
  · exact szR_nn hb
  · exact szR_nn ha
theorem selR_nn {a b c : Nat} (ha : fin32 a = true) (hb : fin32 b = true) (hc : fin32 c = true) : fin32 (selR a b c) = true := by
  unfold selR; split
  · exact (szR_nn hc).2
  · exact (selA_nn ha hb).2
theorem sel_eq {a b c : Nat} (ha : fin32 a = true) (hb : fin32 b = true) (hc : fin32 c = true) : mx (ab a) (mx (mx 0 (ab b)) (ab c)) = cz (selR a b c) := by
  have na := (szR_nn ha).1
  have nb := (szR_nn hb).1
  have nc := (szR_nn hc).1
  unfold selR selA ab
  generalize szR a = A at *
  generalize szR b = B at *
  generalize szR c = C at *
  have n0 : nnf 0 := ⟨false, 0, -149, by decide +kernel, .inl rfl⟩
  have z0 : cz 0 = 0 := by decide +kernel
  have v0 : vl 0 = 0 := by decide +kernel
  have e0 : mx 0 (cz B) = cz B := by
    have := mx_nn n0 nb
    rw [z0, v0] at this
    rw [this]
    split
    · exact (nb.cz.2.2.1 (by omega)).symm
    · rfl
  rw [e0, mx_nn nb nc, gt_nn na nb]
  have nS : nnf (if decide (vl A < vl B) = true then B else A) := by split; exact nb; exact na
  rw [gt_nn nS nc]
  clear nS n0 e0
  by_cases h1 : vl C ≤ vl B
  · rw [if_pos h1, mx_nn na nb]
    by_cases h2 : vl A < vl B
    · have e1 : ¬ vl B ≤ vl A := by omega
      have e2 : ¬ vl B < vl C := by omega
      simp only [h2, e1, e2, decide_true, decide_false, if_true, if_false, Bool.false_eq_true]
    · have e1 : vl B ≤ vl A := by omega
      have e2 : ¬ vl A < vl C := by omega
      simp only [h2, e1, e2, decide_true, decide_false, if_true, if_false, Bool.false_eq_true]
  · rw [if_neg h1, mx_nn na nc]
    by_cases h2 : vl A < vl B
    · have e1 : ¬ vl C ≤ vl A := by omega
      have e2 : vl B < vl C := by omega
      simp only [h2, e1, e2, decide_true, decide_false, if_true, if_false, Bool.false_eq_true]
    · by_cases h3 : vl C ≤ vl A
      · have e2 : ¬ vl A < vl C := by omega
        simp only [h2, h3, e2, decide_true, decide_false, if_true, if_false, Bool.false_eq_true]
      · have e2 : vl A < vl C := by omega
        simp only [h2, h3, e2, decide_true, decide_false, if_true, if_false, Bool.false_eq_true]
end Go.Proofs.Ytkfahacnanlnfaa
