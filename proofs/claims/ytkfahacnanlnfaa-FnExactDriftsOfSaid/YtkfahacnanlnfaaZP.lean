/- Plain laws of the floats: which words are finite; zeros' signs; widening. No program in sight. -/
import Derived.Laws.FloatArith
namespace Go.Proofs.Ytkfahacnanlnfaa
open Ieee

theorem read_word (f : Format) (s : Bool) {rung : Nat} (h : rung < f.signWeight) :
    f.read (f.word s rung) = (if rung < f.binade then .number s rung f.leastPlace
      else if rung < f.infRung then .number s (f.binade + rung % f.binade) (f.leastPlace + (rung / f.binade - 1 : Nat))
      else if rung = f.infRung then .infinity s else .nan s (rung - f.infRung)) := by
  have hp : 0 < f.signWeight := Nat.two_pow_pos _
  have h1 : (f.word s rung) % f.signWeight = rung := by
    unfold Format.word; split
    · rw [Nat.add_mod_left, Nat.mod_eq_of_lt h]
    · exact Nat.mod_eq_of_lt h
  have h2 : ((f.word s rung) / f.signWeight % 2 == 1) = s := by
    unfold Format.word; cases s
    · simp [Nat.div_eq_of_lt h]
    · simp [Nat.add_div_left _ hp, Nat.div_eq_of_lt h]
  unfold Format.read
  simp only [h1, h2]

/-- The word stands for a number. -/
def fin (f : Format) (b : Nat) : Bool := match f.read b with | .number .. => true | _ => false
theorem fin_iff {f : Format} {b : Nat} : fin f b = true ↔ ∃ s m e, f.read b = .number s m e := by
  unfold fin
  split
  · rename_i s m e h; exact ⟨fun _ => ⟨s, m, e, h⟩, fun _ => rfl⟩
  · rename_i h; exact ⟨fun h => (nomatch h), fun ⟨s, m, e, h'⟩ => absurd h' (h s m e)⟩
abbrev fin32 (b : Nat) : Bool := fin single b
abbrev fin64 (b : Nat) : Bool := fin double b

theorem s_sign : single.signWeight = 2147483648 := by decide +kernel
theorem s_bin : single.binade = 8388608 := by decide +kernel
theorem s_inf : single.infRung = 2139095040 := by decide +kernel
theorem s_least : single.leastPlace = -149 := by decide +kernel
theorem d_sign : double.signWeight = 9223372036854775808 := by decide +kernel
theorem d_bin : double.binade = 4503599627370496 := by decide +kernel
theorem d_inf : double.infRung = 9218868437227405312 := by decide +kernel
theorem d_least : double.leastPlace = -1074 := by decide +kernel

theorem num32 {b : Nat} {s : Bool} {m : Nat} {e : Int} (h : single.read b = .number s m e) : m < 16777216 ∧ -149 ≤ e ∧ e ≤ 104 ∧ (m = 0 → e = -149) := by
  unfold Format.read at h
  simp only [s_sign, s_bin, s_inf, s_least] at h
  split at h
  · cases h; refine ⟨by omega, by omega, by omega, fun _ => rfl⟩
  · split at h
    · cases h; refine ⟨by omega, by omega, by omega, fun _ => by omega⟩
    · split at h <;> cases h
theorem num64 {b : Nat} {s : Bool} {m : Nat} {e : Int} (h : double.read b = .number s m e) : m < 9007199254740992 ∧ -1074 ≤ e ∧ e ≤ 971 ∧ (m = 0 → e = -1074) := by
  unfold Format.read at h
  simp only [d_sign, d_bin, d_inf, d_least] at h
  split at h
  · cases h; refine ⟨by omega, by omega, by omega, fun _ => rfl⟩
  · split at h
    · cases h; refine ⟨by omega, by omega, by omega, fun _ => by omega⟩
    · split at h <;> cases h

/-- What is drawn for a NaN is one. -/
theorem nan_word (f : Format) (s : Bool) (r : Nat) (h : f.infRung + 1 + r < f.signWeight) (hb : f.binade ≤ f.infRung) : ∃ a t, f.read (f.word s (f.infRung + 1 + r)) = .nan a t := by
  rw [read_word f s h, if_neg (by omega), if_neg (by omega), if_neg (by omega)]
  exact ⟨_, _, rfl⟩
theorem nan32 (t : Nat) : ∃ s f, single.read ((t % 2) * 2 ^ 31 + 0x7f800000 + 1 + (t / 2) % (2 ^ 23 - 1)) = .nan s f := by
  have hr : (t / 2) % (2 ^ 23 - 1) < 8388607 := Nat.mod_lt _ (by decide)
  generalize (t / 2) % (2 ^ 23 - 1) = r at hr
  have key := fun s => nan_word single s r (by rw [s_inf, s_sign]; omega) (by rw [s_inf, s_bin]; omega)
  rcases Nat.mod_two_eq_zero_or_one t with h | h <;> rw [h]
  · have e : 0 * 2 ^ 31 + 0x7f800000 + 1 + r = single.word false (single.infRung + 1 + r) := by unfold Format.word; rw [s_inf]; simp
    rw [e]; exact key false
  · have e : 1 * 2 ^ 31 + 0x7f800000 + 1 + r = single.word true (single.infRung + 1 + r) := by unfold Format.word; rw [s_inf, s_sign]; simp; omega
    rw [e]; exact key true
theorem nan64 (t : Nat) : ∃ s f, double.read ((t % 2) * 2 ^ 63 + 0x7ff0000000000000 + 1 + (t / 2) % (2 ^ 52 - 1)) = .nan s f := by
  have hr : (t / 2) % (2 ^ 52 - 1) < 4503599627370495 := Nat.mod_lt _ (by decide)
  generalize (t / 2) % (2 ^ 52 - 1) = r at hr
  have key := fun s => nan_word double s r (by rw [d_inf, d_sign]; omega) (by rw [d_inf, d_bin]; omega)
  rcases Nat.mod_two_eq_zero_or_one t with h | h <;> rw [h]
  · have e : 0 * 2 ^ 63 + 0x7ff0000000000000 + 1 + r = double.word false (double.infRung + 1 + r) := by unfold Format.word; rw [d_inf]; simp
    rw [e]; exact key false
  · have e : 1 * 2 ^ 63 + 0x7ff0000000000000 + 1 + r = double.word true (double.infRung + 1 + r) := by unfold Format.word; rw [d_inf, d_sign]; simp; omega
    rw [e]; exact key true
theorem not_fin_nan {f : Format} {b : Nat} (h : ∃ s t, f.read b = .nan s t) : fin f b = false := by
  obtain ⟨s, t, h⟩ := h; unfold fin; rw [h]

/-- What is written of a number reads as a number or an infinity. -/
theorem nearest_rung (f : Format) (s : Bool) (m : Nat) (e : Int) : ∃ r, r ≤ f.infRung ∧ f.nearest s m e = f.word s r := by
  unfold Format.nearest
  dsimp only
  split
  · exact ⟨0, Nat.zero_le _, rfl⟩
  · exact ⟨_, Nat.min_le_right _ _, rfl⟩
theorem read_write (f : Format) (s : Bool) (m : Nat) (e : Int) : (∃ m' e', f.read (f.write (.number s m e)) = .number s m' e') ∨ f.read (f.write (.number s m e)) = .infinity s := by
  obtain ⟨r, hr, h⟩ := nearest_rung f s m e
  show (∃ m' e', f.read (f.nearest s m e) = _) ∨ f.read (f.nearest s m e) = _
  rw [h, read_word f s (Nat.lt_of_le_of_lt hr f.infRung_lt)]
  split
  · exact .inl ⟨_, _, rfl⟩
  · split
    · exact .inl ⟨_, _, rfl⟩
    · rw [if_pos (by omega)]; exact .inr rfl
theorem read_inf (f : Format) (s : Bool) (hb : f.binade ≤ f.infRung) : f.read (f.write (.infinity s)) = .infinity s := by
  show f.read (f.word s f.infRung) = _
  rw [read_word f s f.infRung_lt, if_neg (by omega), if_neg (by omega), if_pos rfl]

/-- A zero without its sign. -/
def cz (b : Nat) : Nat := match single.read b with | .number _ 0 _ => 0 | _ => b
/-- Two data that are alike but for a zero's sign and place. -/
def like (d d' : Datum) : Prop := d = d' ∨ ∃ s s' e e', d = .number s 0 e ∧ d' = .number s' 0 e'
theorem write_zero (f : Format) (s : Bool) (e : Int) : f.write (.number s 0 e) = f.word s 0 := by simp [Format.write, Format.nearest]
theorem cz_word0 (s : Bool) : cz (single.word s 0) = 0 := by
  unfold cz
  rw [read_word single s (by rw [s_sign]; omega), if_pos (by rw [s_bin]; omega)]
  rfl
theorem fin_word0 (s : Bool) : fin32 (single.word s 0) = true := by
  unfold fin32 fin
  rw [read_word single s (by rw [s_sign]; omega), if_pos (by rw [s_bin]; omega)]
theorem like_write {d d' : Datum} (h : like d d') : cz (single.write d) = cz (single.write d') ∧ fin32 (single.write d) = fin32 (single.write d') := by
  rcases h with rfl | ⟨s, s', e, e', rfl, rfl⟩
  · exact ⟨rfl, rfl⟩
  · rw [write_zero, write_zero, cz_word0, cz_word0, fin_word0, fin_word0]; exact ⟨rfl, rfl⟩
theorem read_cz {b : Nat} {s : Bool} {m : Nat} {e : Int} (h : single.read b = .number s m e) : ∃ s', single.read (cz b) = .number s' m e ∧ (m = 0 ∨ s' = s) := by
  have hz : single.read 0 = .number false 0 (-149) := by decide +kernel
  unfold cz
  rw [h]
  cases m with
  | zero =>
    have := (num32 h).2.2.2 rfl
    subst this
    exact ⟨false, hz, .inl rfl⟩
  | succ m => exact ⟨s, h, .inr rfl⟩
theorem fin_cz (b : Nat) : fin32 (cz b) = fin32 b := by
  unfold cz
  split
  · rename_i s e h
    have hz : single.read 0 = .number false 0 (-149) := by decide +kernel
    unfold fin32 fin; rw [h, hz]
  · rfl
theorem cz_cz (b : Nat) : cz (cz b) = cz b := by
  have h0 : cz 0 = 0 := by unfold cz; split <;> rfl
  generalize hc : cz b = c
  unfold cz at hc
  split at hc
  · subst hc; exact h0
  · subst hc
    rename_i h
    unfold cz
    split
    · rename_i s e h'; exact absurd h' (h s e)
    · rfl

theorem signed_zero (s : Bool) (k : Nat) : signed s 0 k = 0 := by unfold signed; simp
theorem sum_like {s s' t t' : Bool} {m n : Nat} {i j : Int} (hs : m = 0 ∨ s' = s) (ht : n = 0 ∨ t' = t) :
    ∃ d d', Datum.sum (.number s m i) (.number t n j) = some d ∧ Datum.sum (.number s' m i) (.number t' n j) = some d' ∧ like d d' ∧ ∃ a b c, d = .number a b c := by
  refine ⟨_, _, rfl, rfl, ?_, _, _, _, rfl⟩
  have e1 : signed s' m (i - min i j).toNat = signed s m (i - min i j).toNat := by
    rcases hs with rfl | rfl
    · rw [signed_zero, signed_zero]
    · rfl
  have e2 : signed t' n (j - min i j).toNat = signed t n (j - min i j).toNat := by
    rcases ht with rfl | rfl
    · rw [signed_zero, signed_zero]
    · rfl
  rw [e1, e2]
  by_cases h0 : signed s m (i - min i j).toNat + signed t n (j - min i j).toNat = 0
  · rw [h0]; exact .inr ⟨_, _, _, _, rfl, rfl⟩
  · simp only [if_neg h0]; exact .inl rfl
theorem product_like {s s' t t' : Bool} {m n : Nat} {i j : Int} (hs : m = 0 ∨ s' = s) (ht : n = 0 ∨ t' = t) :
    ∃ d d', Datum.product (.number s m i) (.number t n j) = some d ∧ Datum.product (.number s' m i) (.number t' n j) = some d' ∧ like d d' ∧ ∃ a b c, d = .number a b c := by
  refine ⟨_, _, rfl, rfl, ?_, _, _, _, rfl⟩
  rcases hs with rfl | rfl
  · simp only [Nat.zero_mul]; exact .inr ⟨_, _, _, _, rfl, rfl⟩
  · rcases ht with rfl | rfl
    · simp only [Nat.mul_zero]; exact .inr ⟨_, _, _, _, rfl, rfl⟩
    · exact .inl rfl

def op32 (o : BinOp) (a b : Nat) : Nat := (floatBits o .f32 a b).getD 0
/-- The three operations that stay within the numbers. -/
def ring : BinOp → Bool | .add | .sub | .mul => true | _ => false
theorem op_fin {o : BinOp} (ho : ring o = true) {a b : Nat} (ha : fin32 a = true) (hb : fin32 b = true) :
    floatBits o .f32 a b = some (op32 o a b) ∧ floatBits o .f32 (cz a) (cz b) = some (op32 o (cz a) (cz b)) ∧
    cz (op32 o a b) = cz (op32 o (cz a) (cz b)) ∧ fin32 (op32 o a b) = fin32 (op32 o (cz a) (cz b)) ∧ ((∃ s m e, single.read (op32 o a b) = .number s m e) ∨ ∃ s, single.read (op32 o a b) = .infinity s) := by
  obtain ⟨s, m, i, ha⟩ := fin_iff.1 ha
  obtain ⟨t, n, j, hb⟩ := fin_iff.1 hb
  obtain ⟨s', ha', hs⟩ := read_cz ha
  obtain ⟨t', hb', ht⟩ := read_cz hb
  have key : ∃ d d', floatBits o .f32 a b = some (single.write d) ∧ floatBits o .f32 (cz a) (cz b) = some (single.write d') ∧ like d d' ∧ ∃ a b c, d = .number a b c := by
    unfold floatBits
    cases o <;> first | cases ho | skip
    · obtain ⟨d, d', h1, h2, h3⟩ := sum_like (i := i) (j := j) hs ht
      refine ⟨d, d', ?_, ?_, h3⟩
      · show single.add a b = _; unfold Format.add; rw [ha, hb, h1]; rfl
      · show single.add _ _ = _; unfold Format.add; rw [ha', hb', h2]; rfl
    · obtain ⟨d, d', h1, h2, h3⟩ := sum_like (t := !t) (t' := !t') (i := i) (j := j) hs (ht.imp id (fun h => by rw [h]))
      refine ⟨d, d', ?_, ?_, h3⟩
      · show single.sub a b = _; unfold Format.sub; rw [ha, hb]; show (Datum.sum _ (.number (!t) n j)).map _ = _; rw [h1]; rfl
      · show single.sub _ _ = _; unfold Format.sub; rw [ha', hb']; show (Datum.sum _ (.number (!t') n j)).map _ = _; rw [h2]; rfl
    · obtain ⟨d, d', h1, h2, h3⟩ := product_like (i := i) (j := j) hs ht
      refine ⟨d, d', ?_, ?_, h3⟩
      · show single.mul a b = _; unfold Format.mul; rw [ha, hb, h1]; rfl
      · show single.mul _ _ = _; unfold Format.mul; rw [ha', hb', h2]; rfl
  obtain ⟨d, d', h1, h2, h3, a', b', c', hd⟩ := key
  unfold op32
  rw [h1, h2]
  refine ⟨rfl, rfl, (like_write h3).1, (like_write h3).2, ?_⟩
  simp only [Option.getD_some]
  rw [hd]
  rcases read_write single a' b' c' with ⟨m', e', h⟩ | h
  · exact .inl ⟨_, _, _, h⟩
  · exact .inr ⟨_, h⟩
/-- Once a number is lost in a sum, it is lost for good. -/
theorem add_lost {o : BinOp} (ho : o = .add ∨ o = .sub) {a b r : Nat} (h : fin32 a = false ∨ fin32 b = false) (hr : floatBits o .f32 a b = some r) : fin32 r = false := by
  have hi : single.binade ≤ single.infRung := by rw [s_bin, s_inf]; omega
  have key : ∀ d d', (∀ s m e, d ≠ .number s m e) ∨ (∀ s m e, d' ≠ .number s m e) → ∀ x, Datum.sum d d' = some x → ∃ s, x = .infinity s := by
    intro d d' hd x hx
    cases d <;> cases d' <;> simp only [Datum.sum] at hx <;> first | (cases hx; exact ⟨_, rfl⟩) | (cases hx; done) | skip
    · rcases hd with h | h
      · exact absurd rfl (h _ _ _)
      · exact absurd rfl (h _ _ _)
    · split at hx
      · cases hx; exact ⟨_, rfl⟩
      · cases hx
  have nf : ∀ {c : Nat}, fin32 c = false → ∀ s m e, single.read c ≠ .number s m e := by
    intro c hc s m e h
    have h1 : fin32 c = true := fin_iff.2 ⟨s, m, e, h⟩
    rw [hc] at h1; cases h1
  have go : ∀ x, (∃ d', Datum.sum (single.read a) d' = some x ∧ ((∀ s m e, single.read a ≠ .number s m e) ∨ (∀ s m e, d' ≠ .number s m e))) → fin32 (single.write x) = false := by
    rintro x ⟨d', hx, hh⟩
    obtain ⟨s, rfl⟩ := key _ _ hh x hx
    unfold fin32 fin
    rw [read_inf single s hi]
  rcases ho with rfl | rfl
  · simp only [floatBits] at hr
    change single.add a b = some r at hr
    unfold Format.add at hr
    cases hx : Datum.sum (single.read a) (single.read b) with
    | none => rw [hx] at hr; cases hr
    | some x => rw [hx] at hr; cases hr; exact go x ⟨_, hx, h.imp nf nf⟩
  · simp only [floatBits] at hr
    change single.sub a b = some r at hr
    unfold Format.sub at hr
    cases hx : Datum.sum (single.read a) (single.read b).opposite with
    | none => rw [hx] at hr; cases hr
    | some x =>
      rw [hx] at hr; cases hr
      refine go x ⟨_, hx, h.imp nf (fun hb s m e he => ?_)⟩
      have h2 := nf hb
      cases hb' : single.read b with
      | number s' m' e' => exact h2 _ _ _ hb'
      | infinity s' => rw [hb'] at he; cases he
      | nan s' f' => rw [hb'] at he; cases he
end Go.Proofs.Ytkfahacnanlnfaa
