/- Walks: the reference's root. -/
/- Walks: the reference's root of a positive number. -/
import Derived.Test.YtkfahacnanlnfaaZWa
import Derived.Laws.Cover2
namespace Go.Proofs.Ytkfahacnanlnfaa
open Go.RowKit Ieee

/-- The magnitude of m * 2^e, over the place -204. -/
def mg (m : Nat) (e : Int) : Nat := m * 2 ^ (e + 204).toNat
theorem mg_four {m : Nat} {e : Int} (h : -204 ≤ e) : mg m (e + 2) = mg m e * 4 := by
  unfold mg
  have : (e + 2 + 204).toNat = (e + 204).toNat + 2 := by omega
  rw [this, Nat.pow_add, ← Nat.mul_assoc]
theorem mg_ge {m : Nat} {e : Int} {a : Nat} (he : -204 ≤ e) (hm : m < 16777216) (h : 2 ^ (a + 24) ≤ mg m e) : (a : Int) ≤ e + 204 := by
  unfold mg at h
  rcases Nat.lt_or_ge (e + 204).toNat a with h1 | h1
  · exfalso
    have h2 : m * 2 ^ (e + 204).toNat ≤ 16777215 * 2 ^ a := Nat.mul_le_mul (by omega) (Nat.pow_le_pow_right (by decide) (by omega))
    have h3 : 16777215 * 2 ^ a < 16777216 * 2 ^ a := Nat.mul_lt_mul_of_pos_right (by decide) (Nat.two_pow_pos _)
    have h4 : 2 ^ (a + 24) = 16777216 * 2 ^ a := by rw [Nat.pow_add, Nat.mul_comm]
    omega
  · omega
theorem mg_lt {m : Nat} {e : Int} {a : Nat} (hm : m ≠ 0) (h : mg m e < 2 ^ a) (he : -204 ≤ e) : e + 204 < a := by
  unfold mg at h
  rcases Nat.lt_or_ge (e + 204).toNat a with h1 | h1
  · omega
  · exfalso
    have h2 : 1 * 2 ^ a ≤ m * 2 ^ (e + 204).toNat := Nat.mul_le_mul (by omega) (Nat.pow_le_pow_right (by decide) h1)
    omega
theorem four_up {m : Nat} {e : Int} (h : ex m e) (h2 : e + 2 ≤ 900) (t : TypeId) (w : World) : (binOp .mul t (.float .f64 (dbl m e)) (.float .f64 4616189618054758400)).run Try.prog w = .ok (.float .f64 (dbl m (e + 2))) w :=
  run_float_arith w .mul t .f64 _ _ _ (by rw [bits_mul, ← dbl_four, dbl_mul h (ex_one (by decide) (by decide)) (by have := h.2.1; omega) (by have := h.2.2.1; omega) h2, Nat.mul_one])
theorem four_down {m : Nat} {e : Int} (h : ex m e) (h2 : -900 ≤ e - 2) (t : TypeId) (w : World) : (binOp .quo t (.float .f64 (dbl m e)) (.float .f64 4616189618054758400)).run Try.prog w = .ok (.float .f64 (dbl m (e - 2))) w :=
  run_float_arith w .quo t .f64 _ _ _ (by rw [bits_quo, ← dbl_four, dbl_half h (ex_one (by decide) (by decide)) h2 (by have := h.2.2.2; omega)])
theorem ord_mg {m : Nat} {e f : Int} (h : ex m e) (h1 : -149 ≤ e) (hf : 0 ≤ f) (hf' : f ≤ 60) : FloatKind.f64.format.order (dbl m e) (dbl 1 f) = some (compare ((mg m e : Nat) : Int) ((2 ^ (f + 204).toNat : Nat) : Int)) := by
  show double.order _ _ = _
  rw [dbl_order h (ex_one (by omega) (by omega)) (-204) (by omega) (by omega), Nat.one_mul]
  unfold mg
  have e1 : (e - -204).toNat = (e + 204).toNat := by omega
  have e2 : (f - -204).toNat = (f + 204).toNat := by omega
  rw [e1, e2]
theorem dbl_int {n : Nat} (h0 : n ≠ 0) (h : n < 1125899906842624) : floatToIntVal .f64 (dbl n 0) .i64 = some (n : Int) := by
  obtain ⟨k, hk, _, hr, b1, b2⟩ := dbl_read (m := n) (e := 0) ⟨h0, by omega, by decide, by decide⟩
  have hd : FloatKind.decode .f64 (dbl n 0) = .number false (n * 2 ^ k) (0 - k) := hr
  have hc : Toward.zero.cut false (n * 2 ^ k) k = n := by
    unfold Toward.cut
    have hl : k ≤ (n * 2 ^ k).log2 + 2 := by
      have : (n * 2 ^ k).log2 = 52 := by
        rw [Nat.log2_eq_iff (by omega)]
        exact ⟨b1, b2⟩
      omega
    simp only [Nat.min_eq_left hl, Nat.one_shiftLeft, Nat.mul_div_cancel _ (Nat.two_pow_pos k)]
    rfl
  unfold floatToIntVal
  rw [hd]
  have e1 : ((0 : Int) - k).toNat = 0 := by omega
  have e2 : (-((0 : Int) - k)).toNat = k := by omega
  have ht : (Datum.number false (n * 2 ^ k) (0 - k)).toInt .zero = some (n : Int) := by
    unfold Datum.toInt Datum.integral
    simp only [e1, e2, Nat.shiftLeft_zero, hc]
    unfold signed
    simp
  rw [ht]
  have hmin : IntKind.min .i64 ≤ (n : Int) ∧ (n : Int) ≤ IntKind.max .i64 := by
    have e3 : IntKind.min .i64 = -9223372036854775808 := by decide +kernel
    have e4 : IntKind.max .i64 = 9223372036854775807 := by decide +kernel
    rw [e3, e4]
    omega
  simp only [hmin, and_self, if_true]
theorem int_dbl {n : Nat} : floatOfInt .f64 (n : Int) = dbl n 0 := by
  unfold floatOfInt FloatKind.nearest FloatKind.encode dbl
  have : decide ((n : Int) < 0) = false := decide_eq_false (by omega)
  rw [this]
  rfl
/-- What the first loops of the root come to. -/
def Framed (m : Nat) (e k : Int) (n : Nat) : Prop := ∃ t : Nat, (t : Int) = e + 2 * k ∧ n = m * 2 ^ t ∧ 281474976710656 ≤ n ∧ n < 1125899906842624
theorem framed {m : Nat} {e k : Int} (he : -204 ≤ e + 2 * k) (hm : m < 16777216) (h1 : 2 ^ 252 ≤ mg m (e + 2 * k)) (h2 : mg m (e + 2 * k) < 2 ^ 254) : ∃ n, Framed m e k n ∧ dbl m (e + 2 * k) = dbl n 0 := by
  have ha := mg_ge (a := 228) he hm h1
  obtain ⟨t, ht⟩ : ∃ t : Nat, (t : Int) = e + 2 * k := ⟨(e + 2 * k).toNat, by omega⟩
  have he : mg m (e + 2 * k) = m * 2 ^ t * 2 ^ 204 := by
    unfold mg
    rw [← ht, Nat.mul_assoc, ← Nat.pow_add]
    congr 2
  rw [he] at h1 h2
  have g1 : 281474976710656 ≤ m * 2 ^ t := by
    rcases Nat.lt_or_ge (m * 2 ^ t) 281474976710656 with h | h
    · exfalso
      have h3 := Nat.mul_lt_mul_of_pos_right h (show 0 < 2 ^ 204 from Nat.two_pow_pos _)
      have h4 : 281474976710656 * 2 ^ 204 = 2 ^ 252 := by decide +kernel
      rw [h4] at h3
      exact absurd (Nat.lt_of_le_of_lt h1 h3) (Nat.lt_irrefl _)
    · exact h
  have g2 : m * 2 ^ t < 1125899906842624 := by
    rcases Nat.lt_or_ge (m * 2 ^ t) 1125899906842624 with h | h
    · exact h
    · exfalso
      have h3 := Nat.mul_le_mul_right (2 ^ 204) h
      have h4 : 1125899906842624 * 2 ^ 204 = 2 ^ 254 := by decide +kernel
      rw [h4] at h3
      exact absurd (Nat.lt_of_le_of_lt h3 h2) (Nat.lt_irrefl _)
  have m0 : m ≠ 0 := by rintro rfl; simp at g1
  have t49 : t ≤ 60 := by
    rcases Nat.lt_or_ge 60 t with h | h
    · exfalso
      have h1 : 1 * 2 ^ 60 ≤ m * 2 ^ t := Nat.mul_le_mul (by omega) (Nat.pow_le_pow_right (by decide) (by omega))
      omega
    · exact h
  refine ⟨_, ⟨t, ht, rfl, g1, g2⟩, ?_⟩
  rw [← ht, ← dbl_scale (m := m) (e := (t : Int)) t ⟨m0, by omega, by omega, by omega⟩, Int.sub_self]
  rfl
end Go.Proofs.Ytkfahacnanlnfaa
namespace Go.Proofs.Ytkfahacnanlnfaa
open Go.RowKit Ieee

theorem wide_dbl {x m : Nat} {e : Int} (hx : single.read x = .number false m e) : wide x = dbl m e := by
  have h := (wide_num hx).1
  have hd : FloatKind.decode .f32 x = .number false m e := hx
  have hne : FloatKind.f32 ≠ FloatKind.f64 := by decide
  unfold floatToFloatBits at h
  rw [if_neg hne, hd] at h
  simp only at h
  split at h
  · cases h
  · exact (Option.some.inj h).symm
def RootPost (m : Nat) (e : Int) (w : World) (e' : Ending) (w' : World) : Prop := ∃ k n r, Framed m e k n ∧ isRoot n r ∧ e' = .returned (.float .f32 (rootW k (evenOf n r))) ∧ w = w'
theorem conv_num {x m : Nat} {s : Bool} {e : Int} (hx : single.read x = .number s m e) (w : World) : (convert 22 29 (.float .f32 x)).run Try.prog w = .ok (.float .f64 (wide x)) w :=
  run_convert_float_float w 22 29 .f32 .f64 x _ (by rw [Try.underlying22]; rfl) Try.underlying29 (wide_num hx).1
theorem cmp_self (a : Int) : compare a a = .eq := by
  simp only [compare, compareOfLessAndEq]
  rw [if_neg (Int.lt_irrefl a)]
  exact if_pos trivial
theorem ord_lt {m E : Nat} {e f : Int} (h : ex m e) (h1 : -149 ≤ e) (hf : 0 ≤ f) (hf' : f ≤ 50) (hE : (f + 204).toNat = E) (hl : mg m e < 2 ^ E) : FloatKind.f64.format.order (dbl m e) (dbl 1 f) = some .lt := by
  rw [ord_mg h h1 hf (by omega), hE, cmp_lt (Int.ofNat_lt.2 hl)]
theorem ord_ge {m E : Nat} {e f : Int} (h : ex m e) (h1 : -149 ≤ e) (hf : 0 ≤ f) (hf' : f ≤ 50) (hE : (f + 204).toNat = E) (hl : 2 ^ E ≤ mg m e) : (FloatKind.f64.format.order (dbl m e) (dbl 1 f) == some .lt) = false ∧
    (FloatKind.f64.format.order (dbl m e) (dbl 1 f) == some .gt || FloatKind.f64.format.order (dbl m e) (dbl 1 f) == some .eq) = true := by
  rw [ord_mg h h1 hf (by omega), hE]
  rcases Nat.lt_or_eq_of_le hl with h2 | h2
  · rw [cmp_gt (Int.ofNat_lt.2 h2)]; exact ⟨rfl, rfl⟩
  · rw [← h2, cmp_self]; exact ⟨rfl, rfl⟩
/-- Where the search for the whole root stands: all digits from twice b upwards are right. -/
def isRootTo (n r b : Nat) : Prop := r * r ≤ n ∧ ((b = 0 ∧ n < (r + 1) * (r + 1)) ∨ ∃ i, b = 2 ^ i ∧ i ≤ 24 ∧ n < (r + 2 ^ (i + 1)) * (r + 2 ^ (i + 1)) ∧ r + 2 ^ (i + 1) ≤ 33554432)
theorem isRootTo_start {n : Nat} (h : n < 1125899906842624) : isRootTo n 0 16777216 := ⟨Nat.zero_le _, .inr ⟨24, rfl, Nat.le_refl _, h, Nat.le_refl _⟩⟩
theorem to_next {n r i b : Nat} (hb : 2 ^ i = b) (hi : i ≤ 24) (h1 : r * r ≤ n) (h2 : n < (r + b) * (r + b)) (h3 : r + b ≤ 33554432) : isRootTo n r (b / 2) := by
  refine ⟨h1, ?_⟩
  cases i with
  | zero =>
    have : b = 1 := by rw [← hb]
    subst this
    exact .inl ⟨rfl, h2⟩
  | succ j =>
    have e : 2 ^ (j + 1) = 2 ^ j * 2 := Nat.pow_succ 2 j
    refine .inr ⟨j, by omega, by omega, ?_, ?_⟩
    · rw [hb]; exact h2
    · rw [hb]; exact h3
theorem last_mul {u : Nat} {q : Int} (h0 : u ≠ 0) (h : u ≤ 33554432) (h1 : -45 ≤ q) (h2 : q ≤ 110) (t : TypeId) (w : World) : (binOp .mul t (.float .f64 (dbl u 0)) (.float .f64 (dbl 1 (-q)))).run Try.prog w = .ok (.float .f64 (dbl u (-q))) w :=
  run_float_arith w .mul t .f64 _ _ _ (by rw [bits_mul, dbl_mul ⟨h0, by omega, by decide, by decide⟩ (ex_one (by omega) (by omega)) (by omega) (by omega) (by omega), Nat.mul_one, Int.zero_add])
theorem last_conv {u : Nat} {q : Int} (he : u % 2 = 0) (h1 : 16777216 ≤ u) (h2 : u ≤ 33554432) (hk : -45 ≤ q) (hk' : q ≤ 110) (w : World) : (convert 29 22 (.float .f64 (dbl u (-q)))).run Try.prog w = .ok (.float .f32 (rootW q u)) w :=
  run_convert_float_float w 29 22 .f64 .f32 _ _ (by rw [Try.underlying29]; rfl) Try.underlying22 (spec_root he h1 h2 hk hk')
theorem f64fmt : FloatKind.f64.format = double := rfl
/-- One step of the search for the whole root. -/
theorem bit_step {n r i : Nat} (h1 : r * r ≤ n) (h2 : n < (r + 2 ^ (i + 1)) * (r + 2 ^ (i + 1))) :
    ((r + 2 ^ i) * (r + 2 ^ i) ≤ n → (r + 2 ^ i) * (r + 2 ^ i) ≤ n ∧ n < (r + 2 ^ i + 2 ^ i) * (r + 2 ^ i + 2 ^ i)) ∧ (¬ (r + 2 ^ i) * (r + 2 ^ i) ≤ n → n < (r + 2 ^ i) * (r + 2 ^ i)) := by
  have e : r + 2 ^ i + 2 ^ i = r + 2 ^ (i + 1) := by rw [Nat.pow_succ]; omega
  refine ⟨fun h => ⟨h, by rw [e]; exact h2⟩, fun h => by omega⟩

set_option maxHeartbeats 2000000 in
theorem l01Root_any (x m : Nat) (e : Int) (w : World) (hx : single.read x = .number false m e) (hm : m ≠ 0) : Calls Try.prog 79 #[.float .f32 x] w (RootPost m e w) := by
  obtain ⟨m1, e1, e2, _⟩ := num32 hx
  have hz : (FloatKind.f32.format.order x 0 == some .eq) = false := by
    show (single.order x 0 == some .eq) = false
    rw [order_zero, hx]
    cases m with
    | zero => exact absurd rfl hm
    | succ m => rfl
  have hc := conv_num hx
  rw [wide_dbl hx] at hc
  have HX := Lib.hid hx; clear hx
  go_enter Try.func79, Try.ntmps79
  go_wp2
  clear hz hc
  go_loop [3, 4] (fun y t => ∃ k : Int, 0 ≤ k ∧ (k = 0 ∨ mg m (e + 2 * k) < 2 ^ 254) ∧ t = .int .i64 k ∧ y = .float .f64 (dbl m (e + 2 * k))) (fun _ t => (200 - intOf t).toNat)
  case atStart => exact ⟨0, by omega, .inl rfl, rfl, by simp⟩
  case round =>
    obtain ⟨k, hk, hkm, rfl, rfl⟩ := hrel
    by_cases hlt : mg m (e + 2 * k) < 2 ^ 252
    · have hb := mg_lt (a := 252) hm hlt (by omega)
      have hex : ex m (e + 2 * k) := ⟨hm, by omega, by omega, by omega⟩
      have ho := ord_lt (f := 48) (E := 252) hex (by omega) (by omega) (by omega) (by decide) hlt
      have hf := four_up hex (by omega)
      have HL := Lib.hid hlt; clear hlt
      go_wp2_with (first | (go_at_call 104; refine (l01Two_any 48 _ (by decide) (by decide)).mono ?_; rintro e w' ⟨rfl, rfl⟩) | (simp only [hf]))
      refine ⟨⟨k + 1, by omega, .inr ?_, rfl, by rw [show e + 2 * (k + 1) = e + 2 * k + 2 by omega]⟩, by simp [intOf]; omega⟩
      rw [show e + 2 * (k + 1) = e + 2 * k + 2 by omega, mg_four (by omega)]
      have h4 : 2 ^ 252 * 4 = 2 ^ 254 := by decide
      rw [← h4]
      exact Nat.mul_lt_mul_of_pos_right HL.out (by decide)
    · have hge : 2 ^ 252 ≤ mg m (e + 2 * k) := Nat.le_of_not_lt hlt
      clear hlt
      have hk9 : k ≤ 110 := by
        rcases hkm with rfl | h
        · decide
        · have := mg_lt (a := 254) hm h (by omega); omega
      have ho := (ord_ge (f := 48) (E := 252) ⟨hm, by omega, by omega, by omega⟩ (by omega) (by omega) (by omega) (by decide) hge).1
      have HG := Lib.hid hge; clear hge
      have HK := Lib.hid hkm; clear hkm
      go_wp2_with (go_at_call 104; refine (l01Two_any 48 _ (by decide) (by decide)).mono ?_; rintro e w' ⟨rfl, rfl⟩)
      clear ho
      go_loop [3, 4] (fun y t => ∃ k : Int, k ≤ 110 ∧ (k ≤ 0 ∨ mg m (e + 2 * k) < 2 ^ 254) ∧ 2 ^ 252 ≤ mg m (e + 2 * k) ∧ -204 ≤ e + 2 * k ∧ t = .int .i64 k ∧ y = .float .f64 (dbl m (e + 2 * k))) (fun _ t => (200 + intOf t).toNat)
      case atStart => exact ⟨k, hk9, HK.out.imp (fun h => by omega) id, HG.out, by omega, rfl, rfl⟩
      case round =>
        clear HG HK hk9 hk
        obtain ⟨q, hq9, hqm, hqg, hq0, rfl, rfl⟩ := hrel
        have hq1 := mg_ge (a := 228) hq0 m1 hqg
        by_cases hlt : mg m (e + 2 * q) < 2 ^ 254
        · obtain ⟨n, hF, hn⟩ := framed (k := q) hq0 m1 hqg hlt
          have ho := ord_lt (f := 50) (E := 254) (m := m) (e := e + 2 * q) ⟨hm, by omega, by omega, by omega⟩ (by omega) (by omega) (by omega) (by decide) hlt
          obtain ⟨t, ht, hnt, n48, n50⟩ := id hF
          have hcv := fun (w : World) => run_convert_float_int (P := Try.prog) w 29 2 .f64 .i64 (dbl m (e + 2 * q)) n (by rw [Try.underlying29]; rfl) Try.underlying2 (by rw [hn]; exact dbl_int (by omega) n50)
          have hqlo : -45 ≤ q := by omega
          have hqhi : q ≤ 110 := hq9
          have HF := Lib.hid hF; clear hF hnt ht t hlt hqg hqm hq0 hq1 hq9
          have HN := Lib.hid hn; clear hn
          go_wp2_with (first | (go_at_call 104; refine (l01Two_any 50 _ (by decide) (by decide)).mono ?_; rintro e w' ⟨rfl, rfl⟩) | (simp only [hcv]))
          clear ho hcv
          go_loop [6, 7] (fun t u => ∃ r b : Nat, isRootTo n r b ∧ t = .int .i64 r ∧ u = .int .i64 b) (fun _ t => (intOf t).toNat)
          case atStart => exact ⟨0, 16777216, isRootTo_start n50, rfl, rfl⟩
          case round =>
            obtain ⟨r, b, hrb, rfl, rfl⟩ := hrel
            obtain ⟨hr1, ⟨rfl, hr2⟩ | ⟨i, rfl, hi, hr2, hr3⟩⟩ := hrb
            · have hR : isRoot n r := ⟨hr1, hr2⟩
              have hrs := root_size hR n50 n48
              obtain ⟨v, hv⟩ : ∃ v, r - r % 2 = v := ⟨_, rfl⟩
              have hvi : (r : Int) - (r : Int) % 2 = (v : Int) := by omega
              have hvb : v ≤ 33554432 := by omega
              obtain ⟨p, hp⟩ : ∃ p, (v + 1) * (v + 1) = p := ⟨_, rfl⟩
              have hpb : p ≤ 33554433 * 33554433 := by rw [← hp]; exact Nat.mul_le_mul (by omega) (by omega)
              have hpi : ((v : Int) + 1) * ((v : Int) + 1) = (p : Int) := by rw [← hp]; simp
              have hev : evenOf n r = if p < n then v + 2 else v := by unfold evenOf; rw [hv, hp]
              obtain ⟨_, _, hk1, hk2, hk3⟩ : _ ∧ _ ∧ 16777216 ≤ evenOf n r ∧ evenOf n r ≤ 33554432 ∧ evenOf n r % 2 = 0 := by
                obtain ⟨tt, g1, g2, g3, g4⟩ := HF.out
                have := impl_root HX.out hm g1 g2 g3 g4 hR
                exact this.2
              have hk4 : evenOf n r ≠ 0 := by omega
              have hlm := last_mul hk4 hk2 hqlo hqhi
              have hlc := last_conv hk3 hk1 hk2 hqlo hqhi
              have HR := Lib.hid hR; clear hR hr1 hr2
              have HP := Lib.hid hp; clear hp
              by_cases hc : p < n
              · rw [if_pos hc] at hev
                have hfi : floatOfInt .f64 ((v : Int) + 2) = dbl (evenOf n r) 0 := by rw [hev]; exact int_dbl (n := v + 2)
                have HEV := Lib.hid hev; clear hev
                obtain ⟨u, hu⟩ : ∃ u, evenOf n r = u := ⟨_, rfl⟩
                rw [hu] at hlm hlc hfi
                have HU := Lib.hid hu; clear hu hk1 hk2 hk3 hk4
                go_wp2_with (first | (go_at_call 104; refine (l01Two_any (-q) _ (by omega) (by omega)).mono ?_; rintro e w' ⟨rfl, rfl⟩) | (simp only [hlm]) | (simp only [hlc]))
                go_ret
                exact ⟨q, n, r, HF.out, HR.out, by rw [HU.out]; rfl, rfl⟩
              · rw [if_neg hc] at hev
                have hfi : floatOfInt .f64 (v : Int) = dbl (evenOf n r) 0 := by rw [hev]; exact int_dbl (n := v)
                have HEV := Lib.hid hev; clear hev
                obtain ⟨u, hu⟩ : ∃ u, evenOf n r = u := ⟨_, rfl⟩
                rw [hu] at hlm hlc hfi
                have HU := Lib.hid hu; clear hu hk1 hk2 hk3 hk4
                go_wp2_with (first | (go_at_call 104; refine (l01Two_any (-q) _ (by omega) (by omega)).mono ?_; rintro e w' ⟨rfl, rfl⟩) | (simp only [hlm]) | (simp only [hlc]))
                go_ret
                exact ⟨q, n, r, HF.out, HR.out, by rw [HU.out]; rfl, rfl⟩
            · obtain ⟨s1, s2⟩ := bit_step hr1 hr2
              have hi2 : 2 ^ (i + 1) = 2 ^ i * 2 := Nat.pow_succ 2 i
              obtain ⟨b, hb⟩ : ∃ b, 2 ^ i = b := ⟨_, rfl⟩
              rw [hi2, hb] at hr3
              rw [hb] at s1 s2 ⊢
              have hb0 : 0 < b := by rw [← hb]; exact Nat.two_pow_pos i
              have HB := Lib.hid hb; clear hb hi2
              have HS1 := Lib.hid s1
              have HS2 := Lib.hid s2
              have HR1 := Lib.hid hr1
              obtain ⟨p, hp⟩ : ∃ p, (r + b) * (r + b) = p := ⟨_, rfl⟩
              have hpb : p ≤ 33554432 * 33554432 := by rw [← hp]; exact Nat.mul_le_mul (by omega) (by omega)
              have hpi : ((r : Int) + (b : Int)) * ((r : Int) + (b : Int)) = (p : Int) := by rw [← hp]; simp
              clear s1 s2 hr1 hr2
              have HPP := Lib.hid hp; clear hp
              by_cases hc : p ≤ n
              · have hn := to_next (r := r + b) HB.out hi (HPP.out ▸ hc) (HS1.out (HPP.out ▸ hc)).2 (by omega)
                have HNX := Lib.hid hn; clear hn
                go_wp2
                exact ⟨⟨r + b, b / 2, HNX.out, by go_num, by go_num⟩, by simp [intOf]; omega⟩
              · have hn := to_next (r := r) HB.out hi HR1.out (HS2.out (fun h => hc (HPP.out ▸ h))) (by omega)
                have HNX := Lib.hid hn; clear hn
                go_wp2
                exact ⟨⟨r, b / 2, HNX.out, rfl, by go_num⟩, by simp [intOf]; omega⟩
        · have hge : 2 ^ 254 ≤ mg m (e + 2 * q) := Nat.le_of_not_lt hlt
          have ho := (ord_ge (f := 50) (E := 254) (m := m) (e := e + 2 * q) ⟨hm, by omega, by omega, by omega⟩ (by omega) (by omega) (by omega) (by decide) hge).2
          have hf := four_down (m := m) (e := e + 2 * q) ⟨hm, by omega, by omega, by omega⟩ (by omega)
          have hq2 : q ≤ 0 := by rcases hqm with h | h; exact h; exact absurd h hlt
          have HG := Lib.hid hge; clear hge hlt hqg hqm
          go_wp2_with (first | (go_at_call 104; refine (l01Two_any 50 _ (by decide) (by decide)).mono ?_; rintro e w' ⟨rfl, rfl⟩) | (simp only [hf]))
          refine ⟨⟨q - 1, by omega, .inl (by omega), ?_, by omega, rfl, by rw [show e + 2 * (q - 1) = e + 2 * q - 2 by omega]⟩, by simp [intOf]; omega⟩
          have h5 : mg m (e + 2 * q - 2 + 2) = mg m (e + 2 * q - 2) * 4 := mg_four (by omega)
          rw [show e + 2 * q - 2 + 2 = e + 2 * q by omega] at h5
          rw [show e + 2 * (q - 1) = e + 2 * q - 2 by omega]
          have h6 := HG.out
          rw [h5] at h6
          have h7 : 2 ^ 254 = 2 ^ 252 * 4 := by decide
          rw [h7] at h6
          exact Nat.le_of_mul_le_mul_right h6 (by decide)
end Go.Proofs.Ytkfahacnanlnfaa
