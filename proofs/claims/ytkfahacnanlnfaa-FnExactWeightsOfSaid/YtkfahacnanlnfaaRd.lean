/- Walks: powers of two. -/
import Derived.Test.YtkfahacnanlnfaaRc
import Derived.Test.YtkfahacnanlnfaaR
namespace Go.Proofs.Ytkfahacnanlnfaa
open Go.RowKit Ieee

theorem bits_mul (a b : Nat) : floatBits .mul .f64 a b = double.mul a b := rfl
theorem bits_quo (a b : Nat) : floatBits .quo .f64 a b = double.div a b := rfl
theorem ex_one {k : Int} (h1 : -200 ≤ k) (h2 : k ≤ 200) : ex 1 k := ⟨by decide, by decide, by omega, by omega⟩
theorem two_up {k : Int} (h1 : -200 ≤ k) (h2 : k < 200) (t : TypeId) (w : World) : (binOp .mul t (.float .f64 (dbl 1 k)) (.float .f64 4611686018427387904)).run Try.prog w = .ok (.float .f64 (dbl 1 (k + 1))) w :=
  run_float_arith w .mul t .f64 _ _ _ (by rw [bits_mul, ← dbl_two, dbl_mul (ex_one h1 (by omega)) (ex_one (by decide) (by decide)) (by decide) (by omega) (by omega)])
theorem two_down {k : Int} (h1 : -200 < k) (h2 : k ≤ 200) (t : TypeId) (w : World) : (binOp .quo t (.float .f64 (dbl 1 k)) (.float .f64 4611686018427387904)).run Try.prog w = .ok (.float .f64 (dbl 1 (k - 1))) w :=
  run_float_arith w .quo t .f64 _ _ _ (by rw [bits_quo, ← dbl_two, dbl_half (ex_one (by omega) h2) (ex_one (by decide) (by decide)) (by omega) (by omega)])

set_option maxHeartbeats 400000 in
theorem l01Two_any (k : Int) (w : World) (h1 : -130 ≤ k) (h2 : k ≤ 130) : Calls Try.prog 104 #[.int .i64 k] w fun e w' => e = .returned (.float .f64 (dbl 1 k)) ∧ w = w' := by
  have h0 := dbl_one
  have H0 := Lib.hid h0; clear h0
  go_enter Try.func104, Try.ntmps104
  go_wp2
  go_loop [0, 3] (fun t y => ∃ j : Int, (j = k ∨ (0 ≤ j ∧ j ≤ k)) ∧ t = .int .i64 j ∧ y = .float .f64 (dbl 1 (k - j))) (fun t _ => (intOf t).toNat)
  case atStart => exact ⟨k, .inl rfl, rfl, by rw [Int.sub_self, H0.out]⟩
  case round =>
    obtain ⟨j, hj, rfl, rfl⟩ := hrel
    by_cases hp : 0 < j
    · have hm := two_up (k := k - j) (by omega) (by omega)
      go_wp2_with (simp only [hm])
      refine ⟨⟨j - 1, by omega, rfl, by rw [show k - (j - 1) = k - j + 1 by omega]⟩, by simp [intOf]; omega⟩
    · have hj0 : j ≤ 0 := by omega
      go_wp2
      go_loop [0, 3] (fun t y => ∃ j : Int, (j ≤ 0 ∧ (j = 0 ∨ k ≤ j)) ∧ t = .int .i64 j ∧ y = .float .f64 (dbl 1 (k - j))) (fun t _ => (-(intOf t)).toNat)
      case atStart => exact ⟨j, by omega, rfl, rfl⟩
      case round =>
        obtain ⟨i, hi, rfl, rfl⟩ := hrel
        by_cases hq : i < 0
        · have hm := two_down (k := k - i) (by omega) (by omega)
          go_wp2_with (simp only [hm])
          refine ⟨⟨i + 1, by omega, rfl, by rw [show k - (i + 1) = k - i - 1 by omega]⟩, by simp [intOf]; omega⟩
        · obtain rfl : i = 0 := by omega
          go_wp2
          go_ret
          exact ⟨rfl, rfl⟩
end Go.Proofs.Ytkfahacnanlnfaa
