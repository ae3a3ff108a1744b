/- The comparison of two floats; widening in a walk. -/
import Derived.Test.YtkfahacnanlnfaaZRd
namespace Go.Proofs.Ytkfahacnanlnfaa
open Go.RowKit Ieee

theorem order_zero64 (b : Nat) : (double.order b 0 == some .eq) = (match double.read b with | .number _ 0 _ => true | _ => false) := by
  have hz : double.read 0 = .number false 0 (-1074) := by decide +kernel
  unfold Format.order
  rw [hz]
  cases hr : double.read b with
  | number s m e =>
    simp only [Datum.order]
    have := num64 hr
    have e1 : min e (-1074) = -1074 := by omega
    rw [e1, signed_zero]
    cases m with
    | zero => rw [signed_zero]; rfl
    | succ m =>
      have hp : 0 < 2 ^ (e - -1074).toNat := Nat.two_pow_pos _
      have h0 : 0 < (m + 1) <<< (e - -1074).toNat := by rw [Nat.shiftLeft_eq]; exact Nat.mul_pos (by omega) hp
      unfold signed
      cases s
      · simp only [Bool.false_eq_true, if_false]
        have : compare (((m + 1) <<< (e - -1074).toNat : Nat) : Int) 0 = .gt := cmp_gt (by omega)
        rw [this]; rfl
      · simp only [if_true]
        have : compare (-(((m + 1) <<< (e - -1074).toNat : Nat) : Int)) 0 = .lt := cmp_lt (by omega)
        rw [this]; rfl
  | infinity s => cases s <;> rfl
  | nan s t => rfl
theorem one_read : double.read 4607182418800017408 = .number false 4503599627370496 (-52) := by decide +kernel
theorem sameFloat_any (x : Nat) (w : World) (h : fin64 x = true) : Calls Try.prog 12 #[.float .f64 x, .float .f64 x] w fun e w' => e = .returned (.bool true) ∧ w = w' := by
  obtain ⟨s, m, e, hr⟩ := fin_iff.1 h
  have ho : FloatKind.f64.format.order x x = some .eq := order_self (f := double) (fun a t h => by rw [hr] at h; cases h)
  cases m with
  | zero =>
    have hz : (FloatKind.f64.format.order x 0 == some .eq) = true := by show (double.order x 0 == some .eq) = true; rw [order_zero64, hr]; rfl
    have hq : ∀ t w, (binOp .quo t (.float .f64 4607182418800017408) (.float .f64 x)).run Try.prog w = .ok (.float .f64 (double.write (.infinity s))) w := fun t w => run_float_arith w .quo t .f64 _ x _ (by
      show double.div _ _ = _
      unfold Format.div
      rw [one_read, hr]
      cases s <;> rfl)
    generalize double.write (.infinity s) = q at hq
    go_enter Try.func12, Try.ntmps12
    go_wp2_with (simp only [hq])
    go_ret
    exact ⟨by simp, rfl⟩
  | succ m =>
    have hz : (FloatKind.f64.format.order x 0 == some .eq) = false := by show (double.order x 0 == some .eq) = false; rw [order_zero64, hr]; rfl
    go_enter Try.func12, Try.ntmps12
    go_wp2
    go_ret
    exact ⟨by simp, rfl⟩
theorem fin_wide {b : Nat} (h : fin32 b = true) : fin64 (wide b) = true := by
  obtain ⟨s, m, e, hr⟩ := fin_iff.1 h
  obtain ⟨_, h0, h1⟩ := wide_num hr
  by_cases hm : m = 0
  · exact fin_iff.2 ⟨_, _, _, h0 hm⟩
  · obtain ⟨k, _, h2, _⟩ := h1 hm
    exact fin_iff.2 ⟨_, _, _, h2⟩
theorem wide_conv {b : Nat} (h : fin32 b = true) (w : World) : (convert 22 29 (.float .f32 b)).run Try.prog w = .ok (.float .f64 (wide b)) w := by
  obtain ⟨s, m, e, hr⟩ := fin_iff.1 h
  exact run_convert_float_float w 22 29 .f32 .f64 b _ (by rw [Try.underlying22]; rfl) Try.underlying29 (wide_num hr).1
end Go.Proofs.Ytkfahacnanlnfaa
