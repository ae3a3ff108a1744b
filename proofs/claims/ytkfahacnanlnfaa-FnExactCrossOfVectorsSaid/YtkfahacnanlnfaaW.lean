/- The law of the inner product: the walk. -/
import Derived.Test.YtkfahacnanlnfaaV
import Derived.Deep.RegionWith
namespace Go.Proofs.Ytkfahacnanlnfaa
open Go.RowKit Ieee

theorem order_zero64 (b : Nat) : (double.order b 0 == some .eq) = (match double.read b with | .number _ 0 _ => true | _ => false) := by
  have hz : double.read 0 = .number false 0 (-1074) := by decide +kernel
  unfold Format.order
  rw [hz]
  cases hr : double.read b with
  | number s m e =>
    simp only [Datum.order]
    have := num64 hr
    have e1 : min e (-1074) = -1074 := by omega
    rw [e1, signed_zero]
    cases m with
    | zero => rw [signed_zero]; rfl
    | succ m =>
      have hp : 0 < 2 ^ (e - -1074).toNat := Nat.two_pow_pos _
      have h0 : 0 < (m + 1) <<< (e - -1074).toNat := by rw [Nat.shiftLeft_eq]; exact Nat.mul_pos (by omega) hp
      unfold signed
      cases s
      · simp only [Bool.false_eq_true, if_false]
        have : compare (((m + 1) <<< (e - -1074).toNat : Nat) : Int) 0 = .gt := cmp_gt (by omega)
        rw [this]; rfl
      · simp only [if_true]
        have : compare (-(((m + 1) <<< (e - -1074).toNat : Nat) : Int)) 0 = .lt := cmp_lt (by omega)
        rw [this]; rfl
  | infinity s => cases s <;> rfl
  | nan s t => rfl
theorem one_read : double.read 4607182418800017408 = .number false 4503599627370496 (-52) := by decide +kernel
theorem sameFloat_any (x : Nat) (w : World) (h : fin64 x = true) : Calls Try.prog 12 #[.float .f64 x, .float .f64 x] w fun e w' => e = .returned (.bool true) ∧ w = w' := by
  obtain ⟨s, m, e, hr⟩ := fin_iff.1 h
  have ho : FloatKind.f64.format.order x x = some .eq := order_self (f := double) (fun a t h => by rw [hr] at h; cases h)
  cases m with
  | zero =>
    have hz : (FloatKind.f64.format.order x 0 == some .eq) = true := by show (double.order x 0 == some .eq) = true; rw [order_zero64, hr]; rfl
    have hq : ∀ t w, (binOp .quo t (.float .f64 4607182418800017408) (.float .f64 x)).run Try.prog w = .ok (.float .f64 (double.write (.infinity s))) w := fun t w => run_float_arith w .quo t .f64 _ x _ (by
      show double.div _ _ = _
      unfold Format.div
      rw [one_read, hr]
      cases s <;> rfl)
    generalize double.write (.infinity s) = q at hq
    go_enter Try.func12, Try.ntmps12
    go_wp2_with (simp only [hq])
    go_ret
    exact ⟨by simp, rfl⟩
  | succ m =>
    have hz : (FloatKind.f64.format.order x 0 == some .eq) = false := by show (double.order x 0 == some .eq) = false; rw [order_zero64, hr]; rfl
    go_enter Try.func12, Try.ntmps12
    go_wp2
    go_ret
    exact ⟨by simp, rfl⟩
theorem fin_wide {b : Nat} (h : fin32 b = true) : fin64 (wide b) = true := by
  obtain ⟨s, m, e, hr⟩ := fin_iff.1 h
  obtain ⟨_, h0, h1⟩ := wide_num hr
  by_cases hm : m = 0
  · exact fin_iff.2 ⟨_, _, _, h0 hm⟩
  · obtain ⟨k, _, h2, _⟩ := h1 hm
    exact fin_iff.2 ⟨_, _, _, h2⟩
theorem wide_conv {b : Nat} (h : fin32 b = true) (w : World) : (convert 22 29 (.float .f32 b)).run Try.prog w = .ok (.float .f64 (wide b)) w := by
  obtain ⟨s, m, e, hr⟩ := fin_iff.1 h
  exact run_convert_float_float w 22 29 .f32 .f64 b _ (by rw [Try.underlying22]; rfl) Try.underlying29 (wide_num hr).1
theorem fin_inVal (a b c a' b' c' : Nat) : fin32 (inVal a b c a' b' c') = true := by
  unfold inVal
  split
  · split
    · rename_i h
      rw [fin_cz]
      unfold inOk at h
      simp only [Bool.and_eq_true] at h
      exact h.2
    · exact fin_zero
  · exact fin_zero
theorem box3_drew {w : World} {B a b c : Nat} (h : Box3 w B a b c) : Box3 w.drew B a b c := h
theorem toVector_agg (a b c : Nat) (w : World) : Calls Try.prog 10 #[.agg #[.float .f32 a, .float .f32 b, .float .f32 c]] w fun e w' => e = .returned (.agg #[.float .f32 a, .float .f32 b, .float .f32 c]) ∧ Below w.heap.size w w' := toVector_any a b c w
theorem boxes23 (w : World) (a b c a' b' c' : Nat) : Box3 ((w.alloc (.cells #[.float .f32 a, .float .f32 b, .float .f32 c] 23)).alloc (.cells #[.float .f32 a', .float .f32 b', .float .f32 c'] 23)) w.heap.size a b c ∧
    Box3 ((w.alloc (.cells #[.float .f32 a, .float .f32 b, .float .f32 c] 23)).alloc (.cells #[.float .f32 a', .float .f32 b', .float .f32 c'] 23)) (w.heap.size + 1) a' b' c' ∧
    Below w.heap.size w ((w.alloc (.cells #[.float .f32 a, .float .f32 b, .float .f32 c] 23)).alloc (.cells #[.float .f32 a', .float .f32 b', .float .f32 c'] 23)) := by
  have h := box3_newT (w.alloc (.cells #[.float .f32 a, .float .f32 b, .float .f32 c] 23)) a' b' c' 23
  simp only [World.size_alloc] at h
  exact ⟨(box3_newT w a b c 23).alloc _, h, ((Below.refl _ _).alloc (Nat.le_refl _) _).alloc (by simp) _⟩

set_option maxHeartbeats 40000000 in
theorem inner_walk (a b c a' b' c' : Nat) (w : World) : Calls Try.prog 3 #[vec a b c, vec a' b' c'] w fun e w' => e = .returned (.bool true) ∧ Below w.heap.size w w' := by
  obtain ⟨hx, hy, b0⟩ := boxes23 w a b c a' b' c'
  have hs := fun w => specInner_any a b c a' b' c' w
  have hi := fun w => implInner_any a b c a' b' c' w
  have hf := fin_inVal a b c a' b' c'
  generalize inVal a b c a' b' c' = v at hs hi hf
  generalize inCode a b c a' b' c' = k at hs hi
  have HS := Lib.hid hs; clear hs
  have HI := Lib.hid hi; clear hi
  have X0 := Lib.hid (box3_drew hx); clear hx
  have Y0 := Lib.hid (box3_drew hy); clear hy
  have B0 := Lib.hid b0.drew; clear b0
  unfold vec
  go_enter Try.func3, Try.ntmps3
  go_wp2
  go_region_with (first
    | (go_at_call 10; refine (toVector_agg _ _ _ _).mono ?_; rintro e w1 ⟨rfl, b1⟩; have X1 := Lib.hid (Box3.below X0.out b1 X0.out.lt); have Y1 := Lib.hid (Box3.below Y0.out b1 Y0.out.lt); have B1 := Lib.hid (Below.trans B0.out (Below.mono b1 B0.out.size)); clear b1; have cc := Y1.out.cells.1; have cd := Y1.out.cells.2.1; have ce := Y1.out.cells.2.2; have dl := Y1.out.lt)
    | (go_at_call 10; refine (toVector_agg _ _ _ _).mono ?_; rintro e w2 ⟨rfl, b2⟩; have X2 := Lib.hid (Box3.below X1.out b2 X1.out.lt); have Y2 := Lib.hid (Box3.below Y1.out b2 Y1.out.lt); have B2 := Lib.hid (Below.trans B1.out (Below.mono b2 B1.out.size)); clear b2)
    | (go_at_call 9; refine (HS.out _).mono ?_; rintro e w3 ⟨rfl, b3⟩; have X3 := Lib.hid (Box3.below X2.out b3 X2.out.lt); have Y3 := Lib.hid (Box3.below Y2.out b3 Y2.out.lt); have B3 := Lib.hid (Below.trans B2.out (Below.mono b3 B2.out.size)); clear b3))
  all_goals
    clear X0 Y0 B0 X1 Y1 B1 X2 Y2 B2 cc cd ce dl
    obtain ⟨c0, c1, c2⟩ := X3.out.cells
    obtain ⟨d0, d1, d2⟩ := Y3.out.cells
    have l0 := X3.out.lt
    have l1 := Y3.out.lt
    have U0 := Lib.hid (box3_drew X3.out)
    have V0 := Lib.hid (box3_drew Y3.out)
    have D0 := Lib.hid B3.out.drew
    clear X3 Y3 B3
    go_wp2
    go_region_with (first
      | (go_at_call 10; refine (toVector_agg _ _ _ _).mono ?_; rintro e w4 ⟨rfl, b1⟩; have X4 := Lib.hid (Box3.below U0.out b1 U0.out.lt); have Y4 := Lib.hid (Box3.below V0.out b1 V0.out.lt); have B4 := Lib.hid (Below.trans D0.out (Below.mono b1 D0.out.size)); clear b1; have cc := Y4.out.cells.1; have cd := Y4.out.cells.2.1; have ce := Y4.out.cells.2.2; have dl := Y4.out.lt)
      | (go_at_call 10; refine (toVector_agg _ _ _ _).mono ?_; rintro e w5 ⟨rfl, b2⟩; have B5 := Lib.hid (Below.trans B4.out (Below.mono b2 B4.out.size)); clear b2)
      | (go_at_call 11; refine (HI.out _).mono ?_; rintro e w6 ⟨rfl, b3⟩; have B6 := Lib.hid (Below.trans B5.out (Below.mono b3 B5.out.size)); clear b3))
    all_goals
      clear U0 V0 D0 X4 Y4 B4 B5 cc cd ce dl c0 c1 c2 d0 d1 d2 l0 l1
      have hc := wide_conv hf
      go_wp2_with (go_at_call 12; refine (sameFloat_any (wide v) _ (fin_wide hf)).mono ?_; rintro e w' ⟨rfl, rfl⟩)
      go_ret
      exact ⟨by simp, B6.out⟩
end Go.Proofs.Ytkfahacnanlnfaa
