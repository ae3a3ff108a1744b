/- The cross product, the implementation's side, joined. -/
import Derived.Test.YtkfahacnanlnfaaCg
namespace Go.Proofs.Ytkfahacnanlnfaa
open Go.RowKit Ieee

theorem crC_lost (p q r s : Nat) : crC 3 p q r s = 3 := by unfold crC; rw [stpC_lost, stpC_lost, stpC_lost]
theorem part_impl (p q r s : Nat) : (pOk p q r s = true → crC 0 p q r s = 0 ∧ crV 0 p q r s = cz (pv p q r s)) ∧ (pOk p q r s = false → crC 0 p q r s = 3) := by
  unfold pOk crC crV pv
  cases f0 : fin32 (op32 .mul p q) with
  | false => exact ⟨nofun, fun _ => by rw [stpC_not f0, stpC_lost, stpC_lost]⟩
  | true =>
  rw [stpC_fin f0, stpV_fin f0]
  cases f1 : fin32 (op32 .mul r s) with
  | false => exact ⟨nofun, fun _ => by rw [stpC_not f1, stpC_lost]⟩
  | true =>
  rw [stpC_fin f1, stpV_fin f1]
  obtain ⟨_, _, e1, e2, _⟩ := op_fin (o := .sub) rfl f0 f1
  cases f2 : fin32 (op32 .sub (op32 .mul p q) (op32 .mul r s)) with
  | false =>
    rw [e2] at f2
    exact ⟨nofun, fun _ => stpC_not f2⟩
  | true =>
    rw [e2] at f2
    exact ⟨fun _ => ⟨stpC_fin f2 0, by rw [stpV_fin f2, e1]⟩, nofun⟩
theorem cross_impl (a b c a' b' c' : Nat) : (crOk a b c a' b' c' = true → xC3 a b c a' b' c' = 0 ∧ xV1 a b c a' b' c' = cz (pv b c' c b') ∧ xV2 a b c a' b' c' = cz (pv c a' a c') ∧ xV3 a b c a' b' c' = cz (pv a b' b a')) ∧
    (crOk a b c a' b' c' = false → xC3 a b c a' b' c' = 3) := by
  unfold crOk xC3 xC2 xC1 xV3 xV2 xV1 xC2 xC1
  obtain ⟨r1, r2⟩ := part_impl b c' c b'
  obtain ⟨s1, s2⟩ := part_impl c a' a c'
  obtain ⟨t1, t2⟩ := part_impl a b' b a'
  cases fr : pOk b c' c b' with
  | false => rw [r2 fr, crC_lost, crC_lost]; exact ⟨nofun, fun _ => rfl⟩
  | true =>
  rw [(r1 fr).1, (r1 fr).2]
  cases fs : pOk c a' a c' with
  | false => rw [s2 fs, crC_lost]; exact ⟨nofun, fun _ => rfl⟩
  | true =>
  rw [(s1 fs).1, (s1 fs).2]
  cases ft : pOk a b' b a' with
  | false => exact ⟨nofun, fun _ => t2 ft⟩
  | true => exact ⟨fun _ => ⟨(t1 ft).1, rfl, rfl, (t1 ft).2⟩, nofun⟩

theorem implCross_no (a b c a' b' c' : Nat) (w : World) (h : (finV a b c && finV a' b' c') = false) : Calls Try.prog 14 #[vec a b c, vec a' b' c'] w (TellsV 0 0 0 1 w) := by
  obtain ⟨w1, hw1, X, Y, Z, b0⟩ := boxes3 w a b c a' b' c'
  have L0 := Lib.hid (show Lies w (w.heap.size + 1 + 1) a b c a' b' c' w1 from ⟨X, Y, Z, b0⟩)
  clear X Y Z b0
  obtain ⟨f, hf⟩ : ∃ f, finV a b c = f := ⟨_, rfl⟩
  unfold TellsV vec
  go_enter Try.func14, Try.ntmps14
  go_wp2_with fail
  rw [← hw1]
  clear hw1
  obtain ⟨T, hT⟩ : ∃ T, w.heap.size + 1 + 1 = T := ⟨_, rfl⟩
  rw [hT] at L0 ⊢
  have hT1 : w.heap.size < T := by omega
  clear hT
  refine (isVector_any a b c _).mono ?_
  rintro e w2 ⟨rfl, b2⟩
  rw [hf]
  have L2 := Lib.hid (L0.out.below b2)
  clear L0 b2 w1
  cases f with
  | false =>
    obtain ⟨z0, z1, z2⟩ := L2.out.2.2.1.cells
    have g0 := L2.out.2.2.1.frozen 0
    have g1 := L2.out.2.2.1.frozen 1
    have g2 := L2.out.2.2.1.frozen 2
    go_wp2
    refine bodyPost_ret (v := .tuple #[.agg #[.float .f32 0, .float .f32 0, .float .f32 0], .int .i64 1]) (by simp [results, Try.results14, go_sem, z0, z1, z2]) rfl ?_
    exact ⟨rfl, below_set3 L2.out.2.2.2 (Nat.le_of_lt hT1) _ _ _⟩
  | true =>
    rw [hf] at h
    have f1 : finV a' b' c' = false := by simpa using h
    clear h
    obtain ⟨d0, d1, d2⟩ := L2.out.2.1.cells
    go_wp2_with fail
    refine (isVector_any a' b' c' _).mono ?_
    rintro e w3 ⟨rfl, b3⟩
    rw [f1]
    have L3 := Lib.hid (L2.out.below b3)
    clear L2 b3 w2 d0 d1 d2
    obtain ⟨z0, z1, z2⟩ := L3.out.2.2.1.cells
    have g0 := L3.out.2.2.1.frozen 0
    have g1 := L3.out.2.2.1.frozen 1
    have g2 := L3.out.2.2.1.frozen 2
    go_wp2
    refine bodyPost_ret (v := .tuple #[.agg #[.float .f32 0, .float .f32 0, .float .f32 0], .int .i64 1]) (by simp [results, Try.results14, go_sem, z0, z1, z2]) rfl ?_
    exact ⟨rfl, below_set3 L3.out.2.2.2 (Nat.le_of_lt hT1) _ _ _⟩

theorem implCross_yes (a b c a' b' c' : Nat) (w : World) (f0 : finV a b c = true) (f1 : finV a' b' c' = true) : Calls Try.prog 14 #[vec a b c, vec a' b' c'] w
    (TellsV (if xC3 a b c a' b' c' = 0 then xV1 a b c a' b' c' else 0) (if xC3 a b c a' b' c' = 0 then xV2 a b c a' b' c' else 0) (if xC3 a b c a' b' c' = 0 then xV3 a b c a' b' c' else 0) (xC3 a b c a' b' c') w) := by
  obtain ⟨w1, hw1, X, Y, Z, b0⟩ := boxes3 w a b c a' b' c'
  have L0 := Lib.hid (show Lies w (w.heap.size + 1 + 1) a b c a' b' c' w1 from ⟨X, Y, Z, b0⟩)
  clear X Y Z b0
  have HF0 := Lib.hid f0
  have HF1 := Lib.hid f1
  have hx := fun B w => crossR_any B a b c a' b' c' w
  generalize xC3 a b c a' b' c' = k at *
  generalize xV1 a b c a' b' c' = x at *
  generalize xV2 a b c a' b' c' = y at *
  generalize xV3 a b c a' b' c' = z at *
  have HX := Lib.hid hx; clear hx
  have ht := fun B w => toldV_any B k x y z w
  obtain ⟨X, hX⟩ : ∃ y, (if k = 0 then x else 0) = y := ⟨_, rfl⟩
  obtain ⟨Y, hY⟩ : ∃ v, (if k = 0 then y else 0) = v := ⟨_, rfl⟩
  obtain ⟨Z, hZ⟩ : ∃ v, (if k = 0 then z else 0) = v := ⟨_, rfl⟩
  rw [hX, hY, hZ] at ht ⊢
  have HT := Lib.hid ht; clear ht hX hY hZ
  unfold TellsV vec
  go_enter Try.func14, Try.ntmps14
  go_wp2_with fail
  rw [← hw1]
  clear hw1
  obtain ⟨T, hT⟩ : ∃ T, w.heap.size + 1 + 1 = T := ⟨_, rfl⟩
  rw [hT] at L0 ⊢
  have hT1 : w.heap.size < T := by omega
  clear hT
  refine (isVector_any a b c _).mono ?_
  rintro e w2 ⟨rfl, b2⟩
  rw [f0]
  have L2 := Lib.hid (L0.out.below b2)
  clear L0 b2 w1
  obtain ⟨d0, d1, d2⟩ := L2.out.2.1.cells
  go_wp2_with fail
  refine (isVector_any a' b' c' _).mono ?_
  rintro e w3 ⟨rfl, b3⟩
  rw [f1]
  have L3 := Lib.hid (L2.out.below b3)
  clear L2 b3 w2 d0 d1 d2 f0 f1
  obtain ⟨c0, c1, c2⟩ := L3.out.1.cells
  obtain ⟨d0, d1, d2⟩ := L3.out.2.1.cells
  have l0 := L3.out.1.lt
  have l1 := L3.out.2.1.lt
  go_wp2_with fail
  refine (HX.out w3.heap.size _ (calc_new w3) HF0.out HF1.out).mono ?_
  rintro e w4 ⟨rfl, hc4, g4⟩
  have L4 : Lies w T a b c a' b' c' w4 := by
    have L3' := L3.out.below (show Below w3.heap.size w3 (w3.alloc (.cells #[.int .i64 0] 67)) from (Below.refl _ _).alloc (Nat.le_refl _) _)
    have n0 := L3.out.1.lt
    have n1 := L3.out.2.1.lt
    have n2 := L3.out.2.2.1.lt
    refine ⟨L3'.1.grown g4 (fun e => by have := Option.some.inj e; omega), L3'.2.1.grown g4 (fun e => by have := Option.some.inj e; omega), L3'.2.2.1.grown g4 (fun e => by have := Option.some.inj e; omega), L3'.2.2.2.grown g4 (by have := L3.out.2.2.2.size; simp; omega) (fun g e => by cases e; exact L3.out.2.2.2.size)⟩
  have C4 := Lib.hid hc4
  have L4 := Lib.hid L4
  clear hc4 g4 c0 c1 c2 d0 d1 d2 l0 l1
  unfold vec
  go_wp2_with fail
  refine (HT.out w3.heap.size _ C4.out).mono ?_
  rintro e w5 ⟨rfl, b5⟩
  have L5 := Lib.hid (L4.out.below b5)
  clear b5 L4 C4
  obtain ⟨z0, z1, z2⟩ := L5.out.2.2.1.cells
  have g0 := L5.out.2.2.1.frozen 0
  have g1 := L5.out.2.2.1.frozen 1
  have g2 := L5.out.2.2.1.frozen 2
  unfold vec
  go_wp2
  refine bodyPost_ret (v := .tuple #[.agg #[.float .f32 X, .float .f32 Y, .float .f32 Z], .int .i64 k]) (by simp [results, Try.results14, go_sem, z0, z1, z2]) rfl ?_
  exact ⟨rfl, below_set3 L5.out.2.2.2 (Nat.le_of_lt hT1) _ _ _⟩
theorem implCross_any (a b c a' b' c' : Nat) (w : World) : Calls Try.prog 14 #[vec a b c, vec a' b' c'] w
    (TellsV (crVal a b c a' b' c' (pv b c' c b')) (crVal a b c a' b' c' (pv c a' a c')) (crVal a b c a' b' c' (pv a b' b a')) (crCode a b c a' b' c') w) := by
  unfold crVal crCode
  cases f : (finV a b c && finV a' b' c') with
  | false => exact implCross_no a b c a' b' c' w f
  | true =>
    have f0 : finV a b c = true := by revert f; cases finV a b c <;> simp
    have f1 : finV a' b' c' = true := by revert f; cases finV a' b' c' <;> simp
    have h := implCross_yes a b c a' b' c' w f0 f1
    obtain ⟨g1, g2⟩ := cross_impl a b c a' b' c'
    cases ho : crOk a b c a' b' c' with
    | true => rw [(g1 ho).1, (g1 ho).2.1, (g1 ho).2.2.1, (g1 ho).2.2.2] at h; exact h
    | false => rw [g2 ho] at h; exact h
end Go.Proofs.Ytkfahacnanlnfaa
