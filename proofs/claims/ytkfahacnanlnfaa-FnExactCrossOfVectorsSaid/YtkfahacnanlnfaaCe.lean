/- The cross product, the reference's outer function. -/
import Derived.Test.YtkfahacnanlnfaaCd
namespace Go.Proofs.Ytkfahacnanlnfaa
open Go.RowKit Ieee

theorem l00Vector_agg (a b c : Nat) (w : World) : Calls Try.prog 37 #[.agg #[.float .f32 a, .float .f32 b, .float .f32 c]] w fun e w' => e = .returned (.agg #[.float .f32 (cz a), .float .f32 (cz b), .float .f32 (cz c)]) ∧ Below w.heap.size w w' := l00Vector_any a b c w
theorem specCross_any (a b c a' b' c' : Nat) (w : World) : Calls Try.prog 13 #[vec a b c, vec a' b' c'] w
    (TellsV (crVal a b c a' b' c' (pv b c' c b')) (crVal a b c a' b' c' (pv c a' a c')) (crVal a b c a' b' c' (pv a b' b a')) (crCode a b c a' b' c') w) := by
  have hs := fun w => specCross1_any a b c a' b' c' w
  generalize crVal a b c a' b' c' (pv b c' c b') = X at *
  generalize crVal a b c a' b' c' (pv c a' a c') = Y at *
  generalize crVal a b c a' b' c' (pv a b' b a') = Z at *
  generalize crCode a b c a' b' c' = k at *
  have HS := Lib.hid hs; clear hs
  obtain ⟨w1, hw1, x0, y0, z0, b0⟩ := boxes3 w a b c a' b' c'
  have L0 := Lib.hid (show Lies w (w.heap.size + 1 + 1) a b c a' b' c' w1 from ⟨x0, y0, z0, b0⟩)
  clear x0 y0 z0 b0
  unfold vec
  go_enter Try.func13, Try.ntmps13
  go_wp2_with fail
  rw [← hw1]
  clear hw1
  obtain ⟨T, hT⟩ : ∃ T, w.heap.size + 1 + 1 = T := ⟨_, rfl⟩
  rw [hT] at L0 ⊢
  have hT1 : w.heap.size < T := by omega
  clear hT
  refine (HS.out _).mono ?_
  rintro e w2 ⟨x, y, z, rfl, b2, ex, ey, ez⟩
  have EX := Lib.hid ex
  have EY := Lib.hid ey
  have EZ := Lib.hid ez
  have L2 := Lib.hid (L0.out.below b2)
  clear L0 b2 w1 ex ey ez
  have lt := L2.out.2.2.1.lt
  go_wp2_with fail
  refine (l00Vector_agg x y z _).mono ?_
  rintro e w3 ⟨rfl, b3⟩
  have b23 : Below w2.heap.size w2 w3 := ((Below.refl _ _).alloc (Nat.le_refl _) _).trans (b3.mono (by simp))
  have L3 := Lib.hid (L2.out.below b23)
  clear L2 b3 b23
  rw [EX.out, EY.out, EZ.out]
  obtain ⟨z0, z1, z2⟩ := L3.out.2.2.1.cells
  have g0 := L3.out.2.2.1.frozen 0
  have g1 := L3.out.2.2.1.frozen 1
  have g2 := L3.out.2.2.1.frozen 2
  clear lt
  go_wp2
  refine bodyPost_ret (v := .tuple #[.agg #[.float .f32 X, .float .f32 Y, .float .f32 Z], .int .i64 k]) (by simp [results, Try.results13, go_sem, z0, z1, z2]) rfl ?_
  exact ⟨rfl, below_set3 L3.out.2.2.2 (Nat.le_of_lt hT1) _ _ _⟩
end Go.Proofs.Ytkfahacnanlnfaa
