/- The cross product, the reference's side: where an argument is no vector. -/
import Derived.Test.YtkfahacnanlnfaaCb
namespace Go.Proofs.Ytkfahacnanlnfaa
open Go.RowKit Ieee

theorem specCross1_no (a b c a' b' c' : Nat) (w : World) (h : (finV a b c && finV a' b' c') = false) : Calls Try.prog 36 #[vec a b c, vec a' b' c'] w fun e w' =>
    e = .returned (.tuple #[vec 0 0 0, .int .i64 1]) ∧ Below w.heap.size w w' := by
  obtain ⟨w1, hw1, X, Y, Z, b0⟩ := boxes3 w a b c a' b' c'
  have L0 := Lib.hid (show Lies w (w.heap.size + 1 + 1) a b c a' b' c' w1 from ⟨X, Y, Z, b0⟩)
  clear X Y Z b0
  obtain ⟨f, hf⟩ : ∃ f, finV a b c = f := ⟨_, rfl⟩
  unfold vec
  go_enter Try.func36, Try.ntmps36
  go_wp2_with fail
  rw [← hw1]
  clear hw1
  obtain ⟨T, hT⟩ : ∃ T, w.heap.size + 1 + 1 = T := ⟨_, rfl⟩
  rw [hT] at L0 ⊢
  have hT1 : w.heap.size < T := by omega
  clear hT
  refine (l09Is_any a b c _).mono ?_
  rintro e w2 ⟨rfl, b2⟩
  rw [hf]
  have L2 := Lib.hid (L0.out.below b2)
  clear L0 b2 w1
  cases f with
  | false =>
    obtain ⟨z0, z1, z2⟩ := L2.out.2.2.1.cells
    have g0 := L2.out.2.2.1.frozen 0
    have g1 := L2.out.2.2.1.frozen 1
    have g2 := L2.out.2.2.1.frozen 2
    go_wp2
    refine bodyPost_ret (v := .tuple #[.agg #[.float .f32 0, .float .f32 0, .float .f32 0], .int .i64 1]) (by simp [results, Try.results36, go_sem, z0, z1, z2]) rfl ?_
    exact ⟨rfl, below_set3 L2.out.2.2.2 (Nat.le_of_lt hT1) _ _ _⟩
  | true =>
    rw [hf] at h
    have f1 : finV a' b' c' = false := by simpa using h
    clear h
    obtain ⟨d0, d1, d2⟩ := L2.out.2.1.cells
    go_wp2_with fail
    refine (l09Is_any a' b' c' _).mono ?_
    rintro e w3 ⟨rfl, b3⟩
    rw [f1]
    have L3 := Lib.hid (L2.out.below b3)
    clear L2 b3 w2 d0 d1 d2
    obtain ⟨z0, z1, z2⟩ := L3.out.2.2.1.cells
    have g0 := L3.out.2.2.1.frozen 0
    have g1 := L3.out.2.2.1.frozen 1
    have g2 := L3.out.2.2.1.frozen 2
    go_wp2
    refine bodyPost_ret (v := .tuple #[.agg #[.float .f32 0, .float .f32 0, .float .f32 0], .int .i64 1]) (by simp [results, Try.results36, go_sem, z0, z1, z2]) rfl ?_
    exact ⟨rfl, below_set3 L3.out.2.2.2 (Nat.le_of_lt hT1) _ _ _⟩
end Go.Proofs.Ytkfahacnanlnfaa
