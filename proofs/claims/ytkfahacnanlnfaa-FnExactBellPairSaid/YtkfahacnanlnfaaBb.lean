/- Bell's pairs: the reference's outer function. -/
import Derived.Test.YtkfahacnanlnfaaBa
namespace Go.Proofs.Ytkfahacnanlnfaa
open Go.RowKit Ieee

theorem l00Complex_any (a b : Nat) (w : World) : Calls Try.prog 76 #[.complex .f32 a b] w fun e w' => e = .returned (.complex .f32 (cz a) (cz b)) ∧ w = w' := by
  go_enter Try.func76, Try.ntmps76
  go_wp2_with (go_at_call 34; refine (l00Float_any _ _).mono ?_; rintro e w' ⟨rfl, rfl⟩)
  go_ret
  exact ⟨rfl, rfl⟩
set_option maxHeartbeats 2000000 in
theorem l00Pair_any (a b c d e f g h : Nat) (w : World) : Calls Try.prog 42 #[quad a b c d e f g h] w fun e' w' => e' = .returned (quad (cz a) (cz b) (cz c) (cz d) (cz e) (cz f) (cz g) (cz h)) ∧ Below w.heap.size w w' := by
  have X := (row4_new w (.complex .f32 a b) (.complex .f32 c d) (.complex .f32 e f) (.complex .f32 g h) 36).alloc (.cells #[.complex .f32 0 0, .complex .f32 0 0, .complex .f32 0 0, .complex .f32 0 0] 36)
  have Y := row4_new (w.alloc (.cells #[.complex .f32 a b, .complex .f32 c d, .complex .f32 e f, .complex .f32 g h] 36)) (.complex .f32 0 0) (.complex .f32 0 0) (.complex .f32 0 0) (.complex .f32 0 0) 36
  simp only [World.size_alloc] at Y
  have b0 : Below w.heap.size w ((w.alloc (.cells #[.complex .f32 a b, .complex .f32 c d, .complex .f32 e f, .complex .f32 g h] 36)).alloc (.cells #[.complex .f32 0 0, .complex .f32 0 0, .complex .f32 0 0, .complex .f32 0 0] 36)) := ((Below.refl _ _).alloc (Nat.le_refl _) _).alloc (by simp) _
  obtain ⟨c0, c1, c2, c3⟩ := X.cells
  obtain ⟨e0, e1, e2, e3⟩ := Y.cells
  have g0 := Y.frozen 0
  have g1 := Y.frozen 1
  have g2 := Y.frozen 2
  have g3 := Y.frozen 3
  have Y1 := Lib.hid Y; clear Y
  have B1 := Lib.hid b0; clear b0
  clear X
  unfold quad
  go_enter Try.func42, Try.ntmps42
  go_wp2_with fail
  generalize ((w.alloc (.cells #[.complex .f32 a b, .complex .f32 c d, .complex .f32 e f, .complex .f32 g h] 36)).alloc (.cells #[.complex .f32 0 0, .complex .f32 0 0, .complex .f32 0 0, .complex .f32 0 0] 36)) = w1 at *
  go_region_held3 (fun w' => w'.cell? ⟨w.heap.size, 0, none⟩ = some (.complex .f32 a b) ∧ w'.cell? ⟨w.heap.size, 1, none⟩ = some (.complex .f32 c d) ∧ w'.cell? ⟨w.heap.size, 2, none⟩ = some (.complex .f32 e f) ∧ w'.cell? ⟨w.heap.size, 3, none⟩ = some (.complex .f32 g h)) (go_keep) (first | (go_at_call 76; refine (l00Complex_any _ _ _).mono ?_; rintro e w' ⟨rfl, rfl⟩))
  all_goals
    go_wp2
    obtain ⟨k0, k1, k2, k3⟩ := (Y1.out.put (.complex .f32 (cz a) (cz b)) (.complex .f32 (cz c) (cz d)) (.complex .f32 (cz e) (cz f)) (.complex .f32 (cz g) (cz h))).cells
    refine bodyPost_ret (v := .agg #[.complex .f32 (cz a) (cz b), .complex .f32 (cz c) (cz d), .complex .f32 (cz e) (cz f), .complex .f32 (cz g) (cz h)]) (by simp [results, Try.results42, go_sem, e0, e1, e2, e3]) rfl ?_
    exact ⟨rfl, (below_set4 B1.out (Nat.le_succ _) _ _ _ _).drew⟩
theorem l00Pair_agg (a b c d e f g h : Nat) (w : World) : Calls Try.prog 42 #[.agg #[.complex .f32 a b, .complex .f32 c d, .complex .f32 e f, .complex .f32 g h]] w fun e' w' => e' = .returned (.agg #[.complex .f32 (cz a) (cz b), .complex .f32 (cz c) (cz d), .complex .f32 (cz e) (cz f), .complex .f32 (cz g) (cz h)]) ∧ Below w.heap.size w w' := l00Pair_any a b c d e f g h w

/-- What k is told as. -/
def bellV (k : Int) : Value := if 0 ≤ k ∧ k ≤ 3 then (if k = 0 then quad 1060439283 0 0 0 0 0 1060439283 0 else if k = 1 then quad 1060439283 0 0 0 0 0 3207922931 0 else if k = 2 then quad 0 0 1060439283 0 1060439283 0 0 0 else quad 0 0 1060439283 0 3207922931 0 0 0) else quad 0 0 0 0 0 0 0 0
theorem czs : cz 1060439283 = 1060439283 ∧ cz 0 = 0 ∧ cz 3207922931 = 3207922931 ∧ cz 2147483648 = 0 := by decide +kernel
theorem bell_parts (k : Int) : ∃ a b c d e f g h, bellRV k = quad a b c d e f g h ∧ bellV k = quad (cz a) (cz b) (cz c) (cz d) (cz e) (cz f) (cz g) (cz h) := by
  obtain ⟨z1, z2, z3, z4⟩ := czs
  unfold bellRV bellV bellR
  by_cases hk : 0 ≤ k ∧ k ≤ 3
  · rw [if_pos hk, if_pos hk]
    by_cases h0 : k = 0
    · rw [if_pos h0, if_pos h0]; exact ⟨_, _, _, _, _, _, _, _, rfl, by rw [z1, z2]⟩
    · rw [if_neg h0, if_neg h0]
      by_cases h1 : k = 1
      · rw [if_pos h1, if_pos h1]; exact ⟨_, _, _, _, _, _, _, _, rfl, by rw [z1, z2, z3, z4]⟩
      · rw [if_neg h1, if_neg h1]
        by_cases h2 : k = 2
        · rw [if_pos h2, if_pos h2]; exact ⟨_, _, _, _, _, _, _, _, rfl, by rw [z1, z2]⟩
        · rw [if_neg h2, if_neg h2]; exact ⟨_, _, _, _, _, _, _, _, rfl, by rw [z1, z2, z3, z4]⟩
  · rw [if_neg hk, if_neg hk]; exact ⟨_, _, _, _, _, _, _, _, rfl, by rw [z2]⟩
set_option maxHeartbeats 1000000 in
theorem specBell_any (k : Int) (w : World) : Calls Try.prog 16 #[.int .i64 k] w (TellsQ (bellV k) (bellC k) w) := by
  obtain ⟨a, b, c, d, p, f, g, h, h1, h2⟩ := bell_parts k
  have hs := fun w => specBell1_any k w
  rw [h1] at hs
  rw [h2]
  have HS := Lib.hid hs; clear hs h1 h2
  generalize bellC k = q at *
  unfold TellsQ quad at *
  have X := row4_new w (.complex .f32 0 0) (.complex .f32 0 0) (.complex .f32 0 0) (.complex .f32 0 0) 36
  have b0 : Below w.heap.size w (w.alloc (.cells #[.complex .f32 0 0, .complex .f32 0 0, .complex .f32 0 0, .complex .f32 0 0] 36)) := (Below.refl _ _).alloc (Nat.le_refl _) _
  go_enter Try.func16, Try.ntmps16
  go_wp2_with fail
  refine (HS.out _).mono ?_
  rintro e w1 ⟨rfl, b1⟩
  have X1 := Lib.hid (X.below b1 X.lt)
  have B1 := Lib.hid (b0.trans (b1.mono b0.size))
  clear X b0 b1
  have lt := X1.out.lt
  go_wp2_with fail
  refine (l00Pair_agg a b c d p f g h _).mono ?_
  rintro e w2 ⟨rfl, b2⟩
  have X2 := Lib.hid ((X1.out.alloc (.cells #[.complex .f32 a b, .complex .f32 c d, .complex .f32 p f, .complex .f32 g h] 36)).below b2 (X1.out.alloc _).lt)
  have B2 := Lib.hid ((B1.out.alloc B1.out.size _).trans (b2.mono (Nat.le_trans B1.out.size (by simp))))
  clear b2 lt
  obtain ⟨c0, c1, c2, c3⟩ := X2.out.cells
  have g0 := X2.out.frozen 0
  have g1 := X2.out.frozen 1
  have g2 := X2.out.frozen 2
  have g3 := X2.out.frozen 3
  go_wp2
  obtain ⟨k0, k1, k2, k3⟩ := (X2.out.put (.complex .f32 (cz a) (cz b)) (.complex .f32 (cz c) (cz d)) (.complex .f32 (cz p) (cz f)) (.complex .f32 (cz g) (cz h))).cells
  refine bodyPost_ret (v := .tuple #[.agg #[.complex .f32 (cz a) (cz b), .complex .f32 (cz c) (cz d), .complex .f32 (cz p) (cz f), .complex .f32 (cz g) (cz h)], .int .i64 q]) (by simp [results, Try.results16, go_sem, c0, c1, c2, c3]) rfl ?_
  exact ⟨rfl, below_set4 B2.out (Nat.le_refl _) _ _ _ _⟩
end Go.Proofs.Ytkfahacnanlnfaa
