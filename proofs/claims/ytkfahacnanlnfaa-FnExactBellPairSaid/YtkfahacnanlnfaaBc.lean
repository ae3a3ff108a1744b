/- Bell's pairs: the program's side. -/
import Derived.Test.YtkfahacnanlnfaaBb
namespace Go.Proofs.Ytkfahacnanlnfaa
open Go.RowKit Ieee

theorem half_calc (B : Nat) (w : World) (h : CalcAt w B 0) : Calls Try.prog 50 #[.pointer (some ⟨B, 0, none⟩), .float .f32 1056964608] w fun e w' => e = .returned (.float .f32 1060439283) ∧ CalcAt w' B 0 ∧ w.grownBy w' (some B) := by
  have hc := calcRoot_pos B 0 1056964608 8388608 (-24) w h half_read (by decide)
  rw [rtv_half] at hc
  have e1 : stpC 0 1060439283 = 0 := by decide +kernel
  have e2 : stpV 0 1060439283 = 1060439283 := by decide +kernel
  rw [e1, e2] at hc
  exact hc
theorem neg_word (w : World) : (Op.unary .neg (.float .f32 1060439283)).run Try.prog w = .ok (.float .f32 3207922931) w := by kernel_rfl
theorem grown_high {w w' : World} {row : Option Nat} (h : w.grownBy w' row) (p : Addr) (v : Value) (hp : w.heap.size ≤ p.block) : w.grownBy (w'.setCell p v) row :=
  ⟨h.os, h.tape, h.output, by simpa [World.setCell] using h.size, fun k hk hne => (Below.heap_setCell w' p v k (by omega)).trans (h.block k hk hne)⟩
theorem calc_new' (w : World) : CalcAt (w.alloc (.cells #[.int .i64 0] 67)) w.heap.size 0 := heap_alloc_new w _
theorem high4 {w w' : World} {B R : Nat} {c : Int} (hc : CalcAt w' B c) (hg : w.grownBy w' (some B)) (hB : B ≠ R) (hR : w.heap.size ≤ R) (u0 u1 u2 u3 : Value) :
    CalcAt ((((w'.setCell ⟨R, 0, none⟩ u0).setCell ⟨R, 1, none⟩ u1).setCell ⟨R, 2, none⟩ u2).setCell ⟨R, 3, none⟩ u3) B c ∧ w.grownBy ((((w'.setCell ⟨R, 0, none⟩ u0).setCell ⟨R, 1, none⟩ u1).setCell ⟨R, 2, none⟩ u2).setCell ⟨R, 3, none⟩ u3) (some B) :=
  ⟨(Below.heap_setCell _ _ _ _ hB).trans ((Below.heap_setCell _ _ _ _ hB).trans ((Below.heap_setCell _ _ _ _ hB).trans ((Below.heap_setCell _ _ _ _ hB).trans hc))),
   grown_high (grown_high (grown_high (grown_high hg _ _ hR) _ _ hR) _ _ hR) _ _ hR⟩
theorem bell_any (B : Nat) (k : Int) (w : World) (h0 : 0 ≤ k) (h3 : k ≤ 3) (h : CalcAt w B 0) : Calls Try.prog 45 #[.pointer (some ⟨B, 0, none⟩), .int .i64 k] w fun e w' => e = .returned (bellV k) ∧ CalcAt w' B 0 ∧ w.grownBy w' (some B) := by
  have X := row4_new w (.complex .f32 0 0) (.complex .f32 0 0) (.complex .f32 0 0) (.complex .f32 0 0) 36
  have b0 : Below w.heap.size w (w.alloc (.cells #[.complex .f32 0 0, .complex .f32 0 0, .complex .f32 0 0, .complex .f32 0 0] 36)) := (Below.refl _ _).alloc (Nat.le_refl _) _
  have hB := h.lt
  have hBn : B ≠ w.heap.size := by omega
  have HC := Lib.hid (h.below b0 h.lt)
  have X0 := Lib.hid X
  have G0 := Lib.hid (toGrown b0 (some B))
  have hn := neg_word
  clear X b0 h
  rcases (by omega : k = 0 ∨ k = 1 ∨ k = 2 ∨ k = 3) with rfl | rfl | rfl | rfl
  · show Calls _ _ _ _ fun e w' => e = .returned (quad 1060439283 0 0 0 0 0 1060439283 0) ∧ _
    unfold quad
    go_enter Try.func45, Try.ntmps45
    go_wp2_with fail
    refine (half_calc B _ HC.out).mono ?_
    rintro e w1 ⟨rfl, hc1, g1⟩
    have X1 := Lib.hid (X0.out.keep (g1.block w.heap.size (by simp) (fun e => by have := Option.some.inj e; omega)))
    have C1 := Lib.hid hc1
    have G1 := Lib.hid (G0.out.trans g1)
    clear hc1 g1
    obtain ⟨c0, c1, c2, c3⟩ := X1.out.cells
    have g0 := X1.out.frozen 0
    have g1 := X1.out.frozen 1
    have g2 := X1.out.frozen 2
    have g3 := X1.out.frozen 3
    go_wp2_with (simp only [hn])
    obtain ⟨k0, k1, k2, k3⟩ := (X1.out.put (.complex .f32 1060439283 0) (.complex .f32 0 0) (.complex .f32 0 0) (.complex .f32 1060439283 0)).cells
    refine bodyPost_ret (v := .agg #[.complex .f32 1060439283 0, .complex .f32 0 0, .complex .f32 0 0, .complex .f32 1060439283 0]) (by simp [results, Try.results45, go_sem, c0, c1, c2, c3]) rfl ?_
    exact ⟨rfl, high4 C1.out G1.out hBn (Nat.le_refl _) _ _ _ _⟩
  · show Calls _ _ _ _ fun e w' => e = .returned (quad 1060439283 0 0 0 0 0 3207922931 0) ∧ _
    unfold quad
    go_enter Try.func45, Try.ntmps45
    go_wp2_with fail
    refine (half_calc B _ HC.out).mono ?_
    rintro e w1 ⟨rfl, hc1, g1⟩
    have X1 := Lib.hid (X0.out.keep (g1.block w.heap.size (by simp) (fun e => by have := Option.some.inj e; omega)))
    have C1 := Lib.hid hc1
    have G1 := Lib.hid (G0.out.trans g1)
    clear hc1 g1
    obtain ⟨c0, c1, c2, c3⟩ := X1.out.cells
    have g0 := X1.out.frozen 0
    have g1 := X1.out.frozen 1
    have g2 := X1.out.frozen 2
    have g3 := X1.out.frozen 3
    go_wp2_with (simp only [hn])
    obtain ⟨k0, k1, k2, k3⟩ := (X1.out.put (.complex .f32 1060439283 0) (.complex .f32 0 0) (.complex .f32 0 0) (.complex .f32 3207922931 0)).cells
    refine bodyPost_ret (v := .agg #[.complex .f32 1060439283 0, .complex .f32 0 0, .complex .f32 0 0, .complex .f32 3207922931 0]) (by simp [results, Try.results45, go_sem, c0, c1, c2, c3]) rfl ?_
    exact ⟨rfl, high4 C1.out G1.out hBn (Nat.le_refl _) _ _ _ _⟩
  · show Calls _ _ _ _ fun e w' => e = .returned (quad 0 0 1060439283 0 1060439283 0 0 0) ∧ _
    unfold quad
    go_enter Try.func45, Try.ntmps45
    go_wp2_with fail
    refine (half_calc B _ HC.out).mono ?_
    rintro e w1 ⟨rfl, hc1, g1⟩
    have X1 := Lib.hid (X0.out.keep (g1.block w.heap.size (by simp) (fun e => by have := Option.some.inj e; omega)))
    have C1 := Lib.hid hc1
    have G1 := Lib.hid (G0.out.trans g1)
    clear hc1 g1
    obtain ⟨c0, c1, c2, c3⟩ := X1.out.cells
    have g0 := X1.out.frozen 0
    have g1 := X1.out.frozen 1
    have g2 := X1.out.frozen 2
    have g3 := X1.out.frozen 3
    go_wp2_with (simp only [hn])
    obtain ⟨k0, k1, k2, k3⟩ := (X1.out.put (.complex .f32 0 0) (.complex .f32 1060439283 0) (.complex .f32 1060439283 0) (.complex .f32 0 0)).cells
    refine bodyPost_ret (v := .agg #[.complex .f32 0 0, .complex .f32 1060439283 0, .complex .f32 1060439283 0, .complex .f32 0 0]) (by simp [results, Try.results45, go_sem, c0, c1, c2, c3]) rfl ?_
    exact ⟨rfl, high4 C1.out G1.out hBn (Nat.le_refl _) _ _ _ _⟩
  · show Calls _ _ _ _ fun e w' => e = .returned (quad 0 0 1060439283 0 3207922931 0 0 0) ∧ _
    unfold quad
    go_enter Try.func45, Try.ntmps45
    go_wp2_with fail
    refine (half_calc B _ HC.out).mono ?_
    rintro e w1 ⟨rfl, hc1, g1⟩
    have X1 := Lib.hid (X0.out.keep (g1.block w.heap.size (by simp) (fun e => by have := Option.some.inj e; omega)))
    have C1 := Lib.hid hc1
    have G1 := Lib.hid (G0.out.trans g1)
    clear hc1 g1
    obtain ⟨c0, c1, c2, c3⟩ := X1.out.cells
    have g0 := X1.out.frozen 0
    have g1 := X1.out.frozen 1
    have g2 := X1.out.frozen 2
    have g3 := X1.out.frozen 3
    go_wp2_with (simp only [hn])
    obtain ⟨k0, k1, k2, k3⟩ := (X1.out.put (.complex .f32 0 0) (.complex .f32 1060439283 0) (.complex .f32 3207922931 0) (.complex .f32 0 0)).cells
    refine bodyPost_ret (v := .agg #[.complex .f32 0 0, .complex .f32 1060439283 0, .complex .f32 3207922931 0, .complex .f32 0 0]) (by simp [results, Try.results45, go_sem, c0, c1, c2, c3]) rfl ?_
    exact ⟨rfl, high4 C1.out G1.out hBn (Nat.le_refl _) _ _ _ _⟩
theorem toldQ_any (B : Nat) (c0 c1 c2 c3 c4 c5 c6 c7 : Nat) (w : World) (h : CalcAt w B 0) : Calls Try.prog 44 #[.pointer (some ⟨B, 0, none⟩), .agg #[.complex .f32 c0 c1, .complex .f32 c2 c3, .complex .f32 c4 c5, .complex .f32 c6 c7]] w fun e w' =>
    e = .returned (.tuple #[.agg #[.complex .f32 c0 c1, .complex .f32 c2 c3, .complex .f32 c4 c5, .complex .f32 c6 c7], .int .i64 0]) ∧ Below w.heap.size w w' := by
  have b0 : Below w.heap.size w ((w.alloc (.cells #[.complex .f32 c0 c1, .complex .f32 c2 c3, .complex .f32 c4 c5, .complex .f32 c6 c7] 36)).alloc (.cells #[.complex .f32 0 0, .complex .f32 0 0, .complex .f32 0 0, .complex .f32 0 0] 36)) := ((Below.refl _ _).alloc (Nat.le_refl _) _).alloc (by simp) _
  have hc := (h.below b0 h.lt).cell
  clear b0 h
  go_enter Try.func44, Try.ntmps44
  go_wp2_with fail
  refine bodyPost_ret (v := .tuple #[.agg #[.complex .f32 c0 c1, .complex .f32 c2 c3, .complex .f32 c4 c5, .complex .f32 c6 c7], .int .i64 0]) (by simp [results, Try.results44, go_sem]) rfl ?_
  exact ⟨rfl, ((Below.refl _ _).alloc (Nat.le_refl _) _).alloc (by simp) _⟩
theorem isBell_any (k : Int) (w : World) : Calls Try.prog 43 #[.int .i64 k] w fun e w' => e = .returned (.bool (decide (0 ≤ k) && decide (k ≤ 3))) ∧ w = w' := by
  go_enter Try.func43, Try.ntmps43
  go_wp2_with (go_at_call 77; refine (within_any k 0 3 _).mono ?_; rintro e w' ⟨rfl, rfl⟩)
  go_ret
  exact ⟨rfl, rfl⟩
theorem bellV_quad (k : Int) : ∃ a b c d e f g h, bellV k = quad a b c d e f g h := by
  obtain ⟨a, b, c, d, e, f, g, h, _, h2⟩ := bell_parts k
  exact ⟨_, _, _, _, _, _, _, _, h2⟩
set_option maxHeartbeats 1000000 in
theorem implBell_any (k : Int) (w : World) : Calls Try.prog 17 #[.int .i64 k] w (TellsQ (bellV k) (bellC k) w) := by
  have X := row4_new w (.complex .f32 0 0) (.complex .f32 0 0) (.complex .f32 0 0) (.complex .f32 0 0) 36
  have b0 : Below w.heap.size w (w.alloc (.cells #[.complex .f32 0 0, .complex .f32 0 0, .complex .f32 0 0, .complex .f32 0 0] 36)) := (Below.refl _ _).alloc (Nat.le_refl _) _
  by_cases hk : 0 ≤ k ∧ k ≤ 3
  · have hd : (decide (0 ≤ k) && decide (k ≤ 3)) = true := by simp [hk]
    have hcd : bellC k = 0 := by unfold bellC; rw [if_pos hk]
    have hb := fun B w => bell_any B k w hk.1 hk.2
    obtain ⟨p0, p1, p2, p3, p4, p5, p6, p7, hq⟩ := bellV_quad k
    rw [hcd]
    rw [hq] at hb ⊢
    have HB := Lib.hid hb; clear hb hk hq hcd
    unfold TellsQ quad at *
    go_enter Try.func17, Try.ntmps17
    go_wp2_with (go_at_call 43; refine (isBell_any k _).mono ?_; rintro e w' ⟨rfl, rfl⟩; rw [hd])
    refine (HB.out (w.heap.size + 1) _ (by have := calc_new' (w.alloc (.cells #[.complex .f32 0 0, .complex .f32 0 0, .complex .f32 0 0, .complex .f32 0 0] 36)); simp only [World.size_alloc] at this; exact this)).mono ?_
    rintro e w2 ⟨rfl, hc2, g2⟩
    have X2 := (X.alloc (.cells #[.int .i64 0] 67)).keep (g2.block w.heap.size (by simp; omega) (fun e => by have := Option.some.inj e; omega))
    have B2 : Below w.heap.size w w2 := (b0.alloc b0.size (.cells #[.int .i64 0] 67)).grown g2 (by simp; omega) (fun g e => by cases e; omega)
    go_wp2_with fail
    refine (toldQ_any _ p0 p1 p2 p3 p4 p5 p6 p7 _ hc2).mono ?_
    rintro e w3 ⟨rfl, b3⟩
    have X3 := Lib.hid (X2.below b3 X2.lt)
    have B3 := Lib.hid (B2.trans (b3.mono B2.size))
    clear X X2 B2 b0 b3 hc2 g2
    obtain ⟨c0, c1, c2, c3⟩ := X3.out.cells
    have g0 := X3.out.frozen 0
    have g1 := X3.out.frozen 1
    have g2 := X3.out.frozen 2
    have g3 := X3.out.frozen 3
    go_wp2
    obtain ⟨k0, k1, k2, k3⟩ := (X3.out.put (.complex .f32 p0 p1) (.complex .f32 p2 p3) (.complex .f32 p4 p5) (.complex .f32 p6 p7)).cells
    refine bodyPost_ret (v := .tuple #[.agg #[.complex .f32 p0 p1, .complex .f32 p2 p3, .complex .f32 p4 p5, .complex .f32 p6 p7], .int .i64 0]) (by simp [results, Try.results17, go_sem, c0, c1, c2, c3]) rfl ?_
    exact ⟨rfl, below_set4 B3.out (Nat.le_refl _) _ _ _ _⟩
  · have hd : (decide (0 ≤ k) && decide (k ≤ 3)) = false := by simp; omega
    have hcd : bellC k = 2 := by unfold bellC; rw [if_neg hk]
    have hq : bellV k = quad 0 0 0 0 0 0 0 0 := by unfold bellV; rw [if_neg hk]
    rw [hcd, hq]
    clear hcd hq hk X
    have B0 := Lib.hid b0; clear b0
    unfold TellsQ quad
    go_enter Try.func17, Try.ntmps17
    go_wp2_with (go_at_call 43; refine (isBell_any k _).mono ?_; rintro e w' ⟨rfl, rfl⟩; rw [hd])
    refine bodyPost_ret (v := .tuple #[.agg #[.complex .f32 0 0, .complex .f32 0 0, .complex .f32 0 0, .complex .f32 0 0], .int .i64 2]) (by simp [results, Try.results17, go_sem]) rfl ?_
    exact ⟨rfl, B0.out⟩
end Go.Proofs.Ytkfahacnanlnfaa
