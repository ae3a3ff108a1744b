/- Bell's pairs: the program's side. -/
/- Bell's pairs: the law's walk. -/
import Derived.Test.YtkfahacnanlnfaaZWa
import Derived.Test.YtkfahacnanlnfaaZBb
namespace Go.Proofs.Ytkfahacnanlnfaa
open Go.RowKit Ieee

theorem half_calc (B : Nat) (w : World) (h : CalcAt w B 0) : Calls Try.prog 50 #[.pointer (some ⟨B, 0, none⟩), .float .f32 1056964608] w fun e w' => e = .returned (.float .f32 1060439283) ∧ CalcAt w' B 0 ∧ w.grownBy w' (some B) := by
  have hc := calcRoot_pos B 0 1056964608 8388608 (-24) w h half_read (by decide)
  rw [rtv_half] at hc
  have e1 : stpC 0 1060439283 = 0 := by decide +kernel
  have e2 : stpV 0 1060439283 = 1060439283 := by decide +kernel
  rw [e1, e2] at hc
  exact hc
theorem neg_word (w : World) : (Op.unary .neg (.float .f32 1060439283)).run Try.prog w = .ok (.float .f32 3207922931) w := by kernel_rfl
theorem grown_high {w w' : World} {row : Option Nat} (h : w.grownBy w' row) (p : Addr) (v : Value) (hp : w.heap.size ≤ p.block) : w.grownBy (w'.setCell p v) row :=
  ⟨h.os, h.tape, h.output, by simpa [World.setCell] using h.size, fun k hk hne => (Below.heap_setCell w' p v k (by omega)).trans (h.block k hk hne)⟩
theorem calc_new' (w : World) : CalcAt (w.alloc (.cells #[.int .i64 0] 67)) w.heap.size 0 := heap_alloc_new w _
theorem high4 {w w' : World} {B R : Nat} {c : Int} (hc : CalcAt w' B c) (hg : w.grownBy w' (some B)) (hB : B ≠ R) (hR : w.heap.size ≤ R) (u0 u1 u2 u3 : Value) :
    CalcAt ((((w'.setCell ⟨R, 0, none⟩ u0).setCell ⟨R, 1, none⟩ u1).setCell ⟨R, 2, none⟩ u2).setCell ⟨R, 3, none⟩ u3) B c ∧ w.grownBy ((((w'.setCell ⟨R, 0, none⟩ u0).setCell ⟨R, 1, none⟩ u1).setCell ⟨R, 2, none⟩ u2).setCell ⟨R, 3, none⟩ u3) (some B) :=
  ⟨(Below.heap_setCell _ _ _ _ hB).trans ((Below.heap_setCell _ _ _ _ hB).trans ((Below.heap_setCell _ _ _ _ hB).trans ((Below.heap_setCell _ _ _ _ hB).trans hc))),
   grown_high (grown_high (grown_high (grown_high hg _ _ hR) _ _ hR) _ _ hR) _ _ hR⟩
theorem bell_any (B : Nat) (k : Int) (w : World) (h0 : 0 ≤ k) (h3 : k ≤ 3) (h : CalcAt w B 0) : Calls Try.prog 45 #[.pointer (some ⟨B, 0, none⟩), .int .i64 k] w fun e w' => e = .returned (bellV k) ∧ CalcAt w' B 0 ∧ w.grownBy w' (some B) := by
  have X := row4_new w (.complex .f32 0 0) (.complex .f32 0 0) (.complex .f32 0 0) (.complex .f32 0 0) 36
  have b0 : Below w.heap.size w (w.alloc (.cells #[.complex .f32 0 0, .complex .f32 0 0, .complex .f32 0 0, .complex .f32 0 0] 36)) := (Below.refl _ _).alloc (Nat.le_refl _) _
  have hB := h.lt
  have hBn : B ≠ w.heap.size := by omega
  have HC := Lib.hid (h.below b0 h.lt)
  have X0 := Lib.hid X
  have G0 := Lib.hid (toGrown b0 (some B))
  have hn := neg_word
  clear X b0 h
  rcases (by omega : k = 0 ∨ k = 1 ∨ k = 2 ∨ k = 3) with rfl | rfl | rfl | rfl
  · show Calls _ _ _ _ fun e w' => e = .returned (quad 1060439283 0 0 0 0 0 1060439283 0) ∧ _
    unfold quad
    go_enter Try.func45, Try.ntmps45
    go_wp2_with fail
    refine (half_calc B _ HC.out).mono ?_
    rintro e w1 ⟨rfl, hc1, g1⟩
    have X1 := Lib.hid (X0.out.keep (g1.block w.heap.size (by simp) (fun e => by have := Option.some.inj e; omega)))
    have C1 := Lib.hid hc1
    have G1 := Lib.hid (G0.out.trans g1)
    clear hc1 g1
    obtain ⟨c0, c1, c2, c3⟩ := X1.out.cells
    have g0 := X1.out.frozen 0
    have g1 := X1.out.frozen 1
    have g2 := X1.out.frozen 2
    have g3 := X1.out.frozen 3
    go_wp2_with (simp only [hn])
    obtain ⟨k0, k1, k2, k3⟩ := (X1.out.put (.complex .f32 1060439283 0) (.complex .f32 0 0) (.complex .f32 0 0) (.complex .f32 1060439283 0)).cells
    refine bodyPost_ret (v := .agg #[.complex .f32 1060439283 0, .complex .f32 0 0, .complex .f32 0 0, .complex .f32 1060439283 0]) (by simp [results, Try.results45, go_sem, c0, c1, c2, c3]) rfl ?_
    exact ⟨rfl, high4 C1.out G1.out hBn (Nat.le_refl _) _ _ _ _⟩
  · show Calls _ _ _ _ fun e w' => e = .returned (quad 1060439283 0 0 0 0 0 3207922931 0) ∧ _
    unfold quad
    go_enter Try.func45, Try.ntmps45
    go_wp2_with fail
    refine (half_calc B _ HC.out).mono ?_
    rintro e w1 ⟨rfl, hc1, g1⟩
    have X1 := Lib.hid (X0.out.keep (g1.block w.heap.size (by simp) (fun e => by have := Option.some.inj e; omega)))
    have C1 := Lib.hid hc1
    have G1 := Lib.hid (G0.out.trans g1)
    clear hc1 g1
    obtain ⟨c0, c1, c2, c3⟩ := X1.out.cells
    have g0 := X1.out.frozen 0
    have g1 := X1.out.frozen 1
    have g2 := X1.out.frozen 2
    have g3 := X1.out.frozen 3
    go_wp2_with (simp only [hn])
    obtain ⟨k0, k1, k2, k3⟩ := (X1.out.put (.complex .f32 1060439283 0) (.complex .f32 0 0) (.complex .f32 0 0) (.complex .f32 3207922931 0)).cells
    refine bodyPost_ret (v := .agg #[.complex .f32 1060439283 0, .complex .f32 0 0, .complex .f32 0 0, .complex .f32 3207922931 0]) (by simp [results, Try.results45, go_sem, c0, c1, c2, c3]) rfl ?_
    exact ⟨rfl, high4 C1.out G1.out hBn (Nat.le_refl _) _ _ _ _⟩
  · show Calls _ _ _ _ fun e w' => e = .returned (quad 0 0 1060439283 0 1060439283 0 0 0) ∧ _
    unfold quad
    go_enter Try.func45, Try.ntmps45
    go_wp2_with fail
    refine (half_calc B _ HC.out).mono ?_
    rintro e w1 ⟨rfl, hc1, g1⟩
    have X1 := Lib.hid (X0.out.keep (g1.block w.heap.size (by simp) (fun e => by have := Option.some.inj e; omega)))
    have C1 := Lib.hid hc1
    have G1 := Lib.hid (G0.out.trans g1)
    clear hc1 g1
    obtain ⟨c0, c1, c2, c3⟩ := X1.out.cells
    have g0 := X1.out.frozen 0
    have g1 := X1.out.frozen 1
    have g2 := X1.out.frozen 2
    have g3 := X1.out.frozen 3
    go_wp2_with (simp only [hn])
    obtain ⟨k0, k1, k2, k3⟩ := (X1.out.put (.complex .f32 0 0) (.complex .f32 1060439283 0) (.complex .f32 1060439283 0) (.complex .f32 0 0)).cells
    refine bodyPost_ret (v := .agg #[.complex .f32 0 0, .complex .f32 1060439283 0, .complex .f32 1060439283 0, .complex .f32 0 0]) (by simp [results, Try.results45, go_sem, c0, c1, c2, c3]) rfl ?_
    exact ⟨rfl, high4 C1.out G1.out hBn (Nat.le_refl _) _ _ _ _⟩
  · show Calls _ _ _ _ fun e w' => e = .returned (quad 0 0 1060439283 0 3207922931 0 0 0) ∧ _
    unfold quad
    go_enter Try.func45, Try.ntmps45
    go_wp2_with fail
    refine (half_calc B _ HC.out).mono ?_
    rintro e w1 ⟨rfl, hc1, g1⟩
    have X1 := Lib.hid (X0.out.keep (g1.block w.heap.size (by simp) (fun e => by have := Option.some.inj e; omega)))
    have C1 := Lib.hid hc1
    have G1 := Lib.hid (G0.out.trans g1)
    clear hc1 g1
    obtain ⟨c0, c1, c2, c3⟩ := X1.out.cells
    have g0 := X1.out.frozen 0
    have g1 := X1.out.frozen 1
    have g2 := X1.out.frozen 2
    have g3 := X1.out.frozen 3
    go_wp2_with (simp only [hn])
    obtain ⟨k0, k1, k2, k3⟩ := (X1.out.put (.complex .f32 0 0) (.complex .f32 1060439283 0) (.complex .f32 3207922931 0) (.complex .f32 0 0)).cells
    refine bodyPost_ret (v := .agg #[.complex .f32 0 0, .complex .f32 1060439283 0, .complex .f32 3207922931 0, .complex .f32 0 0]) (by simp [results, Try.results45, go_sem, c0, c1, c2, c3]) rfl ?_
    exact ⟨rfl, high4 C1.out G1.out hBn (Nat.le_refl _) _ _ _ _⟩
theorem toldQ_any (B : Nat) (c0 c1 c2 c3 c4 c5 c6 c7 : Nat) (w : World) (h : CalcAt w B 0) : Calls Try.prog 44 #[.pointer (some ⟨B, 0, none⟩), .agg #[.complex .f32 c0 c1, .complex .f32 c2 c3, .complex .f32 c4 c5, .complex .f32 c6 c7]] w fun e w' =>
    e = .returned (.tuple #[.agg #[.complex .f32 c0 c1, .complex .f32 c2 c3, .complex .f32 c4 c5, .complex .f32 c6 c7], .int .i64 0]) ∧ Below w.heap.size w w' := by
  have b0 : Below w.heap.size w ((w.alloc (.cells #[.complex .f32 c0 c1, .complex .f32 c2 c3, .complex .f32 c4 c5, .complex .f32 c6 c7] 36)).alloc (.cells #[.complex .f32 0 0, .complex .f32 0 0, .complex .f32 0 0, .complex .f32 0 0] 36)) := ((Below.refl _ _).alloc (Nat.le_refl _) _).alloc (by simp) _
  have hc := (h.below b0 h.lt).cell
  clear b0 h
  go_enter Try.func44, Try.ntmps44
  go_wp2_with fail
  refine bodyPost_ret (v := .tuple #[.agg #[.complex .f32 c0 c1, .complex .f32 c2 c3, .complex .f32 c4 c5, .complex .f32 c6 c7], .int .i64 0]) (by simp [results, Try.results44, go_sem]) rfl ?_
  exact ⟨rfl, ((Below.refl _ _).alloc (Nat.le_refl _) _).alloc (by simp) _⟩
theorem isBell_any (k : Int) (w : World) : Calls Try.prog 43 #[.int .i64 k] w fun e w' => e = .returned (.bool (decide (0 ≤ k) && decide (k ≤ 3))) ∧ w = w' := by
  go_enter Try.func43, Try.ntmps43
  go_wp2_with (go_at_call 77; refine (within_any k 0 3 _).mono ?_; rintro e w' ⟨rfl, rfl⟩)
  go_ret
  exact ⟨rfl, rfl⟩
theorem bellV_quad (k : Int) : ∃ a b c d e f g h, bellV k = quad a b c d e f g h := by
  obtain ⟨a, b, c, d, e, f, g, h, _, h2⟩ := bell_parts k
  exact ⟨_, _, _, _, _, _, _, _, h2⟩
set_option maxHeartbeats 1000000 in
theorem implBell_any (k : Int) (w : World) : Calls Try.prog 17 #[.int .i64 k] w (TellsQ (bellV k) (bellC k) w) := by
  have X := row4_new w (.complex .f32 0 0) (.complex .f32 0 0) (.complex .f32 0 0) (.complex .f32 0 0) 36
  have b0 : Below w.heap.size w (w.alloc (.cells #[.complex .f32 0 0, .complex .f32 0 0, .complex .f32 0 0, .complex .f32 0 0] 36)) := (Below.refl _ _).alloc (Nat.le_refl _) _
  by_cases hk : 0 ≤ k ∧ k ≤ 3
  · have hd : (decide (0 ≤ k) && decide (k ≤ 3)) = true := by simp [hk]
    have hcd : bellC k = 0 := by unfold bellC; rw [if_pos hk]
    have hb := fun B w => bell_any B k w hk.1 hk.2
    obtain ⟨p0, p1, p2, p3, p4, p5, p6, p7, hq⟩ := bellV_quad k
    rw [hcd]
    rw [hq] at hb ⊢
    have HB := Lib.hid hb; clear hb hk hq hcd
    unfold TellsQ quad at *
    go_enter Try.func17, Try.ntmps17
    go_wp2_with (go_at_call 43; refine (isBell_any k _).mono ?_; rintro e w' ⟨rfl, rfl⟩; rw [hd])
    refine (HB.out (w.heap.size + 1) _ (by have := calc_new' (w.alloc (.cells #[.complex .f32 0 0, .complex .f32 0 0, .complex .f32 0 0, .complex .f32 0 0] 36)); simp only [World.size_alloc] at this; exact this)).mono ?_
    rintro e w2 ⟨rfl, hc2, g2⟩
    have X2 := (X.alloc (.cells #[.int .i64 0] 67)).keep (g2.block w.heap.size (by simp; omega) (fun e => by have := Option.some.inj e; omega))
    have B2 : Below w.heap.size w w2 := (b0.alloc b0.size (.cells #[.int .i64 0] 67)).grown g2 (by simp; omega) (fun g e => by cases e; omega)
    go_wp2_with fail
    refine (toldQ_any _ p0 p1 p2 p3 p4 p5 p6 p7 _ hc2).mono ?_
    rintro e w3 ⟨rfl, b3⟩
    have X3 := Lib.hid (X2.below b3 X2.lt)
    have B3 := Lib.hid (B2.trans (b3.mono B2.size))
    clear X X2 B2 b0 b3 hc2 g2
    obtain ⟨c0, c1, c2, c3⟩ := X3.out.cells
    have g0 := X3.out.frozen 0
    have g1 := X3.out.frozen 1
    have g2 := X3.out.frozen 2
    have g3 := X3.out.frozen 3
    go_wp2
    obtain ⟨k0, k1, k2, k3⟩ := (X3.out.put (.complex .f32 p0 p1) (.complex .f32 p2 p3) (.complex .f32 p4 p5) (.complex .f32 p6 p7)).cells
    refine bodyPost_ret (v := .tuple #[.agg #[.complex .f32 p0 p1, .complex .f32 p2 p3, .complex .f32 p4 p5, .complex .f32 p6 p7], .int .i64 0]) (by simp [results, Try.results17, go_sem, c0, c1, c2, c3]) rfl ?_
    exact ⟨rfl, below_set4 B3.out (Nat.le_refl _) _ _ _ _⟩
  · have hd : (decide (0 ≤ k) && decide (k ≤ 3)) = false := by simp; omega
    have hcd : bellC k = 2 := by unfold bellC; rw [if_neg hk]
    have hq : bellV k = quad 0 0 0 0 0 0 0 0 := by unfold bellV; rw [if_neg hk]
    rw [hcd, hq]
    clear hcd hq hk X
    have B0 := Lib.hid b0; clear b0
    unfold TellsQ quad
    go_enter Try.func17, Try.ntmps17
    go_wp2_with (go_at_call 43; refine (isBell_any k _).mono ?_; rintro e w' ⟨rfl, rfl⟩; rw [hd])
    refine bodyPost_ret (v := .tuple #[.agg #[.complex .f32 0 0, .complex .f32 0 0, .complex .f32 0 0, .complex .f32 0 0], .int .i64 2]) (by simp [results, Try.results17, go_sem]) rfl ?_
    exact ⟨rfl, B0.out⟩
end Go.Proofs.Ytkfahacnanlnfaa
namespace Go.Proofs.Ytkfahacnanlnfaa
open Go.RowKit Ieee

theorem sameComplex_any (a b : Nat) (w : World) (ha : fin64 a = true) (hb : fin64 b = true) : Calls Try.prog 46 #[.complex .f64 a b, .complex .f64 a b] w fun e w' => e = .returned (.bool true) ∧ w = w' := by
  have HA := Lib.hid ha; clear ha
  have HB := Lib.hid hb; clear hb
  go_enter Try.func46, Try.ntmps46
  go_wp2_with fail
  refine (sameFloat_any a _ HA.out).mono ?_
  rintro e w' ⟨rfl, rfl⟩
  go_wp2_with fail
  refine (sameFloat_any b _ HB.out).mono ?_
  rintro e w' ⟨rfl, rfl⟩
  go_wp2
  go_ret
  exact ⟨rfl, rfl⟩
theorem wide_cplx {a b : Nat} (ha : fin32 a = true) (hb : fin32 b = true) (w : World) : (convert 34 74 (.complex .f32 a b)).run Try.prog w = .ok (.complex .f64 (wide a) (wide b)) w := by
  obtain ⟨s, m, e, hr⟩ := fin_iff.1 ha
  obtain ⟨s', m', e', hr'⟩ := fin_iff.1 hb
  exact run_convert_complex w 34 74 .f32 .f64 a b _ _ (by rw [Try.underlying34]; rfl) Try.underlying74 (by unfold cConvBits; rw [(wide_num hr).1, (wide_num hr').1]; rfl)

/-- What lies there while two pairs are compared. -/
def Two4 (w : World) (a b c d : Value) (w' : World) : Prop := Row4 w' w.heap.size a b c d ∧ Row4 w' (w.heap.size + 1) a b c d ∧ Below w.heap.size w w'
theorem Two4.drewN {w w1 : World} {a b c d : Value} (h : Two4 w a b c d w1) (n : Nat) : Two4 w a b c d (w1.drewN n) :=
  ⟨h.1, h.2.1, h.2.2.trans ⟨rfl, rfl, rfl, Nat.le_refl _, fun _ _ => rfl⟩⟩
theorem two4_start (w : World) (a b c d : Value) : Two4 w a b c d ((w.alloc (.cells #[a, b, c, d] 36)).alloc (.cells #[a, b, c, d] 36)) := by
  have Y := row4_new (w.alloc (.cells #[a, b, c, d] 36)) a b c d 36
  simp only [World.size_alloc] at Y
  exact ⟨(row4_new w a b c d 36).alloc _, Y, ((Below.refl _ _).alloc (Nat.le_refl _) _).alloc (by simp) _⟩

set_option maxHeartbeats 1000000 in
theorem eqPair_any (p0 p1 p2 p3 p4 p5 p6 p7 : Nat) (w : World) (f0 : fin32 p0 = true) (f1 : fin32 p1 = true) (f2 : fin32 p2 = true) (f3 : fin32 p3 = true) (f4 : fin32 p4 = true) (f5 : fin32 p5 = true) (f6 : fin32 p6 = true) (f7 : fin32 p7 = true) :
    Calls Try.prog 18 #[quad p0 p1 p2 p3 p4 p5 p6 p7, quad p0 p1 p2 p3 p4 p5 p6 p7] w fun e w' => e = .returned (.bool true) ∧ Below w.heap.size w w' := by
  have T0 := Lib.hid (two4_start w (.complex .f32 p0 p1) (.complex .f32 p2 p3) (.complex .f32 p4 p5) (.complex .f32 p6 p7))
  have h0 := wide_cplx f0 f1
  have h1 := wide_cplx f2 f3
  have h2 := wide_cplx f4 f5
  have h3 := wide_cplx f6 f7
  have G0 := Lib.hid (And.intro (fin_wide f0) (fin_wide f1))
  have G1 := Lib.hid (And.intro (fin_wide f2) (fin_wide f3))
  have G2 := Lib.hid (And.intro (fin_wide f4) (fin_wide f5))
  have G3 := Lib.hid (And.intro (fin_wide f6) (fin_wide f7))
  clear f0 f1 f2 f3 f4 f5 f6 f7
  generalize wide p0 = q0 at *
  generalize wide p1 = q1 at *
  generalize wide p2 = q2 at *
  generalize wide p3 = q3 at *
  generalize wide p4 = q4 at *
  generalize wide p5 = q5 at *
  generalize wide p6 = q6 at *
  generalize wide p7 = q7 at *
  unfold quad
  go_enter Try.func18, Try.ntmps18
  go_wp2
  go_loopw [5] (fun i wr => ∃ k : Nat, k ≤ 4 ∧ i = .int .i64 k ∧ Two4 w (.complex .f32 p0 p1) (.complex .f32 p2 p3) (.complex .f32 p4 p5) (.complex .f32 p6 p7) wr) (fun i _ => 4 - (intOf i).toNat)
  case atStart => exact ⟨0, by omega, rfl, T0.out⟩
  case round =>
    obtain ⟨k, hk, rfl, ht⟩ := hrel
    clear T0
    obtain ⟨c0, c1, c2, c3⟩ := ht.1.cells
    obtain ⟨d0, d1, d2, d3⟩ := ht.2.1.cells
    have TT := Lib.hid ht; clear ht
    rcases (by omega : k = 0 ∨ k = 1 ∨ k = 2 ∨ k = 3 ∨ k = 4) with rfl | rfl | rfl | rfl | rfl
    · go_wp2
      go_quiet ((go_at_call 46; exact Calls.quiet_of_same ((sameComplex_any q0 q1 _ G0.out.1 G0.out.2).mono fun _ _ h => ⟨h.1, h.2.symm⟩)))
      go_wp2
      exact ⟨⟨1, by omega, by rfl, TT.out.drewN _⟩, by decide⟩
    · go_wp2
      go_quiet ((go_at_call 46; exact Calls.quiet_of_same ((sameComplex_any q2 q3 _ G1.out.1 G1.out.2).mono fun _ _ h => ⟨h.1, h.2.symm⟩)))
      go_wp2
      exact ⟨⟨2, by omega, by rfl, TT.out.drewN _⟩, by decide⟩
    · go_wp2
      go_quiet ((go_at_call 46; exact Calls.quiet_of_same ((sameComplex_any q4 q5 _ G2.out.1 G2.out.2).mono fun _ _ h => ⟨h.1, h.2.symm⟩)))
      go_wp2
      exact ⟨⟨3, by omega, by rfl, TT.out.drewN _⟩, by decide⟩
    · go_wp2
      go_quiet ((go_at_call 46; exact Calls.quiet_of_same ((sameComplex_any q6 q7 _ G3.out.1 G3.out.2).mono fun _ _ h => ⟨h.1, h.2.symm⟩)))
      go_wp2
      exact ⟨⟨4, by omega, by rfl, TT.out.drewN _⟩, by decide⟩
    · go_wp2
      go_ret
      exact ⟨rfl, TT.out.2.2⟩
theorem eqPair_agg (p0 p1 p2 p3 p4 p5 p6 p7 : Nat) (w : World) (f : fin32 p0 = true ∧ fin32 p1 = true ∧ fin32 p2 = true ∧ fin32 p3 = true ∧ fin32 p4 = true ∧ fin32 p5 = true ∧ fin32 p6 = true ∧ fin32 p7 = true) :
    Calls Try.prog 18 #[.agg #[.complex .f32 p0 p1, .complex .f32 p2 p3, .complex .f32 p4 p5, .complex .f32 p6 p7], .agg #[.complex .f32 p0 p1, .complex .f32 p2 p3, .complex .f32 p4 p5, .complex .f32 p6 p7]] w fun e w' => e = .returned (.bool true) ∧ Below w.heap.size w w' :=
  eqPair_any p0 p1 p2 p3 p4 p5 p6 p7 w f.1 f.2.1 f.2.2.1 f.2.2.2.1 f.2.2.2.2.1 f.2.2.2.2.2.1 f.2.2.2.2.2.2.1 f.2.2.2.2.2.2.2

theorem bell_fin (k : Int) : ∃ p0 p1 p2 p3 p4 p5 p6 p7, bellV k = quad p0 p1 p2 p3 p4 p5 p6 p7 ∧ (fin32 p0 = true ∧ fin32 p1 = true ∧ fin32 p2 = true ∧ fin32 p3 = true ∧ fin32 p4 = true ∧ fin32 p5 = true ∧ fin32 p6 = true ∧ fin32 p7 = true) := by
  have z : fin32 0 = true := by decide +kernel
  have y : fin32 1060439283 = true := by decide +kernel
  have x : fin32 3207922931 = true := by decide +kernel
  unfold bellV
  by_cases hk : 0 ≤ k ∧ k ≤ 3
  · rw [if_pos hk]
    by_cases h0 : k = 0
    · rw [if_pos h0]; exact ⟨_, _, _, _, _, _, _, _, rfl, y, z, z, z, z, z, y, z⟩
    · rw [if_neg h0]
      by_cases h1 : k = 1
      · rw [if_pos h1]; exact ⟨_, _, _, _, _, _, _, _, rfl, y, z, z, z, z, z, x, z⟩
      · rw [if_neg h1]
        by_cases h2 : k = 2
        · rw [if_pos h2]; exact ⟨_, _, _, _, _, _, _, _, rfl, z, z, y, z, y, z, z, z⟩
        · rw [if_neg h2]; exact ⟨_, _, _, _, _, _, _, _, rfl, z, z, y, z, x, z, z, z⟩
  · rw [if_neg hk]; exact ⟨_, _, _, _, _, _, _, _, rfl, z, z, z, z, z, z, z, z⟩

set_option maxHeartbeats 1000000 in
theorem bell_walk (k : Int) (w : World) : Calls Try.prog 5 #[.int .i64 k] w fun e w' => e = .returned (.bool true) ∧ Below w.heap.size w w' := by
  have hs := fun w => specBell_any k w
  have hi := fun w => implBell_any k w
  obtain ⟨p0, p1, p2, p3, p4, p5, p6, p7, hq, hf⟩ := bell_fin k
  rw [hq] at hs hi
  have HF := Lib.hid hf; clear hf hq
  generalize bellC k = q at *
  unfold TellsQ quad at hs hi
  have HS := Lib.hid hs; clear hs
  have HI := Lib.hid hi; clear hi
  go_enter Try.func5, Try.ntmps5
  go_wp2_with fail
  refine (HS.out _).mono ?_
  rintro e w1 ⟨rfl, b1⟩
  have X1 := row4_new w1 (.complex .f32 p0 p1) (.complex .f32 p2 p3) (.complex .f32 p4 p5) (.complex .f32 p6 p7) 36
  have B1 := b1.alloc b1.size (.cells #[.complex .f32 p0 p1, .complex .f32 p2 p3, .complex .f32 p4 p5, .complex .f32 p6 p7] 36)
  have HX1 := Lib.hid X1; clear X1
  have HB1 := Lib.hid B1; clear B1 b1
  go_wp2_with fail
  refine (HI.out _).mono ?_
  rintro e w2 ⟨rfl, b2⟩
  have X2 := Lib.hid (HX1.out.below b2 HX1.out.lt)
  have B2 := Lib.hid (HB1.out.trans (b2.mono HB1.out.size))
  clear b2 HX1 HB1
  obtain ⟨c0, c1, c2, c3⟩ := X2.out.cells
  have lt := X2.out.lt
  go_wp2_with fail
  refine (eqPair_agg p0 p1 p2 p3 p4 p5 p6 p7 _ HF.out).mono ?_
  rintro e w3 ⟨rfl, b3⟩
  have B3 := Lib.hid ((B2.out.alloc B2.out.size _).trans (b3.mono (Nat.le_trans B2.out.size (by simp))))
  clear b3
  go_wp2
  go_ret
  exact ⟨rfl, B3.out⟩
end Go.Proofs.Ytkfahacnanlnfaa
