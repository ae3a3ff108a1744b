/- Walks: the program's halvings. -/
/- Walks: the program's tables of pulses. -/
/- Walks: the program's tables of pulses. -/
import Derived.Test.YtkfahacnanlnfaaZFb
namespace Go.Proofs.Ytkfahacnanlnfaa
open Go.RowKit Ieee

theorem hvq_zero (q : Int) : hvq q 0 = (0, 1065353216) := by unfold hvq; split <;> rfl
/-- The calls of one step. -/
theorem hvq_step (B : Nat) (q : Int) (j : Nat) (hj : j < 24) : ∃ a h d, (∀ w, CalcAt w B q → Calls Try.prog 55 #[.pointer (some ⟨B, 0, none⟩), .float .f32 1065353216, .float .f32 (hvq q j).1] w (CalcPost B q a w)) ∧
    (∀ w, CalcAt w B q → Calls Try.prog 54 #[.pointer (some ⟨B, 0, none⟩), .float .f32 a, .float .f32 1073741824] w (CalcPost B q h w)) ∧
    (∀ w, CalcAt w B q → Calls Try.prog 50 #[.pointer (some ⟨B, 0, none⟩), .float .f32 h] w (CalcPost B q (hvq q (j + 1)).1 w)) ∧
    (∀ w, CalcAt w B q → Calls Try.prog 149 #[.pointer (some ⟨B, 0, none⟩), .float .f32 (hvq q (j + 1)).1] w (CalcPost B q d w)) ∧
    (∀ w, CalcAt w B q → Calls Try.prog 54 #[.pointer (some ⟨B, 0, none⟩), .float .f32 (hvq q j).2, .float .f32 d] w (CalcPost B q (hvq q (j + 1)).2 w)) := by
  have two0 : (FloatKind.f32.format.order 1073741824 0 == some .eq) = false := by decide +kernel
  by_cases hq : q = 0
  · subst hq
    have e1 : ∀ k, hvq 0 k = hv k := fun k => by unfold hvq; rw [if_pos rfl]
    have e2 : (hv (j + 1)).1 = hvC (hv j).1 := rfl
    have e3 : (hv (j + 1)).2 = hvZ (hv j).1 (hv j).2 := rfl
    have hs := hv_step j hj
    rw [e1, e1, e2, e3]
    generalize (hv j).1 = c at *
    generalize (hv j).2 = s at *
    obtain ⟨m, e, hm1, hm2⟩ := hs.ph
    obtain ⟨m', e', hm1', hm2'⟩ := hs.pd
    have hd0 : (FloatKind.f32.format.order (hvD c) 0 == some .eq) = false := by
      show (single.order (hvD c) 0 == some .eq) = false
      rw [order_read hm1', if_neg hm2']; rfl
    refine ⟨op32 .add 1065353216 c, hvH c, hvD c, fun w hw => ?_, fun w hw => ?_, fun w hw => ?_, fun w hw => ?_, fun w hw => ?_⟩
    · have := addF_any B 0 1065353216 c w hw fin_one32 hs.fc hs.fa
      rw [fz0, hs.za] at this; exact this
    · have := divG_any B 0 _ _ _ w hw two0 hs.rh hs.fh
      rw [fz0, hs.zh] at this; exact this
    · refine (calcRoot_pos B 0 (hvH c) m e w hw hm1 hm2).mono fun e w' hp => ?_
      have := calc_fz (show fin32 (rtv (hvH c)) = true from hs.fk) hp
      rw [fz0, show rtv (hvH c) = hvC c from rfl, hs.zk] at this; exact this
    · have := double_any B 0 (hvC c) w hw hs.fk (by rw [hs.dd]; exact hs.fd)
      rw [fz0, hs.dd, hs.zd] at this; exact this
    · have := divG_any B 0 _ _ _ w hw hd0 hs.rz hs.fz
      rw [fz0, hs.zz] at this; exact this
  · have e1 : ∀ k, (hvq q k).1 = 0 := fun k => by unfold hvq; rw [if_neg hq]; split <;> rfl
    have e2 : (hvq q (j + 1)).2 = 0 := by unfold hvq; rw [if_neg hq, if_neg (by omega)]
    rw [e1, e1, e2]
    refine ⟨0, 0, 0, fun w hw => ?_, fun w hw => ?_, fun w hw => ?_, fun w hw => ?_, fun w hw => ?_⟩
    · have := addF_any B q 1065353216 0 w hw fin_one32 fin_zero (by decide +kernel)
      rw [fz_not hq] at this; exact this
    · have := divG_any B q 0 1073741824 0 w hw two0 (by decide +kernel) fin_zero
      rw [fz_not hq] at this; exact this
    · refine (calcRoot_zero B q w hw).mono fun e w' hp => ?_
      have := calc_fz fin_zero hp
      rw [fz_not hq] at this; exact this
    · have := double_any B q 0 w hw fin_zero (by decide +kernel)
      rw [fz_not hq] at this; exact this
    · exact divZ_any B q _ 0 w hw (by decide +kernel)
set_option maxHeartbeats 1000000 in
theorem halved_any (B : Nat) (q : Int) (k : Nat) (w : World) (h : CalcAt w B q) (hk : k ≤ 24) : Calls Try.prog 140 #[.pointer (some ⟨B, 0, none⟩), .int .i64 (k : Int)] w fun e w' =>
    e = .returned (.tuple #[.float .f32 (hvq q k).1, .float .f32 (hvq q k).2]) ∧ CalcAt w' B q ∧ w.grownBy w' (some B) := by
  have HC := Lib.hid h; clear h
  have z0 := hvq_zero q
  go_enter Try.func140, Try.ntmps140
  go_wp2
  go_loopw [6, 7, 9] (fun c s n wr => ∃ j : Nat, j ≤ k ∧ n = .int .i64 (j : Int) ∧ c = .float .f32 (hvq q j).1 ∧ s = .float .f32 (hvq q j).2 ∧ CalcAt wr B q ∧ w.grownBy wr (some B)) (fun _ _ n _ => k - (intOf n).toNat)
  case atStart => exact ⟨0, Nat.zero_le _, rfl, by rw [z0], by rw [z0], HC.out, World.grownBy.refl _ _⟩
  case round =>
    obtain ⟨j, hj, rfl, rfl, rfl, hc, hg⟩ := hrel
    clear z0
    by_cases hlt : j < k
    · obtain ⟨a, hh, d, K1, K2, K3, K4, K5⟩ := hvq_step B q j (by omega)
      obtain ⟨c', ec⟩ : ∃ c', (hvq q (j + 1)).1 = c' := ⟨_, rfl⟩
      obtain ⟨s', es⟩ : ∃ s', (hvq q (j + 1)).2 = s' := ⟨_, rfl⟩
      rw [ec] at K3 K4
      rw [es] at K5
      obtain ⟨c, ec0⟩ : ∃ c', (hvq q j).1 = c' := ⟨_, rfl⟩
      obtain ⟨s, es0⟩ : ∃ s', (hvq q j).2 = s' := ⟨_, rfl⟩
      rw [ec0] at K1
      rw [es0] at K5
      rw [ec0, es0]
      clear ec0 es0
      have E := Lib.hid (And.intro ec es); clear ec es
      have L1 := Lib.hid K1; have L2 := Lib.hid K2; have L3 := Lib.hid K3; have L4 := Lib.hid K4; have L5 := Lib.hid K5
      clear K1 K2 K3 K4 K5
      have C0 := Lib.hid hc; clear hc
      have G0 := Lib.hid hg; clear hg
      go_wp2_with fail
      refine (L1.out _ C0.out).mono ?_
      rintro e w1 ⟨rfl, hc1, hg1⟩
      have C1 := Lib.hid hc1; have G1 := Lib.hid (G0.out.trans hg1); clear hc1 hg1 C0 G0
      go_wp2_with fail
      refine (L2.out _ C1.out).mono ?_
      rintro e w2 ⟨rfl, hc1, hg1⟩
      have C2 := Lib.hid hc1; have G2 := Lib.hid (G1.out.trans hg1); clear hc1 hg1 C1 G1
      go_wp2_with fail
      refine (L3.out _ C2.out).mono ?_
      rintro e w3 ⟨rfl, hc1, hg1⟩
      have C3 := Lib.hid hc1; have G3 := Lib.hid (G2.out.trans hg1); clear hc1 hg1 C2 G2
      go_wp2_with fail
      refine (L4.out _ C3.out).mono ?_
      rintro e w4 ⟨rfl, hc1, hg1⟩
      have C4 := Lib.hid hc1; have G4 := Lib.hid (G3.out.trans hg1); clear hc1 hg1 C3 G3
      go_wp2_with fail
      refine (L5.out _ C4.out).mono ?_
      rintro e w5 ⟨rfl, hc1, hg1⟩
      have C5 := Lib.hid hc1; have G5 := Lib.hid (G4.out.trans hg1); clear hc1 hg1 C4 G4
      go_wp2
      exact ⟨⟨j + 1, by omega, by go_num, by rw [E.out.1], by rw [E.out.2], C5.out, G5.out⟩, by simp [intOf]; omega⟩
    · obtain rfl : j = k := by omega
      obtain ⟨c, hc0⟩ : ∃ c, (hvq q j).1 = c := ⟨_, rfl⟩
      obtain ⟨s, hs0⟩ : ∃ s, (hvq q j).2 = s := ⟨_, rfl⟩
      have E := Lib.hid (And.intro hc0 hs0)
      rw [hc0, hs0]
      clear hc0 hs0
      have C0 := Lib.hid hc; clear hc
      have G0 := Lib.hid hg; clear hg
      go_wp2
      go_ret2
      exact ⟨by rw [E.out.1, E.out.2]; rfl, C0.out, G0.out⟩
end Go.Proofs.Ytkfahacnanlnfaa
namespace Go.Proofs.Ytkfahacnanlnfaa
open Go.RowKit Ieee
attribute [local go_sem ↓] Go.wp_at_zero Go.wp_at_succ

theorem calcDrewN {w : World} {B : Nat} {q : Int} (h : CalcAt w B q) (n : Nat) : CalcAt (w.drewN n) B q := h
theorem grownDrewN {w w' : World} {r : Option Nat} (h : w.grownBy w' r) (n : Nat) : w.grownBy (w'.drewN n) r := ⟨h.os, h.tape, h.output, h.size, h.block⟩
theorem rowDrewN {w : World} {B : Nat} {a b c d : Value} (h : Row4 w B a b c d) (n : Nat) : Row4 (w.drewN n) B a b c d := h
set_option maxHeartbeats 1000000 in
theorem ofParts_any (B : Nat) (q : Int) (p0 p1 p2 p3 : Nat) (w : World) (h : CalcAt w B q) (f0 : fin32 p0 = true) (f1 : fin32 (ng p1) = true) (f2 : fin32 p2 = true) (f2' : fin32 (ng p2) = true) (f3 : fin32 p3 = true) (f3' : fin32 (ng p3) = true) :
    Calls Try.prog 141 #[.pointer (some ⟨B, 0, none⟩), .agg #[.float .f32 p0, .float .f32 p1, .float .f32 p2, .float .f32 p3]] w (CalcT B q (fzT q (tab p0 p1 p2 p3)) w) := by
  have hB := h.lt
  have Y := (row4_new w (.float .f32 p0) (.float .f32 p1) (.float .f32 p2) (.float .f32 p3) 132).alloc (.cells #[.complex .f32 0 0, .complex .f32 0 0, .complex .f32 0 0, .complex .f32 0 0] 51)
  have X := row4_new (w.alloc (.cells #[.float .f32 p0, .float .f32 p1, .float .f32 p2, .float .f32 p3] 132)) (.complex .f32 0 0) (.complex .f32 0 0) (.complex .f32 0 0) (.complex .f32 0 0) 51
  simp only [World.size_alloc] at X
  have b0 : Below w.heap.size w ((w.alloc (.cells #[.float .f32 p0, .float .f32 p1, .float .f32 p2, .float .f32 p3] 132)).alloc (.cells #[.complex .f32 0 0, .complex .f32 0 0, .complex .f32 0 0, .complex .f32 0 0] 51)) := ((Below.refl _ _).alloc (Nat.le_refl _) _).alloc (by simp) _
  have HC := Lib.hid (h.below b0 h.lt); clear h
  have HG := Lib.hid (toGrown b0 (some B))
  obtain ⟨c0, c1, c2, c3⟩ := Y.cells
  have X0 := Lib.hid X
  clear X Y b0
  have n1 := run_neg p1
  have n2 := run_neg p2
  have n3 := run_neg p3
  have KZ1 := Lib.hid (fun w hw => z_any B q p0 (ng p3) w hw f0 f3')
  have KZ2 := Lib.hid (fun w hw => z_any B q (ng p2) (ng p1) w hw f2' f1)
  have KZ3 := Lib.hid (fun w hw => z_any B q p2 (ng p1) w hw f2 f1)
  have KZ4 := Lib.hid (fun w hw => z_any B q p0 p3 w hw f0 f3)
  clear f0 f1 f2 f2' f3 f3'
  unfold CalcT fzT tab T8.val quad
  dsimp only at *
  generalize ng p1 = m1 at *
  generalize ng p2 = m2 at *
  generalize ng p3 = m3 at *
  unfold CalcZ at *
  generalize fz q p0 = z0 at *
  generalize fz q m3 = y3 at *
  generalize fz q m2 = y2 at *
  generalize fz q m1 = y1 at *
  generalize fz q p2 = z2 at *
  generalize fz q p3 = z3 at *
  go_enter Try.func141, Try.ntmps141
  go_wp2
  go_quiet (fail)
  have C1 := Lib.hid (calcDrewN HC.out nq)
  have G1 := Lib.hid (grownDrewN HG.out nq)
  have X1 := Lib.hid (rowDrewN X0.out nq)
  generalize World.drewN _ nq = w1 at *
  clear HC HG X0 c0 c1 c2 c3
  go_wp2_with (simp only [n1, n2, n3])
  refine (KZ1.out _ C1.out).mono ?_
  rintro e w2 ⟨rfl, hc, hg⟩
  have C2 := Lib.hid hc
  have X2 := Lib.hid (X1.out.grown hg (by omega))
  have G2 := Lib.hid (G1.out.trans hg)
  clear hc hg C1 X1 G1
  go_wp2_with (simp only [n1, n2, n3])
  refine (KZ2.out _ C2.out).mono ?_
  rintro e w3 ⟨rfl, hc, hg⟩
  have C3 := Lib.hid hc
  have X3 := Lib.hid (X2.out.grown hg (by omega))
  have G3 := Lib.hid (G2.out.trans hg)
  clear hc hg C2 X2 G2
  go_wp2_with (simp only [n1, n2, n3])
  refine (KZ3.out _ C3.out).mono ?_
  rintro e w4 ⟨rfl, hc, hg⟩
  have C4 := Lib.hid hc
  have X4 := Lib.hid (X3.out.grown hg (by omega))
  have G4 := Lib.hid (G3.out.trans hg)
  clear hc hg C3 X3 G3
  go_wp2_with (simp only [n1, n2, n3])
  refine (KZ4.out _ C4.out).mono ?_
  rintro e w5 ⟨rfl, hc, hg⟩
  have C5 := Lib.hid hc
  have X5 := Lib.hid (X4.out.grown hg (by omega))
  have G5 := Lib.hid (G4.out.trans hg)
  clear hc hg C4 X4 G4
  obtain ⟨d0, d1, d2, d3⟩ := X5.out.cells
  have g0 := X5.out.frozen 0
  have g1 := X5.out.frozen 1
  have g2 := X5.out.frozen 2
  have g3 := X5.out.frozen 3
  go_wp2
  obtain ⟨k0, k1, k2, k3⟩ := (X5.out.put (.complex .f32 z0 y3) (.complex .f32 y2 y1) (.complex .f32 z2 y1) (.complex .f32 z0 z3)).cells
  refine bodyPost_ret (v := .agg #[.complex .f32 z0 y3, .complex .f32 y2 y1, .complex .f32 z2 y1, .complex .f32 z0 z3]) (by simp [results, Try.results141, go_sem, k0, k1, k2, k3]) rfl ?_
  exact ⟨rfl, high4 C5.out G5.out (by omega) (by omega) _ _ _ _⟩
theorem ofParts_val (B : Nat) (q : Int) (p0 p1 p2 p3 : Nat) (w : World) (t : T8) (ht : fzT q (tab p0 p1 p2 p3) = t) (h : CalcAt w B q) (f0 : fin32 p0 = true) (f1 : fin32 (ng p1) = true) (f2 : fin32 p2 = true) (f2' : fin32 (ng p2) = true) (f3 : fin32 p3 = true) (f3' : fin32 (ng p3) = true) :
    Calls Try.prog 141 #[.pointer (some ⟨B, 0, none⟩), .agg #[.float .f32 p0, .float .f32 p1, .float .f32 p2, .float .f32 p3]] w fun e w' => e = .returned (.agg #[.complex .f32 t.a t.b, .complex .f32 t.c t.d, .complex .f32 t.e t.f, .complex .f32 t.g t.h]) ∧ CalcAt w' B q ∧ w.grownBy w' (some B) := by
  rw [← ht]; exact ofParts_any B q p0 p1 p2 p3 w h f0 f1 f2 f2' f3 f3'
theorem fin_ng {x : Nat} (h : fin32 x = true) : fin32 (ng x) = true := by
  obtain ⟨s, m, e, hr⟩ := fin_iff.1 h
  exact fin_iff.2 ⟨_, _, _, ng_read hr⟩
end Go.Proofs.Ytkfahacnanlnfaa
namespace Go.Proofs.Ytkfahacnanlnfaa
open Go.RowKit Ieee
attribute [local go_sem ↓] Go.wp_at_zero Go.wp_at_succ

theorem about_fz (q : Int) (axis : Int) {c s c' s' : Nat} (hc : fz q c = fz q c') (hs : fz q s = fz q s') (h : q = 0 → c = c' ∧ s = s') : fzT q (about axis c s) = fzT q (about axis c' s') := by
  by_cases hq : q = 0
  · obtain ⟨rfl, rfl⟩ := h hq; rfl
  · rw [fzT_not hq, fzT_not hq]
theorem halvedTurn_any (B : Nat) (q : Int) (axis : Int) (k : Nat) (w : World) (h : CalcAt w B q) (ha : axis = 0 ∨ axis = 1 ∨ axis = 2) (hk : k ≤ 24) :
    Calls Try.prog 115 #[.pointer (some ⟨B, 0, none⟩), .int .i64 axis, .int .i64 (k : Int)] w fun e w' => e = .returned (fzT q (about axis (hv k).1 (hv k).2)).val ∧ CalcAt w' B q ∧ w.grownBy w' (some B) := by
  obtain ⟨f1, f2, e1, e2⟩ := hvq_ok q k hk
  have hab : fzT q (about axis (hvq q k).1 (hvq q k).2) = fzT q (about axis (hv k).1 (hv k).2) := about_fz q axis e1 e2 (fun h0 => by unfold hvq; rw [if_pos h0]; exact ⟨rfl, rfl⟩)
  rw [← hab]
  clear hab e1 e2
  have KH := Lib.hid (fun w hw => halved_any B q k w hw hk)
  obtain ⟨c, hc⟩ : ∃ c, (hvq q k).1 = c := ⟨_, rfl⟩
  obtain ⟨s, hs⟩ : ∃ s, (hvq q k).2 = s := ⟨_, rfl⟩
  rw [hc, hs] at KH ⊢
  rw [hc] at f1
  rw [hs] at f2
  clear hc hs
  have nf1 := fin_ng f1
  have nf2 := fin_ng f2
  have z0 := fin_zero
  have nz := fin_ng fin_zero
  have hB := h.lt
  have X := (row4_new w (.complex .f32 0 0) (.complex .f32 0 0) (.complex .f32 0 0) (.complex .f32 0 0) 51).alloc (.cells #[.float .f32 0, .float .f32 0, .float .f32 0, .float .f32 0] 132)
  have Y := row4_new (w.alloc (.cells #[.complex .f32 0 0, .complex .f32 0 0, .complex .f32 0 0, .complex .f32 0 0] 51)) (.float .f32 0) (.float .f32 0) (.float .f32 0) (.float .f32 0) 132
  simp only [World.size_alloc] at Y
  have b0 : Below w.heap.size w ((w.alloc (.cells #[.complex .f32 0 0, .complex .f32 0 0, .complex .f32 0 0, .complex .f32 0 0] 51)).alloc (.cells #[.float .f32 0, .float .f32 0, .float .f32 0, .float .f32 0] 132)) := ((Below.refl _ _).alloc (Nat.le_refl _) _).alloc (by simp) _
  have HC := Lib.hid (h.below b0 h.lt); clear h
  have HG := Lib.hid (toGrown b0 (some B))
  have X0 := Lib.hid X
  have Y0 := Lib.hid Y
  clear X Y b0
  rcases ha with rfl | rfl | rfl
  · obtain ⟨t, ht⟩ : ∃ t, fzT q (tab c s 0 0) = t := ⟨_, rfl⟩
    have KO := Lib.hid (fun w hw => ofParts_val B q c s 0 0 w t ht hw f1 nf2 z0 nz z0 nz)
    have ea : fzT q (about 0 c s) = t := by rw [← ht]; rfl
    rw [ea]
    clear ea ht f1 f2 nf1 nf2 z0 nz
    unfold T8.val quad
    go_enter Try.func115, Try.ntmps115
    go_wp2_with fail
    refine (KH.out _ HC.out).mono ?_
    rintro e w1 ⟨rfl, hc, hg⟩
    have C1 := hc
    have X1 := X0.out.grown hg (by omega)
    have Y1 := Y0.out.grown hg (by omega)
    have G1 := HG.out.trans hg
    obtain ⟨c0, c1, c2, c3⟩ := Y1.cells
    have g0 := Y1.frozen 0
    have g1 := Y1.frozen 1
    have g2 := Y1.frozen 2
    have g3 := Y1.frozen 3
    have Y2 := Lib.hid ((Y1.set0 (.float .f32 c)).set1 (.float .f32 s))
    have X2 := Lib.hid ((X1.other (p := ⟨w.heap.size + 1, 0, none⟩) (by simp) (.float .f32 c)).other (p := ⟨w.heap.size + 1, 1, none⟩) (by simp) (.float .f32 s))
    have C2 := Lib.hid (show CalcAt ((w1.setCell ⟨w.heap.size + 1, 0, none⟩ (.float .f32 c)).setCell ⟨w.heap.size + 1, 1, none⟩ (.float .f32 s)) B q from (Below.heap_setCell _ _ _ _ (by simp; omega)).trans ((Below.heap_setCell _ _ _ _ (by simp; omega)).trans C1))
    have G2 := Lib.hid (grown_high (grown_high G1 ⟨w.heap.size + 1, 0, none⟩ (.float .f32 c) (by simp)) ⟨w.heap.size + 1, 1, none⟩ (.float .f32 s) (by simp))
    have H1 := Lib.hid (And.intro X1 Y1)
    clear C1 X1 Y1 G1 hc hg HC HG X0 Y0
    obtain ⟨h0, h1, h2, h3⟩ := Y2.out.cells
    go_wp2_with fail
    refine (KO.out _ C2.out).mono ?_
    rintro e w3 ⟨rfl, hc, hg⟩
    have C3 := Lib.hid hc
    have X3 := Lib.hid (X2.out.grown hg (by omega))
    have G3 := Lib.hid (G2.out.trans hg)
    clear hc hg C2 X2 G2 c0 c1 c2 c3 g0 g1 g2 g3 h0 h1 h2 h3
    obtain ⟨d0, d1, d2, d3⟩ := X3.out.cells
    have g0 := X3.out.frozen 0
    have g1 := X3.out.frozen 1
    have g2 := X3.out.frozen 2
    have g3 := X3.out.frozen 3
    go_wp2
    obtain ⟨k0, k1, k2, k3⟩ := (X3.out.put (.complex .f32 t.a t.b) (.complex .f32 t.c t.d) (.complex .f32 t.e t.f) (.complex .f32 t.g t.h)).cells
    refine bodyPost_ret (v := .agg #[.complex .f32 t.a t.b, .complex .f32 t.c t.d, .complex .f32 t.e t.f, .complex .f32 t.g t.h]) (by simp [results, Try.results115, go_sem, k0, k1, k2, k3]) rfl ?_
    exact ⟨rfl, high4 C3.out G3.out (by omega) (by omega) _ _ _ _⟩
  · obtain ⟨t, ht⟩ : ∃ t, fzT q (tab c 0 s 0) = t := ⟨_, rfl⟩
    have KO := Lib.hid (fun w hw => ofParts_val B q c 0 s 0 w t ht hw f1 nz f2 nf2 z0 nz)
    have ea : fzT q (about 1 c s) = t := by rw [← ht]; rfl
    rw [ea]
    clear ea ht f1 f2 nf1 nf2 z0 nz
    unfold T8.val quad
    go_enter Try.func115, Try.ntmps115
    go_wp2_with fail
    refine (KH.out _ HC.out).mono ?_
    rintro e w1 ⟨rfl, hc, hg⟩
    have C1 := hc
    have X1 := X0.out.grown hg (by omega)
    have Y1 := Y0.out.grown hg (by omega)
    have G1 := HG.out.trans hg
    obtain ⟨c0, c1, c2, c3⟩ := Y1.cells
    have g0 := Y1.frozen 0
    have g1 := Y1.frozen 1
    have g2 := Y1.frozen 2
    have g3 := Y1.frozen 3
    have Y2 := Lib.hid ((Y1.set0 (.float .f32 c)).set2 (.float .f32 s))
    have X2 := Lib.hid ((X1.other (p := ⟨w.heap.size + 1, 0, none⟩) (by simp) (.float .f32 c)).other (p := ⟨w.heap.size + 1, 2, none⟩) (by simp) (.float .f32 s))
    have C2 := Lib.hid (show CalcAt ((w1.setCell ⟨w.heap.size + 1, 0, none⟩ (.float .f32 c)).setCell ⟨w.heap.size + 1, 2, none⟩ (.float .f32 s)) B q from (Below.heap_setCell _ _ _ _ (by simp; omega)).trans ((Below.heap_setCell _ _ _ _ (by simp; omega)).trans C1))
    have G2 := Lib.hid (grown_high (grown_high G1 ⟨w.heap.size + 1, 0, none⟩ (.float .f32 c) (by simp)) ⟨w.heap.size + 1, 2, none⟩ (.float .f32 s) (by simp))
    have H1 := Lib.hid (And.intro X1 Y1)
    clear C1 X1 Y1 G1 hc hg HC HG X0 Y0
    obtain ⟨h0, h1, h2, h3⟩ := Y2.out.cells
    go_wp2_with fail
    refine (KO.out _ C2.out).mono ?_
    rintro e w3 ⟨rfl, hc, hg⟩
    have C3 := Lib.hid hc
    have X3 := Lib.hid (X2.out.grown hg (by omega))
    have G3 := Lib.hid (G2.out.trans hg)
    clear hc hg C2 X2 G2 c0 c1 c2 c3 g0 g1 g2 g3 h0 h1 h2 h3
    obtain ⟨d0, d1, d2, d3⟩ := X3.out.cells
    have g0 := X3.out.frozen 0
    have g1 := X3.out.frozen 1
    have g2 := X3.out.frozen 2
    have g3 := X3.out.frozen 3
    go_wp2
    obtain ⟨k0, k1, k2, k3⟩ := (X3.out.put (.complex .f32 t.a t.b) (.complex .f32 t.c t.d) (.complex .f32 t.e t.f) (.complex .f32 t.g t.h)).cells
    refine bodyPost_ret (v := .agg #[.complex .f32 t.a t.b, .complex .f32 t.c t.d, .complex .f32 t.e t.f, .complex .f32 t.g t.h]) (by simp [results, Try.results115, go_sem, k0, k1, k2, k3]) rfl ?_
    exact ⟨rfl, high4 C3.out G3.out (by omega) (by omega) _ _ _ _⟩
  · obtain ⟨t, ht⟩ : ∃ t, fzT q (tab c 0 0 s) = t := ⟨_, rfl⟩
    have KO := Lib.hid (fun w hw => ofParts_val B q c 0 0 s w t ht hw f1 nz z0 nz f2 nf2)
    have ea : fzT q (about 2 c s) = t := by rw [← ht]; rfl
    rw [ea]
    clear ea ht f1 f2 nf1 nf2 z0 nz
    unfold T8.val quad
    go_enter Try.func115, Try.ntmps115
    go_wp2_with fail
    refine (KH.out _ HC.out).mono ?_
    rintro e w1 ⟨rfl, hc, hg⟩
    have C1 := hc
    have X1 := X0.out.grown hg (by omega)
    have Y1 := Y0.out.grown hg (by omega)
    have G1 := HG.out.trans hg
    obtain ⟨c0, c1, c2, c3⟩ := Y1.cells
    have g0 := Y1.frozen 0
    have g1 := Y1.frozen 1
    have g2 := Y1.frozen 2
    have g3 := Y1.frozen 3
    have Y2 := Lib.hid ((Y1.set0 (.float .f32 c)).set3 (.float .f32 s))
    have X2 := Lib.hid ((X1.other (p := ⟨w.heap.size + 1, 0, none⟩) (by simp) (.float .f32 c)).other (p := ⟨w.heap.size + 1, 3, none⟩) (by simp) (.float .f32 s))
    have C2 := Lib.hid (show CalcAt ((w1.setCell ⟨w.heap.size + 1, 0, none⟩ (.float .f32 c)).setCell ⟨w.heap.size + 1, 3, none⟩ (.float .f32 s)) B q from (Below.heap_setCell _ _ _ _ (by simp; omega)).trans ((Below.heap_setCell _ _ _ _ (by simp; omega)).trans C1))
    have G2 := Lib.hid (grown_high (grown_high G1 ⟨w.heap.size + 1, 0, none⟩ (.float .f32 c) (by simp)) ⟨w.heap.size + 1, 3, none⟩ (.float .f32 s) (by simp))
    have H1 := Lib.hid (And.intro X1 Y1)
    clear C1 X1 Y1 G1 hc hg HC HG X0 Y0
    obtain ⟨h0, h1, h2, h3⟩ := Y2.out.cells
    go_wp2_with fail
    refine (KO.out _ C2.out).mono ?_
    rintro e w3 ⟨rfl, hc, hg⟩
    have C3 := Lib.hid hc
    have X3 := Lib.hid (X2.out.grown hg (by omega))
    have G3 := Lib.hid (G2.out.trans hg)
    clear hc hg C2 X2 G2 c0 c1 c2 c3 g0 g1 g2 g3 h0 h1 h2 h3
    obtain ⟨d0, d1, d2, d3⟩ := X3.out.cells
    have g0 := X3.out.frozen 0
    have g1 := X3.out.frozen 1
    have g2 := X3.out.frozen 2
    have g3 := X3.out.frozen 3
    go_wp2
    obtain ⟨k0, k1, k2, k3⟩ := (X3.out.put (.complex .f32 t.a t.b) (.complex .f32 t.c t.d) (.complex .f32 t.e t.f) (.complex .f32 t.g t.h)).cells
    refine bodyPost_ret (v := .agg #[.complex .f32 t.a t.b, .complex .f32 t.c t.d, .complex .f32 t.e t.f, .complex .f32 t.g t.h]) (by simp [results, Try.results115, go_sem, k0, k1, k2, k3]) rfl ?_
    exact ⟨rfl, high4 C3.out G3.out (by omega) (by omega) _ _ _ _⟩
end Go.Proofs.Ytkfahacnanlnfaa
